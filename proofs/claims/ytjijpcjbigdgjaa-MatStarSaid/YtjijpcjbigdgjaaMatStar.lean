/- MatStar: a star is One, or one step and a star; twice it is once; it is no more than the table; each step by what is no more stays below. For all arguments; no condition. -/
import Derived.Test.YtjijpcjbigdgjaaMatLaws
import Derived.Test.YtjijpcjbigdgjaaStar
namespace Go.Proofs.Ytjijpcjbigdgjaa
open Go.RowKit
set_option linter.unusedVariables false

/-- A table's row and its number, at two indices. -/
theorem Mat.at_ {w : World} {ad : Addr} {n : Nat} {f : Nat → Nat → Int} (h1 : 1 ≤ n) (h : Mat w (some ad) n (fun _ => n) f) {p q : Nat} (hp : p < n) (hq : q < n) :
    ∃ Ai ci, w.cell? (ad.add p) = some (.slice (some Ai) n ci) ∧ w.cell? (Ai.add q) = some (.int .i64 (f p q)) := by
  obtain ⟨Ai, ci, hci, _, hvi⟩ := h.sq h1 p hp
  exact ⟨Ai, ci, hci.1, hvi q hq⟩

attribute [local go_sem high] run_min_pair

set_option maxRecDepth 100000 in
set_option maxHeartbeats 4000000 in
theorem matStar_walk (A : Option Addr) (n c : Nat) (L : Nat → Nat) (a : Nat → Nat → Int) (x y : Int) (w : World) (hm : Mat w A n L a) (hn : n ≤ 9223372036854775807) (hL : ∀ i, i < n → L i ≤ 9223372036854775807) :
    Calls Try.prog 14 #[.slice A n c, .int .i64 x, .int .i64 y] w fun e w' => e = .returned (.bool true) ∧ Below w.heap.size w w' := by
  have HA := Lib.hid hm
  clear hm hL
  go_enter Try.func14, Try.ntmps14
  go_wp2_with fail
  refine (tabled_walk w).mono ?_
  rintro e w1 ⟨rfl, hb1⟩
  have HB1 := Lib.hid hb1
  clear hb1
  go_wp2_with fail
  by_cases hg : Good n L a
  · have h1 := hg.1.1
    have h8 := hg.1.2.1
    have h8' : (n : Int) ≤ 8 := by omega
    have HG := Lib.hid hg
    have HS := Lib.hid (star_ranged hg.2 n (Nat.le_refl _))
    clear hg
    have hcall := matStar_ok A n c L a w1 (HA.out.keep HB1.out) HG.out
    refine hcall.mono ?_
    clear hcall
    rintro e w2 ⟨S, cS, rfl, hS, hb2⟩
    obtain ⟨sd, rfl⟩ := hS.some_ h1
    have HS2 := Lib.hid hS
    have HB2 := Lib.hid (keep HB1.out hb2)
    clear hS hb2 HB1
    rcases (show x < 0 ∨ (0 ≤ x ∧ (n : Int) ≤ x) ∨ (0 ≤ x ∧ x < n ∧ y < 0) ∨ (0 ≤ x ∧ x < n ∧ 0 ≤ y ∧ (n : Int) ≤ y) ∨ (0 ≤ x ∧ x < n ∧ 0 ≤ y ∧ y < n) by omega) with hx | ⟨hx0, hx1⟩ | ⟨hx0, hx1, hy⟩ | ⟨hx0, hx1, hy0, hy1⟩ | ⟨hx0, hx1, hy0, hy1⟩
    · go_wp2_with fail
      go_ret
      exact ⟨rfl, HB2.out⟩
    · go_wp2_with fail
      go_ret
      exact ⟨rfl, HB2.out⟩
    · go_wp2_with fail
      go_ret
      exact ⟨rfl, HB2.out⟩
    · go_wp2_with fail
      go_ret
      exact ⟨rfl, HB2.out⟩
    · obtain ⟨p, rfl⟩ : ∃ p : Nat, x = p := ⟨x.toNat, by omega⟩
      obtain ⟨q, rfl⟩ : ∃ q : Nat, y = q := ⟨y.toNat, by omega⟩
      have hp : p < n := by omega
      have hq : q < n := by omega
      go_wp2_with fail
      have hcall := matMul_good A (some sd) n n c cS L (fun _ => n) a (starF n a) w2 (HA.out.keep HB2.out) HS2.out HG.out (Good.mk' h1 h8 HS.out) rfl
      refine hcall.mono ?_
      clear hcall
      rintro e w3 ⟨M, cM, rfl, hM, hb3⟩
      obtain ⟨md, rfl⟩ := hM.some_ h1
      have HM := Lib.hid hM
      have HS3 := Lib.hid (HS2.out.keep hb3)
      have HB3 := Lib.hid (keep HB2.out hb3)
      clear hM hb3 HB2 HS2
      go_wp2_with fail
      have hcall := matOne_ok n n rfl w3 h1 h8
      refine hcall.mono ?_
      clear hcall
      rintro e w4 ⟨U, cU, rfl, hU, hb4⟩
      obtain ⟨ud, rfl⟩ := hU.some_ h1
      have HU := Lib.hid hU
      have HM4 := Lib.hid (HM.out.keep hb4)
      have HS4 := Lib.hid (HS3.out.keep hb4)
      have HB4 := Lib.hid (keep HB3.out hb4)
      clear hU hb4 HB3 HS3 HM
      go_wp2_with fail
      have hcall := matStar_ok (some sd) n cS (fun _ => n) (starF n a) w4 HS4.out (Good.mk' h1 h8 HS.out)
      refine hcall.mono ?_
      clear hcall
      rintro e w5 ⟨T, cT, rfl, hT, hb5⟩
      have HT := Lib.hid hT
      have HU5 := Lib.hid (HU.out.keep hb5)
      have HM5 := Lib.hid (HM4.out.keep hb5)
      have HS5 := Lib.hid (HS4.out.keep hb5)
      have HB5 := Lib.hid (keep HB4.out hb5)
      clear hT hb5 HB4 HS4 HM4 HU
      go_wp2_with fail
      have hcall := matMul_good (some sd) (some sd) n n cS cS (fun _ => n) (fun _ => n) (starF n a) (starF n a) w5 HS5.out HS5.out (Good.mk' h1 h8 HS.out) (Good.mk' h1 h8 HS.out) rfl
      refine hcall.mono ?_
      clear hcall
      rintro e w6 ⟨P, cP, rfl, hP, hb6⟩
      have HP := Lib.hid hP
      have HT6 := Lib.hid (HT.out.keep hb6)
      have HU6 := Lib.hid (HU5.out.keep hb6)
      have HM6 := Lib.hid (HM5.out.keep hb6)
      have HS6 := Lib.hid (HS5.out.keep hb6)
      have HB6 := Lib.hid (keep HB5.out hb6)
      clear hP hb6 HB5 HS5 HM5 HU5 HT
      go_wp2_with fail
      have hcall := rows_walk T (some sd) n n cT cS (fun _ => n) (fun _ => n) _ _ w6 HT6.out HS6.out (by omega) (by omega) (fun _ _ => by omega) (fun _ _ => by omega) true ⟨fun _ => ⟨rfl, fun i hi => ⟨rfl, fun k hk => star_twice HG.out.2 n (Nat.le_refl _) i k hi hk⟩⟩, fun _ => rfl⟩
      refine hcall.mono ?_
      clear hcall
      rintro e w7 ⟨rfl, k7, rfl⟩
      go_wp2_with fail
      have hcall := rows_walk P (some sd) n n cP cS (fun _ => n) (fun _ => n) _ _ (w6.drewN k7) (HP.out.drewN k7) (HS6.out.drewN k7) (by omega) (by omega) (fun _ _ => by omega) (fun _ _ => by omega) true ⟨fun _ => ⟨rfl, fun i hi => ⟨rfl, fun k hk => star_idem HG.out.2 hi hk⟩⟩, fun _ => rfl⟩
      refine hcall.mono ?_
      clear hcall
      rintro e w8 ⟨rfl, k8, rfl⟩
      obtain ⟨ad, rfl⟩ := HA.out.some_ h1
      obtain ⟨Sp, sc, hs0, hs1⟩ := Mat.at_ h1 HS6.out hp hq
      obtain ⟨Mp, mc, hm0, hm1⟩ := Mat.at_ h1 HM6.out hp hq
      obtain ⟨Up, uc, hu0, hu1⟩ := Mat.at_ h1 HU6.out hp hq
      obtain ⟨Ap, ac, ha0, ha1⟩ := Mat.at_ h1 (HG.out.1.mat (HA.out.keep HB6.out)) hp hq
      have hx : starF n a p q = min (mulF n a (starF n a) p q) (oneF p q) := star_one HG.out.2 hp hq
      have hle : starF n a p q ≤ a p q := star_table HG.out.2 p q hp hq n
      generalize starF n a p q = sv at hx hle hs1
      generalize mulF n a (starF n a) p q = mv at hx hm1
      generalize oneF p q = uv at hx hu1
      have hx' : min mv uv = sv := hx.symm
      clear hx HP HT6 HU6 HM6 HS6
      go_wp2_with fail
      go_quiet (fail)
      go_wp2_with fail
      go_ret
      exact ⟨rfl, below_drewN (below_drewN HB6.out _) _⟩
  · have HN := Lib.hid hg
    clear hg
    refine (matStar_bad A n c L a w1 (HA.out.keep HB1.out) hn HN.out).mono ?_
    rintro e w2 ⟨rfl, hb2⟩
    go_wp2_with fail
    go_ret
    exact ⟨rfl, keep HB1.out hb2⟩

end Go.Proofs.Ytjijpcjbigdgjaa
