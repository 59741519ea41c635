/- MatLaws: one after the other; One changes none. For all tables; no condition. -/
import Derived.Test.YtjijpcjbigdgjaaMatLaw
import Derived.Test.YtjijpcjbigdgjaaSame
namespace Go.Proofs.Ytjijpcjbigdgjaa
open Go.RowKit
set_option linter.unusedVariables false

theorem Vec.alloc' {w : World} {A : Option Addr} {n : Nat} {f : Nat → Int} (h : Vec w A n f) (o : Obj) : Vec (w.alloc o) A n f := h.keep ((Below.refl _ _).alloc (Nat.le_refl _) o)
theorem Mat.alloc' {w : World} {A : Option Addr} {n : Nat} {L : Nat → Nat} {f : Nat → Nat → Int} (h : Mat w A n L f) (o : Obj) : Mat (w.alloc o) A n L f := h.keep ((Below.refl _ _).alloc (Nat.le_refl _) o)

theorem vec_of_blk {w : World} {g n : Nat} {cs : Array Value} {f : Nat → Int} (h : Blk w g 3 cs) (hf : ∀ i, i < n → cs[i]? = some (.int .i64 (f i))) : Vec w (some ⟨g, 0, none⟩) n f :=
  fun j hj => ⟨_, rfl, h.lt, by rw [Addr.add_lit, Nat.zero_add, h.cell, hf j hj]⟩

theorem mat_lit2 (w : World) : Mat (((w.alloc (.cells #[.int .i64 0, .int .i64 16] 3)).alloc (.cells #[.int .i64 16, .int .i64 0] 3)).alloc (.cells #[.slice (some ⟨w.heap.size, 0, none⟩) 2 2, .slice (some ⟨w.heap.size + 1, 0, none⟩) 2 2] 28))
    (some ⟨w.heap.size + 1 + 1, 0, none⟩) 2 (fun _ => 2) oneF := by
  have b0 := ((Blk.new w 3 #[.int .i64 0, .int .i64 16]).alloc (.cells #[.int .i64 16, .int .i64 0] 3)).alloc (.cells #[.slice (some ⟨w.heap.size, 0, none⟩) 2 2, .slice (some ⟨w.heap.size + 1, 0, none⟩) 2 2] 28)
  have b1 := (Blk.new (w.alloc (.cells #[.int .i64 0, .int .i64 16] 3)) 3 #[.int .i64 16, .int .i64 0]).alloc (.cells #[.slice (some ⟨w.heap.size, 0, none⟩) 2 2, .slice (some ⟨w.heap.size + 1, 0, none⟩) 2 2] 28)
  have b2 := Blk.new ((w.alloc (.cells #[.int .i64 0, .int .i64 16] 3)).alloc (.cells #[.int .i64 16, .int .i64 0] 3)) 28 #[.slice (some ⟨w.heap.size, 0, none⟩) 2 2, .slice (some ⟨w.heap.size + 1, 0, none⟩) 2 2]
  rw [show (w.alloc (.cells #[Value.int .i64 0, .int .i64 16] 3)).heap.size = w.heap.size + 1 by simp] at b1
  rw [show ((w.alloc (.cells #[Value.int .i64 0, .int .i64 16] 3)).alloc (.cells #[Value.int .i64 16, .int .i64 0] 3)).heap.size = w.heap.size + 1 + 1 by simp] at b2
  intro i hi
  have h : i = 0 ∨ i = 1 := by omega
  rcases h with rfl | rfl
  · refine ⟨_, some ⟨w.heap.size, 0, none⟩, 2, rfl, b2.lt, by rw [Addr.add_lit, Nat.zero_add, b2.cell]; rfl, vec_of_blk b0 fun j hj => ?_⟩
    have hj : j < 2 := hj
    have h : j = 0 ∨ j = 1 := by omega
    rcases h with rfl | rfl <;> rfl
  · refine ⟨_, some ⟨w.heap.size + 1, 0, none⟩, 2, rfl, b2.lt, by rw [Addr.add_lit, Nat.zero_add, b2.cell]; rfl, vec_of_blk b1 fun j hj => ?_⟩
    have hj : j < 2 := hj
    have h : j = 0 ∨ j = 1 := by omega
    rcases h with rfl | rfl <;> rfl

set_option maxRecDepth 100000 in
set_option maxHeartbeats 1000000 in
theorem tabled_walk (w : World) :
    Calls Try.prog 28 #[] w fun e w' => e = .returned (.bool true) ∧ Below w.heap.size w w' := by
  go_enter Try.func28, Try.ntmps28
  go_wp2_with fail
  have hcall := matOne_ok 2 2 rfl w (by omega) (by omega)
  refine hcall.mono ?_
  clear hcall
  rintro e w1 ⟨A, c, rfl, hm, hb⟩
  have HM := Lib.hid hm
  have HB := Lib.hid hb
  clear hm hb
  go_wp2_with fail
  have hcall := rows_walk A (some ⟨w1.heap.size + 1 + 1, 0, none⟩) 2 2 c 2 (fun _ => 2) (fun _ => 2) oneF oneF _ (((HM.out.alloc' _).alloc' _).alloc' _) (mat_lit2 w1) (by omega) (by omega) (fun _ _ => by omega) (fun _ _ => by omega) true ⟨fun _ => ⟨rfl, fun _ _ => ⟨rfl, fun _ _ => rfl⟩⟩, fun _ => rfl⟩
  refine hcall.mono ?_
  clear hcall
  rintro e w2 ⟨rfl, k, rfl⟩
  go_wp2_with fail
  go_ret
  exact ⟨rfl, below_drewN (((HB.out.alloc HB.out.size _).alloc (by simp; have := HB.out.size; omega) _).alloc (by simp; have := HB.out.size; omega) _) _⟩

theorem Mat.drewN {w : World} {A : Option Addr} {n : Nat} {L : Nat → Nat} {f : Nat → Nat → Int} (h : Mat w A n L f) (k : Nat) : Mat (w.drewN k) A n L f := h

theorem matMul_any (A B : Option Addr) (n m ca cb : Nat) (L M : Nat → Nat) (f g : Nat → Nat → Int) (w : World) (ha : Mat w A n L f) (hb : Mat w B m M g) (hn : n ≤ 9223372036854775807) (hm : m ≤ 9223372036854775807) (h : ¬ (Good n L f ∧ Good m M g ∧ n = m)) :
    Calls Try.prog 29 #[.slice A n ca, .slice B m cb] w fun e w' => ∃ v, e = .returned (.tuple #[.slice none 0 0, errNo v]) ∧ Below w.heap.size w w' := by
  by_cases h0 : Good n L f
  · by_cases h1 : Good m M g
    · exact (matMul_bad3 A B n m ca cb L M f g w ha hb h0 h1 fun e => h ⟨h0, h1, e⟩).mono fun e w' hw => ⟨_, hw⟩
    · exact (matMul_bad2 A B n m ca cb L M f g w ha hb hm h0 h1).mono fun e w' hw => ⟨_, hw⟩
  · exact (matMul_bad1 A B n m ca cb L f w ha hn h0).mono fun e w' hw => ⟨_, hw⟩

set_option maxRecDepth 100000 in
set_option maxHeartbeats 2000000 in
theorem matLaws_walk (A0 : Option Addr) (n0 c0 : Nat) (L0 : Nat → Nat) (f0 : Nat → Nat → Int) (A1 : Option Addr) (n1 c1 : Nat) (L1 : Nat → Nat) (f1 : Nat → Nat → Int) (A2 : Option Addr) (n2 c2 : Nat) (L2 : Nat → Nat) (f2 : Nat → Nat → Int) (w : World)
    (h0 : Mat w A0 n0 L0 f0) (hn0 : n0 ≤ 9223372036854775807) (hL0 : ∀ i, i < n0 → L0 i ≤ 9223372036854775807) (h1 : Mat w A1 n1 L1 f1) (hn1 : n1 ≤ 9223372036854775807) (hL1 : ∀ i, i < n1 → L1 i ≤ 9223372036854775807) (h2 : Mat w A2 n2 L2 f2) (hn2 : n2 ≤ 9223372036854775807) (hL2 : ∀ i, i < n2 → L2 i ≤ 9223372036854775807) :
    Calls Try.prog 9 #[.slice A0 n0 c0, .slice A1 n1 c1, .slice A2 n2 c2] w fun e w' => e = .returned (.bool true) ∧ Below w.heap.size w w' := by
  have H0 := Lib.hid h0
  have H1 := Lib.hid h1
  have H2 := Lib.hid h2
  have HL0 := Lib.hid hL0
  clear h0 h1 h2 hL0 hL1 hL2
  go_enter Try.func9, Try.ntmps9
  go_wp2_with fail
  refine (tabled_walk w).mono ?_
  rintro e w1 ⟨rfl, hb1⟩
  have HB1 := Lib.hid hb1
  clear hb1
  go_wp2_with fail
  by_cases hall : Good n0 L0 f0 ∧ Good n1 L1 f1 ∧ n0 = n1
  · obtain ⟨g0, g1, rfl⟩ := hall
    have G0 := Lib.hid g0
    have G1 := Lib.hid g1
    clear g0 g1
    have hcall := matMul_good A0 A1 n0 n0 c0 c1 L0 L1 f0 f1 w1 (H0.out.keep HB1.out) (H1.out.keep HB1.out) G0.out G1.out rfl
    refine hcall.mono ?_
    clear hcall
    rintro e w2 ⟨D, cD, rfl, hD, hb2⟩
    have HD := Lib.hid hD
    have HB2 := Lib.hid (keep HB1.out hb2)
    clear hD hb2 HB1
    go_wp2_with fail
    by_cases hall : Good n2 L2 f2 ∧ n0 = n2
    · obtain ⟨g2, rfl⟩ := hall
      have G2 := Lib.hid g2
      have k1 := G0.out.1.1
      have k8 := G0.out.1.2.1
      have k1' : (1 : Int) ≤ n0 := by omega
      have k8' : (n0 : Int) ≤ 8 := by omega
      clear g2
      have hcall := matMul_good A1 A2 n0 n0 c1 c2 L1 L2 f1 f2 w2 (H1.out.keep HB2.out) (H2.out.keep HB2.out) G1.out G2.out rfl
      refine hcall.mono ?_
      clear hcall
      rintro e w3 ⟨E, cE, rfl, hE, hb3⟩
      have HE := Lib.hid hE
      have HD3 := Lib.hid (HD.out.keep hb3)
      have HB3 := Lib.hid (keep HB2.out hb3)
      clear hE hb3 HB2 HD
      go_wp2_with fail
      have hcall := matMul_good D A2 n0 n0 cD c2 (fun _ => n0) L2 (mulF n0 f0 f1) f2 w3 HD3.out (H2.out.keep HB3.out) (Good.mk' k1 k8 (Ranged.mul G0.out.2 G1.out.2)) G2.out rfl
      refine hcall.mono ?_
      clear hcall
      rintro e w4 ⟨X, cX, rfl, hX, hb4⟩
      have HX := Lib.hid hX
      have HE4 := Lib.hid (HE.out.keep hb4)
      have HB4 := Lib.hid (keep HB3.out hb4)
      clear hX hb4 HB3 HE HD3
      go_wp2_with fail
      have hcall := matMul_good A0 E n0 n0 c0 cE L0 (fun _ => n0) f0 (mulF n0 f1 f2) w4 (H0.out.keep HB4.out) HE4.out G0.out (Good.mk' k1 k8 (Ranged.mul G1.out.2 G2.out.2)) rfl
      refine hcall.mono ?_
      clear hcall
      rintro e w5 ⟨Y, cY, rfl, hY, hb5⟩
      have HY := Lib.hid hY
      have HX5 := Lib.hid (HX.out.keep hb5)
      have HB5 := Lib.hid (keep HB4.out hb5)
      clear hY hb5 HB4 HX HE4
      go_wp2_with fail
      have hcall := matOne_ok n0 n0 rfl w5 k1 k8
      refine hcall.mono ?_
      clear hcall
      rintro e w6 ⟨U, cU, rfl, hU, hb6⟩
      have HU := Lib.hid hU
      have HX6 := Lib.hid (HX5.out.keep hb6)
      have HY6 := Lib.hid (HY.out.keep hb6)
      have HB6 := Lib.hid (keep HB5.out hb6)
      clear hU hb6 HB5 HX5 HY
      go_wp2_with fail
      have hcall := matMul_good U A0 n0 n0 cU c0 (fun _ => n0) L0 oneF f0 w6 HU.out (H0.out.keep HB6.out) (Good.mk' k1 k8 (Ranged.one n0)) G0.out rfl
      refine hcall.mono ?_
      clear hcall
      rintro e w7 ⟨P, cP, rfl, hP, hb7⟩
      have HP := Lib.hid hP
      have HX7 := Lib.hid (HX6.out.keep hb7)
      have HY7 := Lib.hid (HY6.out.keep hb7)
      have HU7 := Lib.hid (HU.out.keep hb7)
      have HB7 := Lib.hid (keep HB6.out hb7)
      clear hP hb7 HB6 HX6 HY6 HU
      go_wp2_with fail
      have hcall := matMul_good A0 U n0 n0 c0 cU L0 (fun _ => n0) f0 oneF w7 (H0.out.keep HB7.out) HU7.out G0.out (Good.mk' k1 k8 (Ranged.one n0)) rfl
      refine hcall.mono ?_
      clear hcall
      rintro e w8 ⟨Q, cQ, rfl, hQ, hb8⟩
      have HQ := Lib.hid hQ
      have HX8 := Lib.hid (HX7.out.keep hb8)
      have HY8 := Lib.hid (HY7.out.keep hb8)
      have HP8 := Lib.hid (HP.out.keep hb8)
      have HB8 := Lib.hid (keep HB7.out hb8)
      clear hQ hb8 HB7 HX7 HY7 HP HU7
      go_wp2_with fail
      have hcall := rows_walk X Y n0 n0 cX cY (fun _ => n0) (fun _ => n0) _ _ w8 HX8.out HY8.out (by omega) (by omega) (fun _ _ => by omega) (fun _ _ => by omega) true ⟨fun _ => ⟨rfl, fun i hi => ⟨rfl, fun k hk => mul_assoc_ G0.out.2 G1.out.2 G2.out.2 hi hk⟩⟩, fun _ => rfl⟩
      refine hcall.mono ?_
      clear hcall
      rintro e w9 ⟨rfl, k9, rfl⟩
      go_wp2_with fail
      have hcall := rows_walk P A0 n0 n0 cP c0 (fun _ => n0) L0 _ f0 _ (HP8.out.drewN k9) ((H0.out.keep HB8.out).drewN k9) (by omega) (by omega) (fun _ _ => by omega) HL0.out true ⟨fun _ => ⟨rfl, fun i hi => ⟨(G0.out.1.2.2 i hi).symm, fun k hk => one_mul_ G0.out.2 hi hk⟩⟩, fun _ => rfl⟩
      refine hcall.mono ?_
      clear hcall
      rintro e w10 ⟨rfl, k10, rfl⟩
      go_wp2_with fail
      have hcall := rows_walk Q A0 n0 n0 cQ c0 (fun _ => n0) L0 _ f0 _ (HQ.out.drewN (k9 + k10)) ((H0.out.keep HB8.out).drewN (k9 + k10)) (by omega) (by omega) (fun _ _ => by omega) HL0.out true ⟨fun _ => ⟨rfl, fun i hi => ⟨(G0.out.1.2.2 i hi).symm, fun k hk => mul_one_ G0.out.2 hi hk⟩⟩, fun _ => rfl⟩
      refine hcall.mono ?_
      clear hcall
      rintro e w11 ⟨rfl, k11, rfl⟩
      go_wp2_with fail
      go_ret
      exact ⟨rfl, below_drewN HB8.out _⟩
    · have hcall := matMul_any A1 A2 n0 n2 c1 c2 L1 L2 f1 f2 w2 (H1.out.keep HB2.out) (H2.out.keep HB2.out) hn0 hn2 (fun h => hall ⟨h.2.1, h.2.2⟩)
      refine hcall.mono ?_
      clear hcall
      rintro e w3 ⟨v, rfl, hb3⟩
      have HB3 := Lib.hid (keep HB2.out hb3)
      clear hb3 HB2
      go_wp2_with fail
      go_ret
      exact ⟨rfl, HB3.out⟩
  · have hcall := matMul_any A0 A1 n0 n1 c0 c1 L0 L1 f0 f1 w1 (H0.out.keep HB1.out) (H1.out.keep HB1.out) hn0 hn1 hall
    refine hcall.mono ?_
    clear hcall
    rintro e w2 ⟨v, rfl, hb2⟩
    have HB2 := Lib.hid (keep HB1.out hb2)
    clear hb2 HB1
    go_wp2_with fail
    by_cases hall : Good n1 L1 f1 ∧ Good n2 L2 f2 ∧ n1 = n2
    · obtain ⟨g1, g2, rfl⟩ := hall
      have hcall := matMul_good A1 A2 n1 n1 c1 c2 L1 L2 f1 f2 w2 (H1.out.keep HB2.out) (H2.out.keep HB2.out) g1 g2 rfl
      refine hcall.mono ?_
      clear hcall g1 g2
      rintro e w3 ⟨E, cE, rfl, hE, hb3⟩
      have HB3 := Lib.hid (keep HB2.out hb3)
      clear hb3 HB2 hE
      go_wp2_with fail
      go_ret
      exact ⟨rfl, HB3.out⟩
    · have hcall := matMul_any A1 A2 n1 n2 c1 c2 L1 L2 f1 f2 w2 (H1.out.keep HB2.out) (H2.out.keep HB2.out) hn1 hn2 hall
      refine hcall.mono ?_
      clear hcall
      rintro e w3 ⟨v', rfl, hb3⟩
      have HB3 := Lib.hid (keep HB2.out hb3)
      clear hb3 HB2
      go_wp2_with fail
      go_ret
      exact ⟨rfl, HB3.out⟩

end Go.Proofs.Ytjijpcjbigdgjaa
