/- GraphTells: the walk. Printed by gen_graphtells.py. -/
import Derived.Test.YtdilajieimbdnaaDoorLinked
import Derived.Test.YtdilajieimbdnaaDoorRefLess
import Derived.Test.YtdilajieimbdnaaDoorRefGraph
import Derived.Test.YtdilajieimbdnaaDoorRefCosts
import Derived.Test.YtdilajieimbdnaaDoorNear
import Derived.Test.YtdilajieimbdnaaDoorErr
namespace Go.Proofs.YtdilajieimbdnaaDoor
open Go.RowKit
set_option linter.unusedVariables false

theorem near_iff {n m : Nat} {a b c : Nat → Int} (hr : Right n m a b c) (s q : Nat) (hs : s < n) (hq : q < n) : nearB (costF m a b c s) q = (decide (q ≠ s) && decide (costF m a b c s q < 16)) := by
  unfold nearB
  rw [Bool.eq_iff_iff]
  simp only [decide_eq_true_eq, Bool.and_eq_true]
  show (0 < costV m a b c s q ∧ costV m a b c s q < 16) ↔ (q ≠ s ∧ costV m a b c s q < 16)
  rcases costV_cases hr s q with ⟨e, e'⟩ | ⟨hne, e, -⟩ | ⟨hne, he⟩
  · have : s = q := by omega
    subst this
    rw [e']
    omega
  · omega
  · have := (he.ok hr).2.2.2.1
    constructor
    · rintro ⟨-, h⟩
      exact ⟨fun e => hne (by omega), h⟩
    · rintro ⟨-, h⟩
      exact ⟨by omega, h⟩

theorem mt_one {n m : Nat} {a b c : Nat → Int} (hr : Right n m a b c) {i j : Nat} (hi : i < m) (hj : j < m) {u v : Int} (h : Mt a b i u v) (h' : Mt a b j u v) : i = j := by
  rcases Nat.lt_trichotomy i j with hlt | e | hlt
  · exact absurd (by unfold SamePair; unfold Mt at h h'; omega) ((hr j hj).2.2 i hlt)
  · exact e
  · exact absurd (by unfold SamePair; unfold Mt at h h'; omega) ((hr i hi).2.2 j hlt)

theorem mt_or (m : Nat) (a b : Nat → Int) (u v : Int) : (∀ j, j < m → ¬ Mt a b j u v) ∨ ∃ j, j < m ∧ Mt a b j u v := by
  rcases Classical.em (∃ j, j < m ∧ Mt a b j u v) with h | h
  · exact .inr h
  · exact .inl fun j hj hm => h ⟨j, hj, hm⟩

set_option maxRecDepth 100000 in
set_option maxHeartbeats 8000000 in
theorem graphTells_walk (x : Int) (A : Option Addr) (m cp : Nat) (a b c : Nat → Int) (y z : Int) (w : World) (hg : ErrT w) (hl : Lnk w A m a b c) (hm : m ≤ 9223372036854775807) :
    Calls Tryd.prog 6 #[.int .i64 x, .slice A m cp, .int .i64 y, .int .i64 z] w fun e w' => e = .returned (.bool true) ∧ Below w.heap.size w w' := by
  have HL := Lib.hid hl
  have HG := Lib.hid hg
  clear hl hg
  rcases graph_cases x m a b c with hgood | ⟨k, hk, hf⟩
  · obtain ⟨n, rfl, h1, h8, hr⟩ := good_nat hgood
    have hn8 : (n : Int) ≤ 8 := by omega
    have hm64 := right_small hr h8
    have HGD := Lib.hid hgood
    have HR := Lib.hid hr
    clear hgood hr
    by_cases hy : 0 ≤ y ∧ y < n
    · obtain ⟨s, rfl⟩ : ∃ s : Nat, y = s := ⟨y.toNat, by omega⟩
      have hs : s < n := by omega
      have hs' : (s : Int) < n := by omega
      have hdy : decide ((n : Int) ≤ s) = false := decide_eq_false (by omega)
      have hdy' : decide (n ≤ s) = false := decide_eq_false (by omega)
      clear hy
      go_enter Tryd.func6, Tryd.ntmps6
      go_wp2_with fail
      have hcall := linked_walk w
      refine hcall.mono ?_
      clear hcall
      rintro e w1 ⟨rfl, hb1⟩
      have HB1 := Lib.hid hb1
      clear hb1
      go_wp2_with fail
      have hcall := graphFault_good n A m cp a b c w1 (HL.out.keep HB1.out) hm HGD.out
      refine hcall.mono ?_
      clear hcall
      rintro e w2 ⟨rfl, hb2⟩
      have HB2 := Lib.hid (keep HB1.out hb2)
      clear hb2
      go_wp2_with fail
      have hcall := graphCheck_good n A m cp a b c w2 (HL.out.keep HB2.out) hm HGD.out
      refine hcall.mono ?_
      clear hcall
      rintro e w3 ⟨rfl, hb3⟩
      have HB3 := Lib.hid (keep HB2.out hb3)
      clear hb3
      go_wp2_with fail
      have hcall := err_nil 0 true ⟨fun _ => rfl, fun _ => rfl⟩ w3
      refine hcall.mono ?_
      clear hcall
      rintro e w4 ⟨rfl, hb4⟩
      have HB4 := Lib.hid (keep HB3.out hb4)
      clear hb4
      go_wp2_with fail
      have hcall := costsOf_walk n n rfl A m cp a b c w4 (HL.out.keep HB4.out) h1 h8 hm
      refine hcall.mono ?_
      clear hcall
      rintro e w5 ⟨v5, rfl, hT5, hb5⟩
      obtain ⟨g5, c5, rfl, hM5⟩ := hT5.mat h1
      have HM5 := Lib.hid hM5
      have HB5 := Lib.hid (keep HB4.out hb5)
      clear hT5 hM5 hb5
      go_wp2_with fail
      go_loopw [13, 17] (fun v i wr => ∃ q : Nat, q ≤ n ∧ i = .int .i64 q ∧ OwnV wr w5.heap.size v (pickL (nearB (costF m a b c s)) q).length (atL (pickL (nearB (costF m a b c s)) q)) ∧ Below w5.heap.size w5 wr) (fun _ i _ => n - (intOf i).toNat)
      case atStart => exact ⟨0, by omega, rfl, OwnV.nil _ _ _, Below.refl _ _⟩
      case round =>
        obtain ⟨q, hq, rfl, hT, hb⟩ := hrel
        have HT := Lib.hid hT
        have HBN := Lib.hid hb
        have HBr := Lib.hid (keep HB5.out hb)
        clear hT hb
        have hlen := pickL_len (nearB (costF m a b c s)) q
        by_cases hlt : q < n
        · have hlt' : (q : Int) < n := by omega
          have HNI := Lib.hid (near_iff HR.out s q hs hlt)
          obtain ⟨d, hd⟩ : ∃ d, costF m a b c s q = d := ⟨_, rfl⟩
          have hcall := costOf_walk A m cp a b c s q wr (HL.out.keep HBr.out) hm d hd
          have HD := Lib.hid hd
          clear hd
          by_cases hqs : q = s
          · have hdb : ((q : Int) == s) = true := by rw [beq_iff_eq]; omega
            have hdb' : (q == s) = true := by rw [beq_iff_eq]; exact hqs
            have hdn : ((q : Int) != s) = false := by simp [hqs]
            have hdn' : (q != s) = false := by simp [hqs]
            have hp : nearB (costF m a b c s) q = false := by rw [HNI.out]; simp [hqs]
            have HP := Lib.hid (pickL_no hp)
            clear hp hqs hcall
            go_wp2_with fail
            go_roundw
            case rel => exact ⟨q + 1, by omega, by go_num, by rw [HP.out]; exact HT.out, HBN.out⟩
            case measure => simp [intOf]; omega
          · have hdb : ((q : Int) == s) = false := beq_false_of_ne (by omega)
            have hdb' : (q == s) = false := beq_false_of_ne hqs
            have hdn : ((q : Int) != s) = true := by simp; omega
            have hdn' : (q != s) = true := by simp; omega
            by_cases h16 : d < 16
            · have hp : nearB (costF m a b c s) q = true := by rw [HNI.out, HD.out]; simp [hqs, h16]
              have HP := Lib.hid (pickL_yes hp)
              clear hp hqs
              go_wp2_with fail
              refine hcall.mono ?_
              clear hcall
              rintro e w6 ⟨rfl, h6⟩
              subst w6
              go_wp2_with (at_builtin; refine wpList_append_int rfl (.tmp 74) (.tmp 76) rfl w5.heap.size _ _ _ rfl (HT.out.alloc _) q _ rfl (cell_new_at _ _ _ rfl) (by omega) (by have := HBN.out.size; simp; omega) ?_)
              intro g3 cap3 w3 hT3 hb3 _ _
              have HT3 : Hid (OwnV w3 w5.heap.size (.slice (some ⟨g3, 0, none⟩) ((pickL (nearB (costF m a b c s)) q).length + 1) cap3) (pickL (nearB (costF m a b c s)) (q + 1)).length (atL (pickL (nearB (costF m a b c s)) (q + 1)))) := by
                rw [HP.out, List.length_append]
                exact OwnV.congr hT3 (atL_snoc _ _)
              have HB3 : Hid (Below w5.heap.size w5 w3) := (HBN.out.alloc HBN.out.size _).trans hb3
              clear hT3 hb3 hlen
              go_wp2_with fail
              go_roundw
              case rel => exact ⟨q + 1, by omega, by go_num, HT3.out, HB3.out⟩
              case measure => simp [intOf]; omega
            · have hp : nearB (costF m a b c s) q = false := by rw [HNI.out, HD.out]; simp [h16]
              have HP := Lib.hid (pickL_no hp)
              have hd : decide (d < 16) = false := decide_eq_false h16
              clear hp h16 hqs hlen
              go_wp2_with fail
              refine hcall.mono ?_
              clear hcall
              rintro e w6 ⟨rfl, h6⟩
              subst w6
              go_wp2_with fail
              go_roundw
              case rel => exact ⟨q + 1, by omega, by go_num, by rw [HP.out]; exact HT.out, HBN.out⟩
              case measure => simp [intOf]; omega
        · have eqn : n = q := by omega
          subst eqn
          obtain ⟨L, hL⟩ : ∃ L, pickL (nearB (costF m a b c s)) n = L := ⟨_, rfl⟩
          have HPK := Lib.hid hL
          rw [hL] at hlen
          have hT := HT.out
          rw [hL] at hT
          obtain ⟨AN, cN, rfl, hvn⟩ := hT.vec
          have HN := Lib.hid hvn
          have HLEN := Lib.hid hlen
          clear hL hT HT hvn hdy hdy' hlen hq hlt
          go_wp2_with fail
          rcases mt_or m a b s z with hno | ⟨jj, hjj, hmt⟩
          · obtain ⟨jj, hjj⟩ : ∃ jj, jj = m := ⟨_, rfl⟩
            have HNO := Lib.hid hno
            have HJ : Hid (∀ i, i < m → (Mt a b i s z ↔ i = jj)) := fun i hi => ⟨fun h => absurd h (hno i hi), fun e => by omega⟩
            have HQ : Hid (leftN jj m = m) := by show (if m ≤ jj then m else m - 1) = m; rw [if_pos (by omega)]
            clear hno hjj
            have HM5r := Lib.hid (HM5.out.keep HBN.out)
            have hcall := lessLink_walk A m cp jj a b c s z wr (HL.out.keep HBr.out) (by omega) HJ.out
            refine hcall.mono ?_
            clear hcall
            rintro e w6 ⟨v6, rfl, hO6, hb6⟩
            have HB6 := Lib.hid (keep HBr.out hb6)
            have HM6 := Lib.hid (HM5r.out.keep hb6)
            have HN6 := Lib.hid (HN.out.keep hb6)
            rw [HQ.out] at hO6
            obtain ⟨A6, c6, rfl, hl6⟩ := hO6.lnk
            clear hl6
            clear hO6 hb6
            go_wp2_with fail
            have hcall := costs_ok n n rfl A m cp a b c w6 (HL.out.keep HB6.out) hm HGD.out
            refine hcall.mono ?_
            clear hcall
            rintro e w7 ⟨g7, c7, B7, C7, rfl, -, hat7, hb7⟩
            have HM7 := Lib.hid (hat7.mat' h1)
            have HM57 := Lib.hid (HM6.out.keep hb7)
            have HN7 := Lib.hid (HN6.out.keep hb7)
            have HB7 := Lib.hid (keep HB6.out hb7)
            clear hat7 hb7
            go_wp2_with fail
            have hcall := err_nil 0 true ⟨fun _ => rfl, fun _ => rfl⟩ w7
            refine hcall.mono ?_
            clear hcall
            rintro e w8 ⟨rfl, hb8⟩
            have HB8 := Lib.hid (keep HB7.out hb8)
            have HM8 := Lib.hid (HM7.out.keep hb8)
            have HM58 := Lib.hid (HM57.out.keep hb8)
            have HN8 := Lib.hid (HN7.out.keep hb8)
            clear hb8
            go_wp2_with fail
            have hcall := rows_walk (some ⟨g7, 0, none⟩) (some ⟨g5, 0, none⟩) n n c7 c5 (fun _ => n) (fun _ => n) (costF m a b c) (costF m a b c) w8 HM8.out HM58.out (by omega) (by omega) (fun _ _ => by omega) (fun _ _ => by omega) true ⟨fun _ => ⟨rfl, fun _ _ => ⟨rfl, fun _ _ => rfl⟩⟩, fun _ => rfl⟩
            refine hcall.mono ?_
            clear hcall
            rintro e w9 ⟨rfl, k9, hw9⟩
            have HB9 : Hid (Below w.heap.size w w9) := by subst w9; exact below_drewN HB8.out k9
            have HN9 : Hid (Vec w9 AN L.length (atL L)) := by subst w9; exact HN8.out.drewN k9
            clear hw9
            go_wp2_with fail
            have hcall := near_ok n s n s rfl rfl A m cp a b c w9 (HL.out.keep HB9.out) hm HGD.out hs
            refine hcall.mono ?_
            clear hcall
            rintro e w10 ⟨v10, rfl, hO10, hb10⟩
            rw [HPK.out] at hO10
            obtain ⟨A10, c10, rfl, hv10⟩ := hO10.vec
            have HV10 := Lib.hid hv10
            have HN10 := Lib.hid (HN9.out.keep hb10)
            have HB10 := Lib.hid (keep HB9.out hb10)
            clear hO10 hv10 hb10
            go_wp2_with fail
            have hcall := err_nil 0 true ⟨fun _ => rfl, fun _ => rfl⟩ w10
            refine hcall.mono ?_
            clear hcall
            rintro e w11 ⟨rfl, hb11⟩
            have HB11 := Lib.hid (keep HB10.out hb11)
            have HV11 := Lib.hid (HV10.out.keep hb11)
            have HN11 := Lib.hid (HN10.out.keep hb11)
            clear hb11
            go_wp2_with fail
            have hcall := ints_walk A10 AN L.length L.length c10 cN (atL L) (atL L) w11 HV11.out HN11.out (by have := HLEN.out; omega) (by have := HLEN.out; omega) true ⟨fun _ => ⟨rfl, fun _ _ => rfl⟩, fun _ => rfl⟩
            refine hcall.mono ?_
            clear hcall
            rintro e w12 ⟨rfl, k12, hw12⟩
            have HB12 : Hid (Below w.heap.size w w12) := by subst w12; exact below_drewN HB11.out k12
            clear hw12
            go_wp2_with fail
            have hcall := cut_none n s z A m cp a b c w12 (HL.out.keep HB12.out) hm HGD.out HNO.out
            refine hcall.mono ?_
            clear hcall
            rintro e w13 ⟨rfl, hb13⟩
            have HB13 := Lib.hid (keep HB12.out hb13)
            clear hb13
            go_wp2_with fail
            have hcall := err_no 2 2 true ⟨fun _ => rfl, fun _ => rfl⟩ w13 (HG.out.keep HB13.out)
            refine hcall.mono ?_
            clear hcall
            rintro e w14 ⟨rfl, hb14⟩
            have HB14 := Lib.hid (keep HB13.out hb14)
            clear hb14
            go_wp2_with fail
            have hcall := links_same none none 0 0 0 (fun _ => 0) (fun _ => 0) (fun _ => 0) w14 (fun j hj => absurd hj (by omega)) (fun j hj => absurd hj (by omega)) (by omega)
            refine hcall.mono ?_
            clear hcall
            rintro e w15 ⟨rfl, k15, hw15⟩
            have HB15 : Hid (Below w.heap.size w w15) := by subst w15; exact below_drewN HB14.out k15
            clear hw15
            go_wp2_with fail
            go_ret
            exact ⟨rfl, HB15.out⟩
          · have HJM : Hid (jj < m ∧ Mt a b jj s z) := ⟨hjj, hmt⟩
            have HJ : Hid (∀ i, i < m → (Mt a b i s z ↔ i = jj)) := fun i hi => ⟨fun h => mt_one HR.out hi hjj h hmt, fun e => by subst e; exact hmt⟩
            obtain ⟨q, hq⟩ : ∃ q, m - 1 = q := ⟨_, rfl⟩
            have HQM := Lib.hid hq
            have HQ : Hid (leftN jj m = q) := by show (if m ≤ jj then m else m - 1) = q; rw [if_neg (by omega)]; exact hq
            have hqm : q < m := by omega
            have hd1 : ((q : Int) == m) = false := beq_false_of_ne (by omega)
            have hd2 : (q == m) = false := beq_false_of_ne (by omega)
            clear hq hjj hmt
            have HM5r := Lib.hid (HM5.out.keep HBN.out)
            have hcall := lessLink_walk A m cp jj a b c s z wr (HL.out.keep HBr.out) (by omega) HJ.out
            refine hcall.mono ?_
            clear hcall
            rintro e w6 ⟨v6, rfl, hO6, hb6⟩
            have HB6 := Lib.hid (keep HBr.out hb6)
            have HM6 := Lib.hid (HM5r.out.keep hb6)
            have HN6 := Lib.hid (HN.out.keep hb6)
            rw [HQ.out] at hO6
            obtain ⟨A6, c6, rfl, hl6⟩ := hO6.lnk
            have HL6 := Lib.hid hl6
            clear hl6
            clear hO6 hb6
            go_wp2_with fail
            have hcall := costs_ok n n rfl A m cp a b c w6 (HL.out.keep HB6.out) hm HGD.out
            refine hcall.mono ?_
            clear hcall
            rintro e w7 ⟨g7, c7, B7, C7, rfl, -, hat7, hb7⟩
            have HM7 := Lib.hid (hat7.mat' h1)
            have HM57 := Lib.hid (HM6.out.keep hb7)
            have HN7 := Lib.hid (HN6.out.keep hb7)
            have HL7 := Lib.hid (HL6.out.keep hb7)
            have HB7 := Lib.hid (keep HB6.out hb7)
            clear hat7 hb7
            go_wp2_with fail
            have hcall := err_nil 0 true ⟨fun _ => rfl, fun _ => rfl⟩ w7
            refine hcall.mono ?_
            clear hcall
            rintro e w8 ⟨rfl, hb8⟩
            have HB8 := Lib.hid (keep HB7.out hb8)
            have HM8 := Lib.hid (HM7.out.keep hb8)
            have HM58 := Lib.hid (HM57.out.keep hb8)
            have HN8 := Lib.hid (HN7.out.keep hb8)
            have HL8 := Lib.hid (HL7.out.keep hb8)
            clear hb8
            go_wp2_with fail
            have hcall := rows_walk (some ⟨g7, 0, none⟩) (some ⟨g5, 0, none⟩) n n c7 c5 (fun _ => n) (fun _ => n) (costF m a b c) (costF m a b c) w8 HM8.out HM58.out (by omega) (by omega) (fun _ _ => by omega) (fun _ _ => by omega) true ⟨fun _ => ⟨rfl, fun _ _ => ⟨rfl, fun _ _ => rfl⟩⟩, fun _ => rfl⟩
            refine hcall.mono ?_
            clear hcall
            rintro e w9 ⟨rfl, k9, hw9⟩
            have HB9 : Hid (Below w.heap.size w w9) := by subst w9; exact below_drewN HB8.out k9
            have HN9 : Hid (Vec w9 AN L.length (atL L)) := by subst w9; exact HN8.out.drewN k9
            have HL9 : Hid (Lnk w9 A6 q (dropF jj a) (dropF jj b) (dropF jj c)) := by subst w9; exact HL8.out.drewN k9
            clear hw9
            go_wp2_with fail
            have hcall := near_ok n s n s rfl rfl A m cp a b c w9 (HL.out.keep HB9.out) hm HGD.out hs
            refine hcall.mono ?_
            clear hcall
            rintro e w10 ⟨v10, rfl, hO10, hb10⟩
            rw [HPK.out] at hO10
            obtain ⟨A10, c10, rfl, hv10⟩ := hO10.vec
            have HV10 := Lib.hid hv10
            have HN10 := Lib.hid (HN9.out.keep hb10)
            have HL10 := Lib.hid (HL9.out.keep hb10)
            have HB10 := Lib.hid (keep HB9.out hb10)
            clear hO10 hv10 hb10
            go_wp2_with fail
            have hcall := err_nil 0 true ⟨fun _ => rfl, fun _ => rfl⟩ w10
            refine hcall.mono ?_
            clear hcall
            rintro e w11 ⟨rfl, hb11⟩
            have HB11 := Lib.hid (keep HB10.out hb11)
            have HV11 := Lib.hid (HV10.out.keep hb11)
            have HN11 := Lib.hid (HN10.out.keep hb11)
            have HL11 := Lib.hid (HL10.out.keep hb11)
            clear hb11
            go_wp2_with fail
            have hcall := ints_walk A10 AN L.length L.length c10 cN (atL L) (atL L) w11 HV11.out HN11.out (by have := HLEN.out; omega) (by have := HLEN.out; omega) true ⟨fun _ => ⟨rfl, fun _ _ => rfl⟩, fun _ => rfl⟩
            refine hcall.mono ?_
            clear hcall
            rintro e w12 ⟨rfl, k12, hw12⟩
            have HB12 : Hid (Below w.heap.size w w12) := by subst w12; exact below_drewN HB11.out k12
            have HL12 : Hid (Lnk w12 A6 q (dropF jj a) (dropF jj b) (dropF jj c)) := by subst w12; exact HL11.out.drewN k12
            clear hw12
            go_wp2_with fail
            have hcall := cut_ok n s z A m cp jj a b c w12 (HL.out.keep HB12.out) hm HGD.out HJM.out.1 HJM.out.2
            refine hcall.mono ?_
            clear hcall
            rintro e w13 ⟨g13, c13, rfl, -, hR13, hb13⟩
            rw [HQM.out] at hR13 ⊢
            have HK13 := Lib.hid hR13.lnk
            have HL13 := Lib.hid (HL12.out.keep hb13)
            have HB13 := Lib.hid (keep HB12.out hb13)
            clear hR13 hb13
            go_wp2_with fail
            have hcall := err_nil 0 true ⟨fun _ => rfl, fun _ => rfl⟩ w13
            refine hcall.mono ?_
            clear hcall
            rintro e w14 ⟨rfl, hb14⟩
            have HB14 := Lib.hid (keep HB13.out hb14)
            have HK14 := Lib.hid (HK13.out.keep hb14)
            have HL14 := Lib.hid (HL13.out.keep hb14)
            clear hb14
            go_wp2_with fail
            have hcall := links_same (some ⟨g13, 0, none⟩) A6 q c13 c6 (dropF jj a) (dropF jj b) (dropF jj c) w14 HK14.out HL14.out (by omega)
            refine hcall.mono ?_
            clear hcall
            rintro e w15 ⟨rfl, k15, hw15⟩
            have HB15 : Hid (Below w.heap.size w w15) := by subst w15; exact below_drewN HB14.out k15
            clear hw15
            go_wp2_with fail
            go_ret
            exact ⟨rfl, HB15.out⟩
    · have hy2 : y < 0 ∨ (n : Int) ≤ y := by omega
      have HY := Lib.hid hy2
      rcases (show y < 0 ∨ (0 ≤ y ∧ (n : Int) ≤ y) by omega) with hy3 | ⟨hy3, hy4⟩
      all_goals
        clear hy hy2
        go_enter Tryd.func6, Tryd.ntmps6
        go_wp2_with fail
        have hcall := linked_walk w
        refine hcall.mono ?_
        clear hcall
        rintro e w1 ⟨rfl, hb1⟩
        have HB1 := Lib.hid hb1
        clear hb1
        go_wp2_with fail
        have hcall := graphFault_good n A m cp a b c w1 (HL.out.keep HB1.out) hm HGD.out
        refine hcall.mono ?_
        clear hcall
        rintro e w2 ⟨rfl, hb2⟩
        have HB2 := Lib.hid (keep HB1.out hb2)
        clear hb2
        go_wp2_with fail
        have hcall := graphCheck_good n A m cp a b c w2 (HL.out.keep HB2.out) hm HGD.out
        refine hcall.mono ?_
        clear hcall
        rintro e w3 ⟨rfl, hb3⟩
        have HB3 := Lib.hid (keep HB2.out hb3)
        clear hb3
        go_wp2_with fail
        have hcall := err_nil 0 true ⟨fun _ => rfl, fun _ => rfl⟩ w3
        refine hcall.mono ?_
        clear hcall
        rintro e w4 ⟨rfl, hb4⟩
        have HB4 := Lib.hid (keep HB3.out hb4)
        clear hb4
        go_wp2_with fail
        have hcall := costsOf_walk n n rfl A m cp a b c w4 (HL.out.keep HB4.out) h1 h8 hm
        refine hcall.mono ?_
        clear hcall
        rintro e w5 ⟨v5, rfl, hT5, hb5⟩
        obtain ⟨g5, c5, rfl, hM5⟩ := hT5.mat h1
        have HM5 := Lib.hid hM5
        have HB5 := Lib.hid (keep HB4.out hb5)
        clear hT5 hM5 hb5
        go_wp2_with fail
        go_loopw [13, 17] (fun v i wr => v = .slice none 0 0 ∧ i = .int .i64 0 ∧ Below w5.heap.size w5 wr) (fun _ _ _ => 0)
        case atStart => exact ⟨rfl, rfl, Below.refl _ _⟩
        case round =>
          obtain ⟨rfl, rfl, hb⟩ := hrel
          have HBN := Lib.hid hb
          have HBr := Lib.hid (keep HB5.out hb)
          clear hb
          go_wp2_with fail
          rcases mt_or m a b y z with hno | ⟨jj, hjj, hmt⟩
          · obtain ⟨jj, hjj⟩ : ∃ jj, jj = m := ⟨_, rfl⟩
            have HNO := Lib.hid hno
            have HJ : Hid (∀ i, i < m → (Mt a b i y z ↔ i = jj)) := fun i hi => ⟨fun h => absurd h (hno i hi), fun e => by omega⟩
            have HQ : Hid (leftN jj m = m) := by show (if m ≤ jj then m else m - 1) = m; rw [if_pos (by omega)]
            clear hno hjj
            have HM5r := Lib.hid (HM5.out.keep HBN.out)
            have hcall := lessLink_walk A m cp jj a b c y z wr (HL.out.keep HBr.out) (by omega) HJ.out
            refine hcall.mono ?_
            clear hcall
            rintro e w6 ⟨v6, rfl, hO6, hb6⟩
            have HB6 := Lib.hid (keep HBr.out hb6)
            have HM6 := Lib.hid (HM5r.out.keep hb6)
            rw [HQ.out] at hO6
            obtain ⟨A6, c6, rfl, hl6⟩ := hO6.lnk
            clear hl6
            clear hO6 hb6
            go_wp2_with fail
            have hcall := costs_ok n n rfl A m cp a b c w6 (HL.out.keep HB6.out) hm HGD.out
            refine hcall.mono ?_
            clear hcall
            rintro e w7 ⟨g7, c7, B7, C7, rfl, -, hat7, hb7⟩
            have HM7 := Lib.hid (hat7.mat' h1)
            have HM57 := Lib.hid (HM6.out.keep hb7)
            have HB7 := Lib.hid (keep HB6.out hb7)
            clear hat7 hb7
            go_wp2_with fail
            have hcall := err_nil 0 true ⟨fun _ => rfl, fun _ => rfl⟩ w7
            refine hcall.mono ?_
            clear hcall
            rintro e w8 ⟨rfl, hb8⟩
            have HB8 := Lib.hid (keep HB7.out hb8)
            have HM8 := Lib.hid (HM7.out.keep hb8)
            have HM58 := Lib.hid (HM57.out.keep hb8)
            clear hb8
            go_wp2_with fail
            have hcall := rows_walk (some ⟨g7, 0, none⟩) (some ⟨g5, 0, none⟩) n n c7 c5 (fun _ => n) (fun _ => n) (costF m a b c) (costF m a b c) w8 HM8.out HM58.out (by omega) (by omega) (fun _ _ => by omega) (fun _ _ => by omega) true ⟨fun _ => ⟨rfl, fun _ _ => ⟨rfl, fun _ _ => rfl⟩⟩, fun _ => rfl⟩
            refine hcall.mono ?_
            clear hcall
            rintro e w9 ⟨rfl, k9, hw9⟩
            have HB9 : Hid (Below w.heap.size w w9) := by subst w9; exact below_drewN HB8.out k9
            clear hw9
            go_wp2_with fail
            have hcall := near_bad n y A m cp a b c w9 (HL.out.keep HB9.out) hm 1 (.inr ⟨HGD.out, HY.out, rfl⟩)
            refine hcall.mono ?_
            clear hcall
            rintro e w10 ⟨rfl, hb10⟩
            have HB10 := Lib.hid (keep HB9.out hb10)
            clear hb10
            go_wp2_with fail
            have hcall := err_no 1 1 true ⟨fun _ => rfl, fun _ => rfl⟩ w10 (HG.out.keep HB10.out)
            refine hcall.mono ?_
            clear hcall
            rintro e w11 ⟨rfl, hb11⟩
            have HB11 := Lib.hid (keep HB10.out hb11)
            clear hb11
            go_wp2_with fail
            have hcall := ints_walk none none 0 0 0 0 (fun _ => 0) (fun _ => 0) w11 (fun j hj => absurd hj (by omega)) (fun j hj => absurd hj (by omega)) (by omega) (by omega) true ⟨fun _ => ⟨rfl, fun _ _ => rfl⟩, fun _ => rfl⟩
            refine hcall.mono ?_
            clear hcall
            rintro e w12 ⟨rfl, k12, hw12⟩
            have HB12 : Hid (Below w.heap.size w w12) := by subst w12; exact below_drewN HB11.out k12
            clear hw12
            go_wp2_with fail
            have hcall := cut_none n y z A m cp a b c w12 (HL.out.keep HB12.out) hm HGD.out HNO.out
            refine hcall.mono ?_
            clear hcall
            rintro e w13 ⟨rfl, hb13⟩
            have HB13 := Lib.hid (keep HB12.out hb13)
            clear hb13
            go_wp2_with fail
            have hcall := err_no 2 2 true ⟨fun _ => rfl, fun _ => rfl⟩ w13 (HG.out.keep HB13.out)
            refine hcall.mono ?_
            clear hcall
            rintro e w14 ⟨rfl, hb14⟩
            have HB14 := Lib.hid (keep HB13.out hb14)
            clear hb14
            go_wp2_with fail
            have hcall := links_same none none 0 0 0 (fun _ => 0) (fun _ => 0) (fun _ => 0) w14 (fun j hj => absurd hj (by omega)) (fun j hj => absurd hj (by omega)) (by omega)
            refine hcall.mono ?_
            clear hcall
            rintro e w15 ⟨rfl, k15, hw15⟩
            have HB15 : Hid (Below w.heap.size w w15) := by subst w15; exact below_drewN HB14.out k15
            clear hw15
            go_wp2_with fail
            go_ret
            exact ⟨rfl, HB15.out⟩
          · have HJM : Hid (jj < m ∧ Mt a b jj y z) := ⟨hjj, hmt⟩
            have HJ : Hid (∀ i, i < m → (Mt a b i y z ↔ i = jj)) := fun i hi => ⟨fun h => mt_one HR.out hi hjj h hmt, fun e => by subst e; exact hmt⟩
            obtain ⟨q, hq⟩ : ∃ q, m - 1 = q := ⟨_, rfl⟩
            have HQM := Lib.hid hq
            have HQ : Hid (leftN jj m = q) := by show (if m ≤ jj then m else m - 1) = q; rw [if_neg (by omega)]; exact hq
            have hqm : q < m := by omega
            have hd1 : ((q : Int) == m) = false := beq_false_of_ne (by omega)
            have hd2 : (q == m) = false := beq_false_of_ne (by omega)
            clear hq hjj hmt
            have HM5r := Lib.hid (HM5.out.keep HBN.out)
            have hcall := lessLink_walk A m cp jj a b c y z wr (HL.out.keep HBr.out) (by omega) HJ.out
            refine hcall.mono ?_
            clear hcall
            rintro e w6 ⟨v6, rfl, hO6, hb6⟩
            have HB6 := Lib.hid (keep HBr.out hb6)
            have HM6 := Lib.hid (HM5r.out.keep hb6)
            rw [HQ.out] at hO6
            obtain ⟨A6, c6, rfl, hl6⟩ := hO6.lnk
            have HL6 := Lib.hid hl6
            clear hl6
            clear hO6 hb6
            go_wp2_with fail
            have hcall := costs_ok n n rfl A m cp a b c w6 (HL.out.keep HB6.out) hm HGD.out
            refine hcall.mono ?_
            clear hcall
            rintro e w7 ⟨g7, c7, B7, C7, rfl, -, hat7, hb7⟩
            have HM7 := Lib.hid (hat7.mat' h1)
            have HM57 := Lib.hid (HM6.out.keep hb7)
            have HL7 := Lib.hid (HL6.out.keep hb7)
            have HB7 := Lib.hid (keep HB6.out hb7)
            clear hat7 hb7
            go_wp2_with fail
            have hcall := err_nil 0 true ⟨fun _ => rfl, fun _ => rfl⟩ w7
            refine hcall.mono ?_
            clear hcall
            rintro e w8 ⟨rfl, hb8⟩
            have HB8 := Lib.hid (keep HB7.out hb8)
            have HM8 := Lib.hid (HM7.out.keep hb8)
            have HM58 := Lib.hid (HM57.out.keep hb8)
            have HL8 := Lib.hid (HL7.out.keep hb8)
            clear hb8
            go_wp2_with fail
            have hcall := rows_walk (some ⟨g7, 0, none⟩) (some ⟨g5, 0, none⟩) n n c7 c5 (fun _ => n) (fun _ => n) (costF m a b c) (costF m a b c) w8 HM8.out HM58.out (by omega) (by omega) (fun _ _ => by omega) (fun _ _ => by omega) true ⟨fun _ => ⟨rfl, fun _ _ => ⟨rfl, fun _ _ => rfl⟩⟩, fun _ => rfl⟩
            refine hcall.mono ?_
            clear hcall
            rintro e w9 ⟨rfl, k9, hw9⟩
            have HB9 : Hid (Below w.heap.size w w9) := by subst w9; exact below_drewN HB8.out k9
            have HL9 : Hid (Lnk w9 A6 q (dropF jj a) (dropF jj b) (dropF jj c)) := by subst w9; exact HL8.out.drewN k9
            clear hw9
            go_wp2_with fail
            have hcall := near_bad n y A m cp a b c w9 (HL.out.keep HB9.out) hm 1 (.inr ⟨HGD.out, HY.out, rfl⟩)
            refine hcall.mono ?_
            clear hcall
            rintro e w10 ⟨rfl, hb10⟩
            have HB10 := Lib.hid (keep HB9.out hb10)
            have HL10 := Lib.hid (HL9.out.keep hb10)
            clear hb10
            go_wp2_with fail
            have hcall := err_no 1 1 true ⟨fun _ => rfl, fun _ => rfl⟩ w10 (HG.out.keep HB10.out)
            refine hcall.mono ?_
            clear hcall
            rintro e w11 ⟨rfl, hb11⟩
            have HB11 := Lib.hid (keep HB10.out hb11)
            have HL11 := Lib.hid (HL10.out.keep hb11)
            clear hb11
            go_wp2_with fail
            have hcall := ints_walk none none 0 0 0 0 (fun _ => 0) (fun _ => 0) w11 (fun j hj => absurd hj (by omega)) (fun j hj => absurd hj (by omega)) (by omega) (by omega) true ⟨fun _ => ⟨rfl, fun _ _ => rfl⟩, fun _ => rfl⟩
            refine hcall.mono ?_
            clear hcall
            rintro e w12 ⟨rfl, k12, hw12⟩
            have HB12 : Hid (Below w.heap.size w w12) := by subst w12; exact below_drewN HB11.out k12
            have HL12 : Hid (Lnk w12 A6 q (dropF jj a) (dropF jj b) (dropF jj c)) := by subst w12; exact HL11.out.drewN k12
            clear hw12
            go_wp2_with fail
            have hcall := cut_ok n y z A m cp jj a b c w12 (HL.out.keep HB12.out) hm HGD.out HJM.out.1 HJM.out.2
            refine hcall.mono ?_
            clear hcall
            rintro e w13 ⟨g13, c13, rfl, -, hR13, hb13⟩
            rw [HQM.out] at hR13 ⊢
            have HK13 := Lib.hid hR13.lnk
            have HL13 := Lib.hid (HL12.out.keep hb13)
            have HB13 := Lib.hid (keep HB12.out hb13)
            clear hR13 hb13
            go_wp2_with fail
            have hcall := err_nil 0 true ⟨fun _ => rfl, fun _ => rfl⟩ w13
            refine hcall.mono ?_
            clear hcall
            rintro e w14 ⟨rfl, hb14⟩
            have HB14 := Lib.hid (keep HB13.out hb14)
            have HK14 := Lib.hid (HK13.out.keep hb14)
            have HL14 := Lib.hid (HL13.out.keep hb14)
            clear hb14
            go_wp2_with fail
            have hcall := links_same (some ⟨g13, 0, none⟩) A6 q c13 c6 (dropF jj a) (dropF jj b) (dropF jj c) w14 HK14.out HL14.out (by omega)
            refine hcall.mono ?_
            clear hcall
            rintro e w15 ⟨rfl, k15, hw15⟩
            have HB15 : Hid (Below w.heap.size w w15) := by subst w15; exact below_drewN HB14.out k15
            clear hw15
            go_wp2_with fail
            go_ret
            exact ⟨rfl, HB15.out⟩
  · have HF := Lib.hid hf
    clear hf
    rcases hk with rfl | rfl | rfl
    · go_enter Tryd.func6, Tryd.ntmps6
      go_wp2_with fail
      have hcall := linked_walk w
      refine hcall.mono ?_
      clear hcall
      rintro e w1 ⟨rfl, hb1⟩
      have HB1 := Lib.hid hb1
      clear hb1
      go_wp2_with fail
      have hcall := graphFault_bad x A m cp a b c w1 (HL.out.keep HB1.out) hm _ HF.out
      refine hcall.mono ?_
      clear hcall
      rintro e w2 ⟨rfl, hb2⟩
      have HB2 := Lib.hid (keep HB1.out hb2)
      clear hb2
      go_wp2_with fail
      have hcall := graphCheck_bad x A m cp a b c w2 (HL.out.keep HB2.out) hm _ HF.out
      refine hcall.mono ?_
      clear hcall
      rintro e w3 ⟨rfl, hb3⟩
      have HB3 := Lib.hid (keep HB2.out hb3)
      clear hb3
      go_wp2_with fail
      have hcall := err_no 1 1 true ⟨fun _ => rfl, fun _ => rfl⟩ w3 (HG.out.keep HB3.out)
      refine hcall.mono ?_
      clear hcall
      rintro e w4 ⟨rfl, hb4⟩
      have HB4 := Lib.hid (keep HB3.out hb4)
      clear hb4
      go_wp2_with fail
      go_loopw [13, 17] (fun v i wr => v = .slice none 0 0 ∧ i = .int .i64 0 ∧ wr = w4) (fun _ _ _ => 0)
      case atStart => exact ⟨rfl, rfl, rfl⟩
      case round =>
        obtain ⟨rfl, rfl, hwr⟩ := hrel
        subst wr
        go_wp2_with fail
        have hcall := costs_bad x A m cp a b c w4 (HL.out.keep HB4.out) hm _ HF.out
        refine hcall.mono ?_
        clear hcall
        rintro e w5 ⟨rfl, hb5⟩
        have HB5 := Lib.hid (keep HB4.out hb5)
        clear hb5
        go_wp2_with fail
        have hcall := err_no 1 1 true ⟨fun _ => rfl, fun _ => rfl⟩ w5 (HG.out.keep HB5.out)
        refine hcall.mono ?_
        clear hcall
        rintro e w6 ⟨rfl, hb6⟩
        have HB6 := Lib.hid (keep HB5.out hb6)
        clear hb6
        go_wp2_with fail
        have hcall := rows_walk none none 0 0 0 0 (fun _ => 0) (fun _ => 0) (fun _ _ => 0) (fun _ _ => 0) w6 (fun j hj => absurd hj (by omega)) (fun j hj => absurd hj (by omega)) (by omega) (by omega) (fun i hi => absurd hi (by omega)) (fun i hi => absurd hi (by omega)) true ⟨fun _ => ⟨rfl, fun i hi => absurd hi (by omega)⟩, fun _ => rfl⟩
        refine hcall.mono ?_
        clear hcall
        rintro e w7 ⟨rfl, k7, hw7⟩
        have HB7 : Hid (Below w.heap.size w w7) := by subst w7; exact below_drewN HB6.out k7
        clear hw7
        go_wp2_with fail
        have hcall := near_bad x y A m cp a b c w7 (HL.out.keep HB7.out) hm _ (.inl HF.out)
        refine hcall.mono ?_
        clear hcall
        rintro e w8 ⟨rfl, hb8⟩
        have HB8 := Lib.hid (keep HB7.out hb8)
        clear hb8
        go_wp2_with fail
        have hcall := err_no 1 1 true ⟨fun _ => rfl, fun _ => rfl⟩ w8 (HG.out.keep HB8.out)
        refine hcall.mono ?_
        clear hcall
        rintro e w9 ⟨rfl, hb9⟩
        have HB9 := Lib.hid (keep HB8.out hb9)
        clear hb9
        go_wp2_with fail
        have hcall := ints_walk none none 0 0 0 0 (fun _ => 0) (fun _ => 0) w9 (fun j hj => absurd hj (by omega)) (fun j hj => absurd hj (by omega)) (by omega) (by omega) true ⟨fun _ => ⟨rfl, fun _ _ => rfl⟩, fun _ => rfl⟩
        refine hcall.mono ?_
        clear hcall
        rintro e w10 ⟨rfl, k10, hw10⟩
        have HB10 : Hid (Below w.heap.size w w10) := by subst w10; exact below_drewN HB9.out k10
        clear hw10
        go_wp2_with fail
        have hcall := cut_bad x y z A m cp a b c w10 (HL.out.keep HB10.out) hm _ HF.out
        refine hcall.mono ?_
        clear hcall
        rintro e w11 ⟨rfl, hb11⟩
        have HB11 := Lib.hid (keep HB10.out hb11)
        clear hb11
        go_wp2_with fail
        have hcall := err_no 1 1 true ⟨fun _ => rfl, fun _ => rfl⟩ w11 (HG.out.keep HB11.out)
        refine hcall.mono ?_
        clear hcall
        rintro e w12 ⟨rfl, hb12⟩
        have HB12 := Lib.hid (keep HB11.out hb12)
        clear hb12
        go_wp2_with fail
        have hcall := links_same none none 0 0 0 (fun _ => 0) (fun _ => 0) (fun _ => 0) w12 (fun j hj => absurd hj (by omega)) (fun j hj => absurd hj (by omega)) (by omega)
        refine hcall.mono ?_
        clear hcall
        rintro e w13 ⟨rfl, k13, hw13⟩
        have HB13 : Hid (Below w.heap.size w w13) := by subst w13; exact below_drewN HB12.out k13
        clear hw13
        go_wp2_with fail
        go_ret
        exact ⟨rfl, HB13.out⟩
    · go_enter Tryd.func6, Tryd.ntmps6
      go_wp2_with fail
      have hcall := linked_walk w
      refine hcall.mono ?_
      clear hcall
      rintro e w1 ⟨rfl, hb1⟩
      have HB1 := Lib.hid hb1
      clear hb1
      go_wp2_with fail
      have hcall := graphFault_bad x A m cp a b c w1 (HL.out.keep HB1.out) hm _ HF.out
      refine hcall.mono ?_
      clear hcall
      rintro e w2 ⟨rfl, hb2⟩
      have HB2 := Lib.hid (keep HB1.out hb2)
      clear hb2
      go_wp2_with fail
      have hcall := graphCheck_bad x A m cp a b c w2 (HL.out.keep HB2.out) hm _ HF.out
      refine hcall.mono ?_
      clear hcall
      rintro e w3 ⟨rfl, hb3⟩
      have HB3 := Lib.hid (keep HB2.out hb3)
      clear hb3
      go_wp2_with fail
      have hcall := err_no 3 3 true ⟨fun _ => rfl, fun _ => rfl⟩ w3 (HG.out.keep HB3.out)
      refine hcall.mono ?_
      clear hcall
      rintro e w4 ⟨rfl, hb4⟩
      have HB4 := Lib.hid (keep HB3.out hb4)
      clear hb4
      go_wp2_with fail
      go_loopw [13, 17] (fun v i wr => v = .slice none 0 0 ∧ i = .int .i64 0 ∧ wr = w4) (fun _ _ _ => 0)
      case atStart => exact ⟨rfl, rfl, rfl⟩
      case round =>
        obtain ⟨rfl, rfl, hwr⟩ := hrel
        subst wr
        go_wp2_with fail
        have hcall := costs_bad x A m cp a b c w4 (HL.out.keep HB4.out) hm _ HF.out
        refine hcall.mono ?_
        clear hcall
        rintro e w5 ⟨rfl, hb5⟩
        have HB5 := Lib.hid (keep HB4.out hb5)
        clear hb5
        go_wp2_with fail
        have hcall := err_no 3 3 true ⟨fun _ => rfl, fun _ => rfl⟩ w5 (HG.out.keep HB5.out)
        refine hcall.mono ?_
        clear hcall
        rintro e w6 ⟨rfl, hb6⟩
        have HB6 := Lib.hid (keep HB5.out hb6)
        clear hb6
        go_wp2_with fail
        have hcall := rows_walk none none 0 0 0 0 (fun _ => 0) (fun _ => 0) (fun _ _ => 0) (fun _ _ => 0) w6 (fun j hj => absurd hj (by omega)) (fun j hj => absurd hj (by omega)) (by omega) (by omega) (fun i hi => absurd hi (by omega)) (fun i hi => absurd hi (by omega)) true ⟨fun _ => ⟨rfl, fun i hi => absurd hi (by omega)⟩, fun _ => rfl⟩
        refine hcall.mono ?_
        clear hcall
        rintro e w7 ⟨rfl, k7, hw7⟩
        have HB7 : Hid (Below w.heap.size w w7) := by subst w7; exact below_drewN HB6.out k7
        clear hw7
        go_wp2_with fail
        have hcall := near_bad x y A m cp a b c w7 (HL.out.keep HB7.out) hm _ (.inl HF.out)
        refine hcall.mono ?_
        clear hcall
        rintro e w8 ⟨rfl, hb8⟩
        have HB8 := Lib.hid (keep HB7.out hb8)
        clear hb8
        go_wp2_with fail
        have hcall := err_no 3 3 true ⟨fun _ => rfl, fun _ => rfl⟩ w8 (HG.out.keep HB8.out)
        refine hcall.mono ?_
        clear hcall
        rintro e w9 ⟨rfl, hb9⟩
        have HB9 := Lib.hid (keep HB8.out hb9)
        clear hb9
        go_wp2_with fail
        have hcall := ints_walk none none 0 0 0 0 (fun _ => 0) (fun _ => 0) w9 (fun j hj => absurd hj (by omega)) (fun j hj => absurd hj (by omega)) (by omega) (by omega) true ⟨fun _ => ⟨rfl, fun _ _ => rfl⟩, fun _ => rfl⟩
        refine hcall.mono ?_
        clear hcall
        rintro e w10 ⟨rfl, k10, hw10⟩
        have HB10 : Hid (Below w.heap.size w w10) := by subst w10; exact below_drewN HB9.out k10
        clear hw10
        go_wp2_with fail
        have hcall := cut_bad x y z A m cp a b c w10 (HL.out.keep HB10.out) hm _ HF.out
        refine hcall.mono ?_
        clear hcall
        rintro e w11 ⟨rfl, hb11⟩
        have HB11 := Lib.hid (keep HB10.out hb11)
        clear hb11
        go_wp2_with fail
        have hcall := err_no 3 3 true ⟨fun _ => rfl, fun _ => rfl⟩ w11 (HG.out.keep HB11.out)
        refine hcall.mono ?_
        clear hcall
        rintro e w12 ⟨rfl, hb12⟩
        have HB12 := Lib.hid (keep HB11.out hb12)
        clear hb12
        go_wp2_with fail
        have hcall := links_same none none 0 0 0 (fun _ => 0) (fun _ => 0) (fun _ => 0) w12 (fun j hj => absurd hj (by omega)) (fun j hj => absurd hj (by omega)) (by omega)
        refine hcall.mono ?_
        clear hcall
        rintro e w13 ⟨rfl, k13, hw13⟩
        have HB13 : Hid (Below w.heap.size w w13) := by subst w13; exact below_drewN HB12.out k13
        clear hw13
        go_wp2_with fail
        go_ret
        exact ⟨rfl, HB13.out⟩
    · go_enter Tryd.func6, Tryd.ntmps6
      go_wp2_with fail
      have hcall := linked_walk w
      refine hcall.mono ?_
      clear hcall
      rintro e w1 ⟨rfl, hb1⟩
      have HB1 := Lib.hid hb1
      clear hb1
      go_wp2_with fail
      have hcall := graphFault_bad x A m cp a b c w1 (HL.out.keep HB1.out) hm _ HF.out
      refine hcall.mono ?_
      clear hcall
      rintro e w2 ⟨rfl, hb2⟩
      have HB2 := Lib.hid (keep HB1.out hb2)
      clear hb2
      go_wp2_with fail
      have hcall := graphCheck_bad x A m cp a b c w2 (HL.out.keep HB2.out) hm _ HF.out
      refine hcall.mono ?_
      clear hcall
      rintro e w3 ⟨rfl, hb3⟩
      have HB3 := Lib.hid (keep HB2.out hb3)
      clear hb3
      go_wp2_with fail
      have hcall := err_no 5 5 true ⟨fun _ => rfl, fun _ => rfl⟩ w3 (HG.out.keep HB3.out)
      refine hcall.mono ?_
      clear hcall
      rintro e w4 ⟨rfl, hb4⟩
      have HB4 := Lib.hid (keep HB3.out hb4)
      clear hb4
      go_wp2_with fail
      go_loopw [13, 17] (fun v i wr => v = .slice none 0 0 ∧ i = .int .i64 0 ∧ wr = w4) (fun _ _ _ => 0)
      case atStart => exact ⟨rfl, rfl, rfl⟩
      case round =>
        obtain ⟨rfl, rfl, hwr⟩ := hrel
        subst wr
        go_wp2_with fail
        have hcall := costs_bad x A m cp a b c w4 (HL.out.keep HB4.out) hm _ HF.out
        refine hcall.mono ?_
        clear hcall
        rintro e w5 ⟨rfl, hb5⟩
        have HB5 := Lib.hid (keep HB4.out hb5)
        clear hb5
        go_wp2_with fail
        have hcall := err_no 5 5 true ⟨fun _ => rfl, fun _ => rfl⟩ w5 (HG.out.keep HB5.out)
        refine hcall.mono ?_
        clear hcall
        rintro e w6 ⟨rfl, hb6⟩
        have HB6 := Lib.hid (keep HB5.out hb6)
        clear hb6
        go_wp2_with fail
        have hcall := rows_walk none none 0 0 0 0 (fun _ => 0) (fun _ => 0) (fun _ _ => 0) (fun _ _ => 0) w6 (fun j hj => absurd hj (by omega)) (fun j hj => absurd hj (by omega)) (by omega) (by omega) (fun i hi => absurd hi (by omega)) (fun i hi => absurd hi (by omega)) true ⟨fun _ => ⟨rfl, fun i hi => absurd hi (by omega)⟩, fun _ => rfl⟩
        refine hcall.mono ?_
        clear hcall
        rintro e w7 ⟨rfl, k7, hw7⟩
        have HB7 : Hid (Below w.heap.size w w7) := by subst w7; exact below_drewN HB6.out k7
        clear hw7
        go_wp2_with fail
        have hcall := near_bad x y A m cp a b c w7 (HL.out.keep HB7.out) hm _ (.inl HF.out)
        refine hcall.mono ?_
        clear hcall
        rintro e w8 ⟨rfl, hb8⟩
        have HB8 := Lib.hid (keep HB7.out hb8)
        clear hb8
        go_wp2_with fail
        have hcall := err_no 5 5 true ⟨fun _ => rfl, fun _ => rfl⟩ w8 (HG.out.keep HB8.out)
        refine hcall.mono ?_
        clear hcall
        rintro e w9 ⟨rfl, hb9⟩
        have HB9 := Lib.hid (keep HB8.out hb9)
        clear hb9
        go_wp2_with fail
        have hcall := ints_walk none none 0 0 0 0 (fun _ => 0) (fun _ => 0) w9 (fun j hj => absurd hj (by omega)) (fun j hj => absurd hj (by omega)) (by omega) (by omega) true ⟨fun _ => ⟨rfl, fun _ _ => rfl⟩, fun _ => rfl⟩
        refine hcall.mono ?_
        clear hcall
        rintro e w10 ⟨rfl, k10, hw10⟩
        have HB10 : Hid (Below w.heap.size w w10) := by subst w10; exact below_drewN HB9.out k10
        clear hw10
        go_wp2_with fail
        have hcall := cut_bad x y z A m cp a b c w10 (HL.out.keep HB10.out) hm _ HF.out
        refine hcall.mono ?_
        clear hcall
        rintro e w11 ⟨rfl, hb11⟩
        have HB11 := Lib.hid (keep HB10.out hb11)
        clear hb11
        go_wp2_with fail
        have hcall := err_no 5 5 true ⟨fun _ => rfl, fun _ => rfl⟩ w11 (HG.out.keep HB11.out)
        refine hcall.mono ?_
        clear hcall
        rintro e w12 ⟨rfl, hb12⟩
        have HB12 := Lib.hid (keep HB11.out hb12)
        clear hb12
        go_wp2_with fail
        have hcall := links_same none none 0 0 0 (fun _ => 0) (fun _ => 0) (fun _ => 0) w12 (fun j hj => absurd hj (by omega)) (fun j hj => absurd hj (by omega)) (by omega)
        refine hcall.mono ?_
        clear hcall
        rintro e w13 ⟨rfl, k13, hw13⟩
        have HB13 : Hid (Below w.heap.size w w13) := by subst w13; exact below_drewN HB12.out k13
        clear hw13
        go_wp2_with fail
        go_ret
        exact ⟨rfl, HB13.out⟩

end Go.Proofs.YtdilajieimbdnaaDoor
