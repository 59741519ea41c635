/- The walk of loop.Loops. -/
import Derived.Test.YtlemmphnmklbeaaLoop
namespace Go.Proofs.Ytlemmphnmklbeaa
open Go.RowKit
set_option linter.unusedVariables false

/-- What is so behind c steps of the second walk. -/
def LoopB (n : Nat) (s : Nat → Int) (i l c : Nat) (O O' : Nat → Bool) : Prop :=
  ∀ v, v < n → (O' v = true ↔ (O v = true ∨ ∃ b, l ≤ b ∧ b < l + c ∧ itN s i b = v))

section
variable {n : Nat} {s : Nat → Int} {i j l c : Nat} {M M' : Nat → Int} {O O' : Nat → Bool}
theorem LoopB.start (n : Nat) (s : Nat → Int) (i l : Nat) (O : Nat → Bool) : LoopB n s i l 0 O O := fun v _ =>
  ⟨fun h => .inl h, fun h => h.elim id fun ⟨b, h1, h2, _⟩ => absurd h2 (by omega)⟩
theorem LoopB.next (h : LoopB n s i l c O O') {a : Nat} (ha : itN s i (l + c) = a) : LoopB n s i l (c + 1) O (fun v => if v = a then true else O' v) := fun v hv => by
  by_cases e : v = a
  · subst e
    show (if v = v then true else O' v) = true ↔ _
    rw [if_pos rfl]
    exact ⟨fun _ => .inr ⟨l + c, by omega, by omega, ha⟩, fun _ => rfl⟩
  · simp only [if_neg e]
    rw [h v hv]
    constructor
    · rintro (h | ⟨b, h1, h2, h3⟩)
      · exact .inl h
      · exact .inr ⟨b, h1, by omega, h3⟩
    · rintro (h | ⟨b, h1, h2, h3⟩)
      · exact .inl h
      · rcases Nat.lt_or_ge b (l + c) with hlt | hge
        · exact .inr ⟨b, h1, hlt, h3⟩
        · obtain rfl : b = l + c := by omega
          exact absurd (show v = a by omega) e
theorem LoopB.open_ (h : LoopB n s i l c O O') (hI : LoopI n s i M O) (hA : LoopA n s i M j M') (hc : l + c < j) {a : Nat} (ha : itN s i (l + c) = a) : a < n ∧ M' a = (i : Int) + 1 ∧ O' a = false := by
  obtain ⟨a', ha', han, h0⟩ := hA.pos (l + c) hc
  obtain rfl : a = a' := by omega
  refine ⟨han, ?_, ?_⟩
  · rcases hA.val a han with ⟨-, hn⟩ | ⟨e, -, -⟩
    · exact absurd ha (hn _ hc)
    · exact e
  · cases hO : O' a with
    | false => rfl
    | true =>
      rcases (h a han).1 hO with h1 | ⟨b, h1, h2, h3⟩
      · exact absurd h0 ((hI.on a han).1 h1).2
      · exact absurd (h3.trans ha.symm) (hA.once b (l + c) h2 hc)
theorem LoopB.shut (h : LoopB n s i l c O O') (hl : l < j) (hc : l + c = j) {a : Nat} (ha : itN s i l = a) (han : a < n) : O' a = true :=
  (h a han).2 (.inr ⟨l, Nat.le_refl _, by omega, ha⟩)
end

/-- The two tables, in the call's own blocks. -/
structure LW (w wr : World) (n : Nat) (M : Nat → Int) (O : Nat → Bool) : Prop where
  met : RowP wr w.heap.size 3 n (fun v => .int .i64 (M v))
  on : RowP wr (w.heap.size + 1) 4 n (fun v => .bool (O v))
  bel : Below w.heap.size w wr

theorem LW.start (w : World) (n : Nat) : LW w ((w.alloc (.cells (madeCells #[.int .i64 0] n) 3)).alloc (.cells (madeCells #[.bool false] n) 4)) n (fun _ => 0) (fun _ => false) := by
  refine ⟨(RowP.made w _ n _).alloc _, ?_, ((Below.refl _ _).alloc (Nat.le_refl _) _).alloc (by simp) _⟩
  have h := RowP.made (w.alloc (.cells (madeCells #[.int .i64 0] n) 3)) (.bool false) n 4
  have e : (w.alloc (.cells (madeCells #[.int .i64 0] n) 3)).heap.size = w.heap.size + 1 := by simp
  rw [e] at h
  exact h
theorem LW.setM {w wr : World} {n : Nat} {M : Nat → Int} {O : Nat → Bool} (h : LW w wr n M O) (a : Nat) (z : Int) : LW w (wr.setCell ⟨w.heap.size, a, none⟩ (.int .i64 z)) n (fun v => if v = a then z else M v) O := by
  refine ⟨(h.met.set a _).congr fun i hi => ?_, h.on.setOther (show w.heap.size + 1 ≠ w.heap.size by omega) _, h.bel.setCell (Nat.le_refl _) _⟩
  unfold upd
  by_cases e : i = a
  · rw [if_pos e, if_pos e]
  · rw [if_neg e, if_neg e]
theorem LW.setO {w wr : World} {n : Nat} {M : Nat → Int} {O : Nat → Bool} (h : LW w wr n M O) (a : Nat) (z : Bool) : LW w (wr.setCell ⟨w.heap.size + 1, a, none⟩ (.bool z)) n M (fun v => if v = a then z else O v) := by
  refine ⟨h.met.setOther (show w.heap.size ≠ w.heap.size + 1 by omega) _, (h.on.set a _).congr fun i hi => ?_, h.bel.setCell (show w.heap.size ≤ w.heap.size + 1 by omega) _⟩
  unfold upd
  by_cases e : i = a
  · rw [if_pos e, if_pos e]
  · rw [if_neg e, if_neg e]

theorem infoIntL : (Try.prog.info? 3).map (fun i => (i.zero, i.size, i.bytes)) = some (some (.int .i64 0), 1, 8) := by kernel_rfl
theorem infoBoolL : (Try.prog.info? 4).map (fun i => (i.zero, i.size, i.bytes)) = some (some (.bool false), 1, 1) := by kernel_rfl

set_option maxRecDepth 100000 in
set_option maxHeartbeats 4000000 in
theorem loops_ok (A : Option Addr) (n c : Nat) (s : Nat → Int) (w : World) (hA : Vec w A n s) (hn : n ≤ 17592186044416) (hs : OkN n s) (p : Nat → Bool) (hp : ∀ v, v < n → (p v = true ↔ OnC s v)) :
    Calls Try.prog 15 #[.slice A n c] w fun e w' => ∃ v, e = .returned (.tuple #[v, .nilIface]) ∧ OwnV w' w.heap.size v (pickL p n).length (atL (pickL p n)) ∧ Below w.heap.size w w' := by
  have hmi := run_make_row' (P := Try.prog) 23 3 (.int .i64 0) 8 Try.underlying23 infoIntL rfl .i64 .i64 n (by omega) (by omega)
  have hmb := run_make_row' (P := Try.prog) 63 4 (.bool false) 1 Try.underlying63 infoBoolL rfl .i64 .i64 n (by omega) (by omega)
  have hn' : (n : Int) ≤ 17592186044416 := by omega
  have HA := Lib.hid hA
  have HS := Lib.hid hs
  have HP := Lib.hid hp
  clear hA hs hp
  have L0 := Lib.hid (LW.start w n)
  have hck := loopCheck_ok A n c s w HA.out (by omega) HS.out
  go_enter Try.func15, Try.ntmps15
  go_wp2_with fail
  refine hck.mono ?_
  clear hck
  rintro e w2 ⟨rfl, hw2⟩
  subst w2
  go_wp2_with fail
  go_loopw [25] (fun i wr => ∃ (r : Nat) (M : Nat → Int) (O : Nat → Bool), r ≤ n ∧ i = .int .i64 r ∧ LoopI n s r M O ∧ LW w wr n M O) (fun i _ => n - (intOf i).toNat)
  case atStart => exact ⟨0, _, _, by omega, rfl, LoopI.start n s, L0.out⟩
  case round =>
    obtain ⟨r, M, O, hr, rfl, hI, hW⟩ := hrel
    clear hmi hmb L0
    have HI := Lib.hid hI
    have HW := Lib.hid hW
    clear hI hW
    by_cases hlt : r < n
    · have hlt' : (r : Int) < n := by omega
      go_wp2_with fail
      go_loopg [8] n (fun k v8 wr2 => ∃ (j : Nat) (z : Int) (M' : Nat → Int), j + k = n ∧ v8 = .int .i64 z ∧ itN s r j = z ∧ LoopA n s r M j M' ∧ LW w wr2 n M' O)
      case atStart => exact ⟨0, r, M, by omega, rfl, itN_zero s r, LoopA.start n s r M, HW.out⟩
      case round =>
        obtain ⟨j, z, M', hk, rfl, hz, hA, hW2⟩ := hrel
        clear HW
        have HZ := Lib.hid hz
        have HLA := Lib.hid hA
        have HW := Lib.hid hW2
        have hzn : z < n := by have := (itN_lt HS.out hlt j).2; omega
        clear hz hA hW2
        by_cases hz0 : z < 0
        · have hd : decide (0 ≤ z) = false := decide_eq_false (by omega)
          have HI2 := Lib.hid (HLA.out.plain HI.out HS.out hlt (.inl (by rw [HZ.out]; exact hz0)))
          go_wp2_with fail
          go_loopg [8] 0 (fun k v8 wr3 => v8 = .int .i64 z ∧ LW w wr3 n M' O)
          case atStart => exact ⟨rfl, HW.out⟩
          case round =>
            obtain ⟨rfl, hW3⟩ := hrel
            clear HW
            have HW := Lib.hid hW3
            clear hW3
            go_wp2_with fail
            go_roundw
            case rel => exact ⟨r + 1, M', O, by omega, by go_num, HI2.out, HW.out⟩
            case measure => simp [intOf]; omega
        · obtain ⟨a, rfl⟩ : ∃ a : Nat, z = a := ⟨z.toNat, by omega⟩
          have han : a < n := by omega
          have hcm := HW.out.met.cell han
          have hfm := HW.out.met.frozen a
          by_cases hm0 : M' a = 0
          · rw [hm0] at hcm
            have HLA2 := Lib.hid (HLA.out.next HZ.out han hm0)
            have HZ2 := Lib.hid (itN_succ HZ.out)
            have HW2 := Lib.hid (HW.out.setM a ((r : Int) + 1))
            have hjn : j + 1 ≤ n := HLA2.out.few
            obtain ⟨ad, rfl, hal, hac⟩ := (HA.out.keep HW2.out.bel) a han
            clear hal hm0
            go_wp2_with fail
            go_roundg (gk - 1)
            case measure => omega
            case rel => exact ⟨j + 1, s a, _, by omega, rfl, HZ2.out, HLA2.out, HW2.out⟩
          · have hme : (M' a == 0) = false := beq_false_of_ne hm0
            have hrc := (HLA.out.marks HI.out hlt (.inr ⟨a, HZ.out, hm0⟩)).1 a han
            by_cases hm1 : M' a = r + 1
            · obtain ⟨l, hl, hle⟩ := HLA.out.turn HI.out HZ.out han hm1
              have HL := Lib.hid hle
              have HM1 := Lib.hid hm1
              rw [hm1] at hcm
              clear hle hm1 hme
              go_wp2_with fail
              go_loopg [8] (j - l) (fun k v8 wr3 => ∃ (c2 : Nat) (z2 : Int) (O' : Nat → Bool), l + c2 + k = j ∧ v8 = .int .i64 z2 ∧ itN s r (l + c2) = z2 ∧ LoopB n s r l c2 O O' ∧ LW w wr3 n M' O')
              case atStart => exact ⟨0, a, O, by omega, rfl, HL.out, LoopB.start n s r l O, HW.out⟩
              case round =>
                obtain ⟨c2, z2, O', hk2, rfl, hz2, hB, hW3⟩ := hrel
                clear HW hcm hfm hrc
                have HW := Lib.hid hW3
                have HB := Lib.hid hB
                have HZ2 := Lib.hid hz2
                clear hB hW3 hz2
                rcases Nat.lt_or_ge (l + c2) j with hcl | hcg
                · obtain ⟨a2, ha2, -, -⟩ := HLA.out.pos (l + c2) hcl
                  have he2 := HZ2.out.symm.trans ha2
                  subst he2
                  obtain ⟨han2, hm2, hO2⟩ := HB.out.open_ HI.out HLA.out hcl ha2
                  have hcm := HW.out.met.cell han2
                  rw [hm2] at hcm
                  have hco := HW.out.on.cell han2
                  rw [hO2] at hco
                  have hfo := HW.out.on.frozen a2
                  have HB2 := Lib.hid (HB.out.next ha2)
                  have HZ3 := Lib.hid (itN_succ ha2)
                  have HW2 := Lib.hid (HW.out.setO a2 true)
                  obtain ⟨ad, rfl, hal, hac⟩ := (HA.out.keep HW2.out.bel) a2 han2
                  clear hal hm2 hO2 ha2
                  go_wp2_with fail
                  go_roundg (gk - 1)
                  case measure => omega
                  case rel => exact ⟨c2 + 1, s a2, _, by omega, rfl, HZ3.out, HB2.out, HW2.out⟩
                · have hej : l + c2 = j := by omega
                  have he2 : z2 = a := by rw [← HZ2.out, hej]; exact HZ.out
                  subst he2
                  have hO2 := HB.out.shut hl hej HL.out han
                  have hcm := HW.out.met.cell han
                  have hm2 : M' a = r + 1 := HM1.out
                  rw [hm2] at hcm
                  have hco := HW.out.on.cell han
                  rw [hO2] at hco
                  have HI2 := Lib.hid (HLA.out.round HI.out HS.out hlt hl (HL.out.trans HZ.out.symm) (fun v hv => by
                    have := HB.out v hv
                    rw [hej] at this
                    exact this))
                  clear hm2 hO2
                  go_wp2_with fail
                  go_roundw
                  case rel => exact ⟨r + 1, M', _, by omega, by go_num, HI2.out, HW.out⟩
                  case measure => simp [intOf]; omega
            · have hme1 : (M' a == (r : Int) + 1) = false := beq_false_of_ne hm1
              have HI2 := Lib.hid (HLA.out.plain HI.out HS.out hlt (.inr ⟨a, HZ.out, hm0, hm1⟩))
              clear hm0 hm1
              go_wp2_with fail
              go_loopg [8] 0 (fun k v8 wr3 => v8 = .int .i64 a ∧ LW w wr3 n M' O)
              case atStart => exact ⟨rfl, HW.out⟩
              case round =>
                obtain ⟨rfl, hW3⟩ := hrel
                clear HW hcm hfm
                have HW := Lib.hid hW3
                clear hW3
                have hcm := HW.out.met.cell han
                go_wp2_with fail
                go_roundw
                case rel => exact ⟨r + 1, M', O, by omega, by go_num, HI2.out, HW.out⟩
                case measure => simp [intOf]; omega
    · obtain rfl : r = n := by omega
      have HO := Lib.hid HI.out.done
      clear HI
      go_wp2_with fail
      obtain ⟨u1, hu1⟩ : ∃ u : World, u = wr := ⟨wr, rfl⟩
      subst hu1
      go_loopw [9, 75] (fun v i wr2 => ∃ r2 : Nat, r2 ≤ r ∧ i = .int .i64 r2 ∧ OwnV wr2 u1.heap.size v (pickL p r2).length (atL (pickL p r2)) ∧ Below u1.heap.size u1 wr2) (fun _ i _ => r - (intOf i).toNat)
      case atStart => exact ⟨0, by omega, rfl, OwnV.nil _ _ _, Below.refl _ _⟩
      case round =>
        obtain ⟨r2, hr2, rfl, hT, hb⟩ := hrel
        have HT := Lib.hid hT
        have HB := Lib.hid hb
        clear hT hb
        by_cases hlt : r2 < r
        · have hlt' : (r2 : Int) < r := by omega
          have hc := (HW.out.on.below HB.out HW.out.on.lt).cell hlt
          have hlen := pickL_len p r2
          have hpO : O r2 = p r2 := by
            have h1 := HO.out r2 hlt
            have h2 := HP.out r2 hlt
            cases hO : O r2 <;> cases hp : p r2 <;> simp_all
          cases hp : p r2 with
          | true =>
            rw [hpO, hp] at hc
            have HPk := Lib.hid (pickL_yes hp)
            clear hp hpO
            go_wp2_with (at_builtin; refine wpList_append_int rfl (.tmp 81) (.tmp 83) rfl u1.heap.size _ _ _ rfl (HT.out.alloc _) r2 _ rfl (cell_new_at _ _ _ rfl) (by omega) (by have := HB.out.size; simp; omega) ?_)
            intro g3 cap3 w3 hT3 hb3 _ _
            have HT3 : Hid (OwnV w3 u1.heap.size (.slice (some ⟨g3, 0, none⟩) ((pickL p r2).length + 1) cap3) (pickL p (r2 + 1)).length (atL (pickL p (r2 + 1)))) := by
              rw [HPk.out, List.length_append]
              exact OwnV.congr hT3 (atL_snoc _ _)
            have HB3 : Hid (Below u1.heap.size u1 w3) := (HB.out.alloc HB.out.size _).trans hb3
            clear hT3 hb3 hc hlen
            go_wp2_with fail
            go_roundw
            case rel => exact ⟨r2 + 1, by omega, by go_num, HT3.out, HB3.out⟩
            case measure => simp [intOf]; omega
          | false =>
            rw [hpO, hp] at hc
            have HPk := Lib.hid (pickL_no hp)
            clear hp hpO hlen
            go_wp2_with fail
            go_roundw
            case rel => exact ⟨r2 + 1, by omega, by go_num, by rw [HPk.out]; exact HT.out, HB.out⟩
            case measure => simp [intOf]; omega
        · obtain rfl : r2 = r := by omega
          go_wp2_with fail
          go_ret2
          refine ⟨_, rfl, ?_, keep HW.out.bel HB.out⟩
          have h := HT.out
          refine ⟨h.1, ?_⟩
          rcases h.2 with h' | ⟨q, cap, cur, hv, hb, hrest⟩
          · exact .inl h'
          · exact .inr ⟨q, cap, cur, hv, Nat.le_trans HW.out.bel.size hb, hrest⟩

end Go.Proofs.Ytlemmphnmklbeaa
