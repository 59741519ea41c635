/- The wheel: Set: the walk. -/
import Derived.Test.YtfdldjlaedfllaaDoorWhClear
namespace Go.Proofs.YtfdldjlaedfllaaDoor
open Go.RowKit Go.Maps
set_option linter.unusedVariables false

section
variable {w : World} {p bA N : Nat} {B : Nat → Option Nat} {now : Int} {due : Nat → Int} {s : Nat}
/-- A slot gets its map. -/
theorem WhB.grow (h : WhB w p bA B N now due) (hs : s < 64) (hn : B s = none) :
    WhB ((w.alloc (.map #[] 0)).setCell ⟨p, 1 + s, none⟩ (.map (some w.heap.size))) p bA (fun t => if t = s then some w.heap.size else B t) N now due := by
  have hp := h.p_lt
  have blk : ∀ k, k < w.heap.size → k ≠ p → ((w.alloc (.map #[] 0)).setCell ⟨p, 1 + s, none⟩ (.map (some w.heap.size))).heap[k]? = w.heap[k]? := fun k hk hne =>
    (Below.heap_setCell _ _ _ _ hne).trans (Below.heap_alloc _ _ _ hk)
  have bnew : ((w.alloc (.map #[] 0)).setCell ⟨p, 1 + s, none⟩ (.map (some w.heap.size))).heap[w.heap.size]? = (w.alloc (.map #[] 0)).heap[w.heap.size]? := Below.heap_setCell _ _ _ _ (by show w.heap.size ≠ p; omega)
  have cold : ∀ j, (w.alloc (.map #[] 0)).cell? ⟨p, j, none⟩ = w.cell? ⟨p, j, none⟩ := fun j => World.cell?_of_block (Below.heap_alloc w _ _ hp)
  have coth : ∀ j, j ≠ 1 + s → ((w.alloc (.map #[] 0)).setCell ⟨p, 1 + s, none⟩ (.map (some w.heap.size))).cell? ⟨p, j, none⟩ = w.cell? ⟨p, j, none⟩ := fun j hj => by
    rw [World.cell?_setCell_other _ _ _ _ (show (⟨p, 1 + s, none⟩ : Addr) ≠ ⟨p, j, none⟩ from fun e => hj (by injection e with _ e; omega))]; exact cold j
  refine ⟨(coth 0 (by omega)).trans h.c0, (coth 65 (by omega)).trans h.ca, fun t ht => ?_, fun j => ?_, h.at_.same (blk _ h.at_.lt h.p_ne), fun t ht hb => ?_, fun t b ht hb => ?_, fun t ht hb => ?_, fun t u b ht hu hb hc => ?_⟩
  · by_cases e : t = s
    · subst e
      rw [if_pos rfl]
      exact World.cell?_setCell_same' _ _ _ (by rw [cold, h.cs t ht]; rfl)
    · rw [if_neg e, coth _ (by omega)]
      exact h.cs t ht
  · rw [World.frozen?_setCell]
    have := h.fz j
    unfold World.frozen? at this ⊢
    rw [Below.heap_alloc w _ _ hp]
    exact this
  · by_cases e : t = s
    · rw [if_pos e] at hb; cases hb
    · rw [if_neg e] at hb; exact h.no t ht hb
  · by_cases e : t = s
    · rw [if_pos e] at hb
      obtain rfl : w.heap.size = b := Option.some.inj hb
      subst e
      exact (((MapD.made w).same bnew).mono (Nat.zero_le _)).congr fun i hi => (h.no t ht hn i hi).symm
    · rw [if_neg e] at hb
      have := h.sl t b ht hb
      exact this.same (blk b this.lt (h.p_ne' ht hb))
  · have := h.at_.lt
    by_cases e : t = s
    · rw [if_pos e] at hb
      have := Option.some.inj hb
      omega
    · rw [if_neg e] at hb; exact h.ne t ht hb
  · by_cases e : t = s
    · by_cases e2 : u = s
      · omega
      · rw [if_pos e] at hb
        rw [if_neg e2] at hc
        have := (h.sl u b hu hc).lt
        have := Option.some.inj hb
        omega
    · by_cases e2 : u = s
      · rw [if_neg e] at hb
        rw [if_pos e2] at hc
        have := (h.sl t b ht hb).lt
        have := Option.some.inj hc
        omega
      · rw [if_neg e] at hb
        rw [if_neg e2] at hc
        exact h.inj t u b ht hu hb hc
end

theorem map_eq_some (b : Nat) (w : World) : Sem.run Tryd.prog (binOp BinOp.eql 46 (.map (some b)) (.map none)) w = .ok (.bool false) w := by kernel_rfl
theorem map_eq_none (w : World) : Sem.run Tryd.prog (binOp BinOp.eql 46 (.map none) (.map none)) w = .ok (.bool true) w := by kernel_rfl

/-- Whether it was due or not. -/
theorem wclear_any (w : World) (F : Nat → Prop) (p N : Nat) (now : Int) (due : Nat → Int) (h : Wh w F p N now due) (i : Nat) (hi : i < 64) (h0 : 0 ≤ due i) :
    Calls Tryd.prog 11 #[.pointer (some ⟨p, 0, none⟩), .int .i64 i] w fun e w' => (∃ v, e = .returned v) ∧ Wh w' F p N now (setD due i 0) ∧ Fr F w w' := by
  by_cases e : due i = 0
  · refine (wclear_none w F p N now due h i hi e).mono ?_
    rintro e w' ⟨rfl, rfl⟩
    exact ⟨⟨_, rfl⟩, h.congr fun k hk => by unfold setD; split; subst k; exact e; rfl, Fr.refl _ _⟩
  · refine (wclear_ok w F p N now due h i hi (by omega)).mono ?_
    rintro e w' ⟨rfl, h1, h2⟩
    exact ⟨⟨_, rfl⟩, h1, h2⟩

set_option maxRecDepth 100000 in
set_option maxHeartbeats 1000000 in
theorem wset_bad (w : World) (F : Nat → Prop) (p N : Nat) (now : Int) (due : Nat → Int) (h : Wh w F p N now due) (x y : Int) (hx : x < 0 ∨ 64 ≤ x ∨ y ≤ now ∨ 1099511627776 < y) :
    Calls Tryd.prog 10 #[.pointer (some ⟨p, 0, none⟩), .int .i64 x, .int .i64 y] w fun e w' => e = .returned (errNo 1) ∧ w' = w := by
  obtain ⟨bA, B, hB, hF⟩ := h
  have c0 := hB.c0
  clear hB hF
  by_cases h1 : x < 0 ∨ 64 ≤ x
  · have hcall := wcheck_bad x h1 w
    have HC := Lib.hid hcall
    clear hcall h1 hx
    go_enter Tryd.func10, Tryd.ntmps10
    go_wp2_with fail
    refine HC.out.mono ?_
    rintro e w1 ⟨rfl, h1⟩
    subst w1
    go_wp2_with fail
    go_ret
    exact ⟨rfl, rfl⟩
  · obtain ⟨i, rfl⟩ : ∃ i : Nat, x = i := ⟨x.toNat, by omega⟩
    have hcall := wcheck_ok i (by omega) w
    have HC := Lib.hid hcall
    have h2 : y ≤ now ∨ (now < y ∧ 1099511627776 < y) := by omega
    clear hcall h1 hx
    rcases h2 with h2 | ⟨h2, h3⟩
    · go_enter Tryd.func10, Tryd.ntmps10
      go_wp2_with fail
      refine HC.out.mono ?_
      rintro e w1 ⟨rfl, h1⟩
      subst w1
      go_wp2_with fail
      go_ret
      exact ⟨rfl, rfl⟩
    · have h4 : ¬ y ≤ now := by omega
      go_enter Tryd.func10, Tryd.ntmps10
      go_wp2_with fail
      refine HC.out.mono ?_
      rintro e w1 ⟨rfl, h1⟩
      subst w1
      go_wp2_with fail
      go_ret
      exact ⟨rfl, rfl⟩

set_option maxRecDepth 100000 in
set_option maxHeartbeats 2000000 in
theorem wset_ok (w : World) (F : Nat → Prop) (p N : Nat) (now : Int) (due : Nat → Int) (h : Wh w F p N now due) (hT : Tm now due) (hN : N < 4611686018427387904) (i : Nat) (hi : i < 64) (y : Int) (h1 : now < y) (h2 : y ≤ 1099511627776) :
    Calls Tryd.prog 10 #[.pointer (some ⟨p, 0, none⟩), .int .i64 i, .int .i64 y] w fun e w' => e = .returned .nilIface ∧ ∃ F', Wh w' F' p (N + 1) now (setD due i y) ∧ (∀ k, F' k → F k ∨ w.heap.size ≤ k) ∧ Fr F w w' := by
  obtain ⟨s, hs⟩ : ∃ s : Nat, y % 64 = s := ⟨(y % 64).toNat, by omega⟩
  have hs64 : s < 64 := by omega
  have hs64' : (s : Int) < 64 := by omega
  have h0 := hT.lo
  have ht : y.tmod 64 = s := by rw [Int.tmod_eq_emod_of_nonneg (by omega)]; exact hs
  have hcall := wcheck_ok i hi w
  have HC := Lib.hid hcall
  have hcall := wclear_any w F p N now due h i hi (by have := hT.due i hi; omega)
  have HC2 := Lib.hid hcall
  obtain ⟨bA, B, hB, hF⟩ := h
  have c0 := hB.c0
  have hkey := keyOfI hi
  have hw : (Lit.int .i64 y).wf = true := wf_le (by omega) (by omega)
  have h4 : ¬ y ≤ now := by omega
  have h5 : ¬ 1099511627776 < y := by omega
  have HT := Lib.hid hT
  have HS := Lib.hid hs
  have H0 : Hid (y ≠ 0) := Lib.hid (by omega)
  clear hcall hB hF hT hs h0 h1 h2
  go_enter Tryd.func10, Tryd.ntmps10
  go_wp2_with fail
  refine HC.out.mono ?_
  rintro e w1 ⟨rfl, h1⟩
  subst w1
  go_wp2_with fail
  refine HC2.out.mono ?_
  rintro e w1 ⟨⟨v, rfl⟩, ⟨bA1, B1, hB1, hF1⟩, hf1⟩
  have cs1 := hB1.cs s hs64
  have HF1 := Lib.hid hF1
  have Hf1 := Lib.hid hf1
  clear hF1 hf1 c0
  have hz : setD due i 0 i = 0 := setD_same due i 0
  obtain ⟨du, hdu⟩ : ∃ du, setD due i 0 = du := ⟨_, rfl⟩
  rw [hdu] at hB1 hz
  have HU : Hid (∀ k, setD du i y k = setD due i y k) := Lib.hid fun k => by rw [← hdu]; unfold setD; split <;> rfl
  clear hdu
  cases hb : B1 s with
  | none =>
    have hG := hB1.grow hs64 hb
    have ht' : w1.cell? ⟨p, 1 + s, none⟩ = some (.map none) := by rw [cs1, hb]
    have hf' : (w1.alloc (.map #[] 0)).frozen? ⟨p, 1 + s, none⟩ = false := by
      have := hB1.fz (1 + s)
      unfold World.frozen? at this ⊢
      rw [Below.heap_alloc w1 _ _ hB1.p_lt]
      exact this
    have hi' : (w1.alloc (.map #[] 0)).cell? ⟨p, 1 + s, none⟩ = some (.map none) := by
      rw [World.cell?_of_block (Below.heap_alloc w1 _ _ hB1.p_lt), ht']
    have hgr : Fr F w1 ((w1.alloc (.map #[] 0)).setCell ⟨p, 1 + s, none⟩ (.map (some w1.heap.size))) := (Fr.alloc (F := F) _).trans (Fr.setCell (F := F) ((HF1.out p).2 (.inl rfl))) fun k e => .inl e
    have heq := map_eq_none
    have hmm := @run_makeMap Tryd.prog
    obtain ⟨b, hbe⟩ : ∃ b, w1.heap.size = b := ⟨_, rfl⟩
    obtain ⟨B2, hB2⟩ : ∃ B2, (fun t => if t = s then some w1.heap.size else B1 t) = B2 := ⟨_, rfl⟩
    have hb2 : B2 s = some b := by rw [← hB2, ← hbe]; exact if_pos rfl
    have hold : ∀ k, Foot p bA1 B2 k → F k ∨ w.heap.size ≤ k := by
      rintro k (rfl | rfl | ⟨t, ht, e⟩)
      · exact .inl ((HF1.out _).2 (.inl rfl))
      · exact .inl ((HF1.out _).2 (.inr (.inl rfl)))
      · rw [← hB2] at e
        by_cases e2 : t = s
        · simp only [if_pos e2] at e
          have := Hf1.out.size
          right
          injection e with e
          omega
        · simp only [if_neg e2] at e
          exact .inl ((HF1.out _).2 (.inr (.inr ⟨t, ht, e⟩)))
    have hmine : ∀ t c, t < 64 → B2 t = some c → F c ∨ w1.heap.size ≤ c := fun t c ht e => by
      rw [← hB2] at e
      by_cases e2 : t = s
      · simp only [if_pos e2] at e
        right
        injection e with e
        omega
      · simp only [if_neg e2] at e
        exact .inl ((HF1.out _).2 (.inr (.inr ⟨t, ht, e⟩)))
    rw [hB2, hbe] at hG
    rw [hbe] at hgr
    have Hgr := Lib.hid hgr
    have HO := Lib.hid hold
    have HM := Lib.hid hmine
    clear hgr hold hmine cs1 hb hB2
    obtain ⟨D2, hown2, hD2⟩ := hG.sl s b hs64 hb2
    obtain ⟨D, hown, hD⟩ := hG.at_
    have cs2 := hG.cs s hs64
    rw [hb2] at cs2
    have ca1 := hG.ca
    have hbA : b ≠ bA1 := fun e => hG.ne s hs64 (by rw [hb2, e])
    have hpb := hG.p_ne' hs64 hb2
    have HB := Lib.hid hG
    have HD := Lib.hid hD
    have HD2 := Lib.hid hD2
    have Hb := Lib.hid hb2
    clear hG hD hD2 hb2 hB1
    go_wp2_with (first
      | (at_mapUpdate; refine wpList_mapUpdate_own _ rfl _ _ _ 46 rfl 3 3 keyedI Tryd.underlying46 _ b N _ rfl hown2 (by unfold maxLen; omega) _ _ _ rfl rfl hkey _ [] (plainElem_int Tryd.underlying3 hw) ?_; intro w2 hown3 hg3
         have ca2 : w2.cell? ⟨p, 65, none⟩ = some (.map (some bA1)) := hg3.cell ca1 (by simpa using Ne.symm hpb)
         have hown4 : w2.ownsMap Tryd.prog 3 (plainElem Tryd.prog 3) bA1 N D := hown.kept hg3 (by simpa using Ne.symm hbA))
      | (at_mapUpdate; refine wpList_mapUpdate_own _ rfl _ _ _ 46 rfl 3 3 keyedI Tryd.underlying46 _ bA1 N _ rfl hown4 (by unfold maxLen; omega) _ _ _ rfl rfl hkey _ [] (plainElem_int Tryd.underlying3 hw) ?_; intro w3 hown5 hg5)
      | go_in)
    go_ret
    have hlo := Hf1.out.size
    refine ⟨rfl, Foot p bA1 B2, ?_, HO.out, ((Hf1.out.trans Hgr.out fun k e => .inl e).trans (Fr.of_grown (F := fun k => F k ∨ w.heap.size ≤ k) hg3 (fun k e => by cases e; exact HO.out _ (.inr (.inr ⟨s, hs64, Hb.out⟩)))) fun k e => e).trans (Fr.of_grown (F := F) hg5 (fun k e => by cases e; exact (HF1.out _).2 (.inr (.inl rfl)))) fun k e => .inl e⟩
    refine Wh.congr (due := setD du i y) ⟨bA1, B2, HB.out.turn (Nat.le_succ _) hs64 Hb.out hg3 ⟨_, hown3, ?_⟩ hg5 ⟨_, hown5, HD.out.put hown4.isMap hi H0.out⟩ ?_, fun k => Iff.rfl⟩ fun k _ => HU.out k
    · exact (HD2.out.put hown2.isMap hi H0.out).congr fun k hk => by rw [slotD_set s H0.out hz k, if_pos HS.out]
    · intro t ht hne k hk
      rw [slotD_set t H0.out hz k, if_neg (by rw [HS.out]; omega)]
  | some b =>
    rw [hb] at cs1
    obtain ⟨D2, hown2, hD2⟩ := hB1.sl s b hs64 hb
    obtain ⟨D, hown, hD⟩ := hB1.at_
    have heq := map_eq_some b
    have ca1 := hB1.ca
    have hbA : b ≠ bA1 := fun e => hB1.ne s hs64 (by rw [hb, e])
    have hpb := hB1.p_ne' hs64 hb
    have HB := Lib.hid hB1
    have HD := Lib.hid hD
    have HD2 := Lib.hid hD2
    have Hb := Lib.hid hb
    clear hB1 hD hD2 hb
    go_wp2_with (first
      | (at_mapUpdate; refine wpList_mapUpdate_own _ rfl _ _ _ 46 rfl 3 3 keyedI Tryd.underlying46 _ b N _ rfl hown2 (by unfold maxLen; omega) _ _ _ rfl rfl hkey _ [] (plainElem_int Tryd.underlying3 hw) ?_; intro w2 hown3 hg3
         have ca2 : w2.cell? ⟨p, 65, none⟩ = some (.map (some bA1)) := hg3.cell ca1 (by simpa using Ne.symm hpb)
         have hown4 : w2.ownsMap Tryd.prog 3 (plainElem Tryd.prog 3) bA1 N D := hown.kept hg3 (by simpa using Ne.symm hbA))
      | (at_mapUpdate; refine wpList_mapUpdate_own _ rfl _ _ _ 46 rfl 3 3 keyedI Tryd.underlying46 _ bA1 N _ rfl hown4 (by unfold maxLen; omega) _ _ _ rfl rfl hkey _ [] (plainElem_int Tryd.underlying3 hw) ?_; intro w3 hown5 hg5)
      | go_in)
    go_ret
    refine ⟨rfl, F, ?_, fun k e => .inl e, (Hf1.out.trans (Fr.of_grown (F := F) hg3 (fun k e => by cases e; exact (HF1.out _).2 (.inr (.inr ⟨s, hs64, Hb.out⟩)))) fun k e => .inl e).trans (Fr.of_grown (F := F) hg5 (fun k e => by cases e; exact (HF1.out _).2 (.inr (.inl rfl)))) fun k e => .inl e⟩
    refine Wh.congr (due := setD du i y) ⟨bA1, B1, HB.out.turn (Nat.le_succ _) hs64 Hb.out hg3 ⟨_, hown3, ?_⟩ hg5 ⟨_, hown5, HD.out.put hown4.isMap hi H0.out⟩ ?_, HF1.out⟩ fun k _ => HU.out k
    · exact (HD2.out.put hown2.isMap hi H0.out).congr fun k hk => by rw [slotD_set s H0.out hz k, if_pos HS.out]
    · intro t ht hne k hk
      rw [slotD_set t H0.out hz k, if_neg (by rw [HS.out]; omega)]

end Go.Proofs.YtfdldjlaedfllaaDoor
