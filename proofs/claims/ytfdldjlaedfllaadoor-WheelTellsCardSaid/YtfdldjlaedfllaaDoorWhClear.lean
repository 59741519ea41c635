/- The wheel: Clear: the walk. -/
import Derived.Test.YtfdldjlaedfllaaDoorWhOps
namespace Go.Proofs.YtfdldjlaedfllaaDoor
open Go.RowKit Go.Maps
set_option linter.unusedVariables false

section
variable {w w1 w2 : World} {F : Nat → Prop} {p bA b N M : Nat} {B : Nat → Option Nat} {now : Int} {due due' : Nat → Int} {s : Nat}
/-- Two maps have turned: one slot's and the map of all. -/
theorem WhB.turn (h : WhB w p bA B N now due) (hM : N ≤ M) (hs : s < 64) (hb : B s = some b) (hg1 : w.grownBy w1 (some b)) (h1 : MapD w1 b M (slotD due' s)) (hg2 : w1.grownBy w2 (some bA)) (h2 : MapD w2 bA M due')
    (ho : ∀ t, t < 64 → t ≠ s → ∀ i, i < 64 → slotD due' t i = slotD due t i) : WhB w2 p bA B M now due' := by
  have hpb := h.p_ne' hs hb
  have hpA := h.p_ne
  have hbA : b ≠ bA := fun e => h.ne s hs (by rw [hb, e])
  have blk : ∀ k, k < w.heap.size → k ≠ b → k ≠ bA → w2.heap[k]? = w.heap[k]? := fun k hk e1 e2 => (hg2.block k (Nat.lt_of_lt_of_le hk hg1.size) (by simpa using e2)).trans (hg1.block k hk (by simpa using e1))
  have hp := blk p h.p_lt (Ne.symm hpb) (Ne.symm hpA)
  refine ⟨(World.cell?_of_block hp).trans h.c0, (World.cell?_of_block hp).trans h.ca, fun t ht => (World.cell?_of_block hp).trans (h.cs t ht), fun j => ?_, h2, ?_, ?_, h.ne, h.inj⟩
  · have := h.fz j
    unfold World.frozen? at this ⊢
    rw [hp]
    exact this
  · intro t ht hn i hi
    have hne : t ≠ s := by rintro rfl; rw [hb] at hn; cases hn
    rw [ho t ht hne i hi]
    exact h.no t ht hn i hi
  · intro t c ht hc
    by_cases e : t = s
    · subst e
      have : b = c := by rw [hb] at hc; exact Option.some.inj hc
      subst this
      exact h1.same (hg2.block b h1.lt (by simpa using hbA))
    · have hcb : c ≠ b := by rintro rfl; exact e (h.inj t s c ht hs hc hb)
      have hcA : c ≠ bA := fun e' => h.ne t ht (by rw [hc, e'])
      exact ((h.sl t c ht hc).mono hM |>.same (blk c (h.sl t c ht hc).lt hcb hcA)).congr fun i hi => (ho t ht e i hi).symm
end

set_option maxRecDepth 100000 in
set_option maxHeartbeats 1000000 in
theorem wclear_bad (v : Value) (x : Int) (hx : x < 0 ∨ 64 ≤ x) (w : World) : Calls Tryd.prog 11 #[v, .int .i64 x] w fun e w' => e = .returned (errNo 1) ∧ w' = w := by
  have hcall := wcheck_bad x hx w
  have HC := Lib.hid hcall
  clear hcall hx
  go_enter Tryd.func11, Tryd.ntmps11
  go_wp2_with fail
  refine HC.out.mono ?_
  rintro e w1 ⟨rfl, h1⟩
  subst w1
  go_wp2_with fail
  go_ret
  exact ⟨rfl, rfl⟩

set_option maxRecDepth 100000 in
set_option maxHeartbeats 1000000 in
theorem wclear_none (w : World) (F : Nat → Prop) (p N : Nat) (now : Int) (due : Nat → Int) (h : Wh w F p N now due) (i : Nat) (hi : i < 64) (h0 : due i = 0) :
    Calls Tryd.prog 11 #[.pointer (some ⟨p, 0, none⟩), .int .i64 i] w fun e w' => e = .returned (errNo 2) ∧ w' = w := by
  obtain ⟨bA, B, hB, hF⟩ := h
  obtain ⟨D, hown, hD⟩ := hB.at_
  have ca := hB.ca
  have hh : Maps.has D (keyI i) = false := by
    cases e : Maps.has D (keyI i)
    · rfl
    · exact absurd h0 ((hD.has i hi).1 e)
  have hkey := keyOfI hi
  have hcall := wcheck_ok i hi w
  have HC := Lib.hid hcall
  clear hcall hB hF hD h0
  go_enter Tryd.func11, Tryd.ntmps11
  go_wp2_with fail
  refine HC.out.mono ?_
  rintro e w1 ⟨rfl, h1⟩
  subst w1
  go_wp2_with (first
    | (at_lookup; refine wpList_lookup_own_ok_int _ rfl _ _ 46 rfl 3 3 .i64 keyedI Tryd.underlying46 Tryd.underlying3 (zeroI _) bA N D rfl hown _ _ rfl hkey ?_; intro c hat2 hwc)
    | go_in)
  go_ret
  exact ⟨rfl, rfl⟩

set_option maxRecDepth 100000 in
set_option maxHeartbeats 1000000 in
theorem wclear_ok (w : World) (F : Nat → Prop) (p N : Nat) (now : Int) (due : Nat → Int) (h : Wh w F p N now due) (i : Nat) (hi : i < 64) (h0 : 0 < due i) :
    Calls Tryd.prog 11 #[.pointer (some ⟨p, 0, none⟩), .int .i64 i] w fun e w' => e = .returned .nilIface ∧ Wh w' F p N now (setD due i 0) ∧ Fr F w w' := by
  obtain ⟨bA, B, hB, hF⟩ := h
  obtain ⟨D, hown, hD⟩ := hB.at_
  obtain ⟨s, hs⟩ : ∃ s : Nat, due i % 64 = s := ⟨(due i % 64).toNat, by omega⟩
  have hs64 : s < 64 := by omega
  obtain ⟨b, hb⟩ : ∃ b, B s = some b := by
    cases e : B s with
    | none =>
      have := hB.no s hs64 e i hi
      unfold slotD at this
      rw [if_pos hs] at this
      omega
    | some b => exact ⟨b, rfl⟩
  obtain ⟨D2, hown2, hD2⟩ := hB.sl s b hs64 hb
  have ca := hB.ca
  have cs := hB.cs s hs64
  rw [hb] at cs
  have hh : Maps.has D (keyI i) = true := (hD.has i hi).2 (by omega)
  have hat := hD.at_ i hi (by omega) (.lit (.int .i64 0))
  have hkey := keyOfI hi
  have hbA : b ≠ bA := fun e => hB.ne s hs64 (by rw [hb, e])
  have hpb := hB.p_ne' hs64 hb
  have HB := Lib.hid hB
  have HF := Lib.hid hF
  have HD := Lib.hid hD
  have HD2 := Lib.hid hD2
  have HS := Lib.hid hs
  have hcall := wcheck_ok i hi w
  have HC := Lib.hid hcall
  have ht : (due i).tmod 64 = s := by rw [Int.tmod_eq_emod_of_nonneg (by omega)]; exact hs
  have hs64' : (s : Int) < 64 := by omega
  have H0 := Lib.hid h0
  clear hcall hB hF hD hD2 hs h0
  obtain ⟨x, hx⟩ : ∃ x, due i = x := ⟨_, rfl⟩
  rw [hx] at hat ht
  have HX := Lib.hid hx
  clear hx
  go_enter Tryd.func11, Tryd.ntmps11
  go_wp2_with fail
  refine HC.out.mono ?_
  rintro e w1 ⟨rfl, h1⟩
  subst w1
  go_wp2_with (first
    | (at_lookup; refine wpList_lookup_own_ok_int _ rfl _ _ 46 rfl 3 3 .i64 keyedI Tryd.underlying46 Tryd.underlying3 (zeroI _) bA N D rfl hown _ _ rfl hkey ?_; intro c hat2 hwc; rw [hat] at hat2; injection hat2 with hat2; injection hat2 with _ hat2; subst hat2)
    | (at_delete; refine wpList_delete_own _ rfl _ _ 46 3 rfl 3 keyedI Tryd.underlying46 (plainElem Tryd.prog 3) b N D2 rfl hown2 _ _ rfl hkey ?_; intro w1 hown3 hturn3
       have hg3 := hturn3.grown
       have ca1 : w1.cell? ⟨p, 65, none⟩ = some (.map (some bA)) := hg3.cell ca (by simpa using Ne.symm hpb)
       have hown4 : w1.ownsMap Tryd.prog 3 (plainElem Tryd.prog 3) bA N D := hown.kept hg3 (by simpa using Ne.symm hbA)
       clear hturn3)
    | (at_delete; refine wpList_delete_own _ rfl _ _ 46 3 rfl 3 keyedI Tryd.underlying46 (plainElem Tryd.prog 3) bA N D rfl hown4 _ _ rfl hkey ?_; intro w2 hown5 hturn5
       have hg5 := hturn5.grown
       clear hturn5)
    | go_in)
  go_ret
  have hs1 : due i % 64 = s := HS.out
  refine ⟨rfl, ⟨bA, B, HB.out.turn (Nat.le_refl _) hs64 hb hg3 ⟨_, hown3, ?_⟩ hg5 ⟨_, hown5, HD.out.del i⟩ ?_, HF.out⟩, ?_⟩
  · exact (HD2.out.del i).congr fun k hk => by rw [slotD_del s k, if_pos hs1]
  · intro t ht hne k hk
    rw [slotD_del t k, if_neg (by omega)]
  · exact (Fr.of_grown hg3 (fun k e => by cases e; exact (HF.out _).2 (.inr (.inr ⟨s, hs64, hb⟩)))).trans (Fr.of_grown (F := F) hg5 (fun k e => by cases e; exact (HF.out _).2 (.inr (.inl rfl)))) fun k e => .inl e

end Go.Proofs.YtfdldjlaedfllaaDoor
