/- The wheel: Len: the walk. -/
import Derived.Shelf.SlIterI.Collect
import Derived.Shelf.SlGeneric
import Derived.Test.YtfdldjlaedfllaaDoorWhOps
import Derived.Test.YtfdldjlaedfllaaDoorHeld
namespace Go.Proofs.YtfdldjlaedfllaaDoor
open Go.RowKit Go.Maps Go.Sort Go.Shelf
set_option linter.unusedVariables false

def Whk.keys_ren : Go.Shelf.Ren := ⟨fun | 7 => 28 | 10 => 40 | n => n, fun | 23 => 46 | 26 => 3 | 3 => 3 | 28 => 62 | 0 => 0 | 27 => 61 | 33 => 74 | 4 => 4 | n => n, fun | n => n⟩
theorem Whk.keys : Go.Proofs.SlLaysZI.n7 Tryd.prog Whk.keys_ren := {
  mixed := by kernel_rfl
  f7 := ⟨Tryd.f28.name, by decide, Tryd.func28.trans (congrArg some (by kernel_rfl))⟩
  f10 := ⟨Tryd.f40.name, by decide, Tryd.func40.trans (congrArg some (by kernel_rfl))⟩
  t0 := Tryd.underlying0
  a0 := Tryd.isAgg0
  z0 := Tryd.sizeOf0
  v0 := Tryd.zeroValue0
  t4 := Tryd.underlying4
  a4 := Tryd.isAgg4
  z4 := Tryd.sizeOf4
  v4 := Tryd.zeroValue4
  t23 := Tryd.underlying46
  a23 := Tryd.isAgg46
  z23 := Tryd.sizeOf46
  v23 := Tryd.zeroValue46
  t26 := Tryd.underlying3
  a26 := Tryd.isAgg3
  z26 := Tryd.sizeOf3
  v26 := Tryd.zeroValue3
  t27 := Tryd.underlying61
  a27 := Tryd.isAgg61
  z27 := Tryd.sizeOf61
  v27 := Tryd.zeroValue61
  t28 := Tryd.underlying62
  a28 := Tryd.isAgg62
  z28 := Tryd.sizeOf62
  v28 := Tryd.zeroValue62
  t33 := Tryd.underlying74
  a33 := Tryd.isAgg74
  z33 := Tryd.sizeOf74
  v33 := Tryd.zeroValue74 }
def Whk.coll_ren : Go.Shelf.Ren := ⟨fun | 8 => 27 | 11 => 39 | n => n, fun | 26 => 3 | 28 => 62 | 24 => 22 | 0 => 0 | 33 => 74 | 4 => 4 | n => n, fun | n => n⟩
theorem Whk.coll : Go.Proofs.SlLaysZI.n8 Tryd.prog Whk.coll_ren := {
  mixed := by kernel_rfl
  f8 := ⟨Tryd.f27.name, by decide, Tryd.func27.trans (congrArg some (by kernel_rfl))⟩
  f11 := ⟨Tryd.f39.name, by decide, Tryd.func39.trans (congrArg some (by kernel_rfl))⟩
  t0 := Tryd.underlying0
  a0 := Tryd.isAgg0
  z0 := Tryd.sizeOf0
  v0 := Tryd.zeroValue0
  t24 := Tryd.underlying22
  a24 := Tryd.isAgg22
  z24 := Tryd.sizeOf22
  v24 := Tryd.zeroValue22
  t26 := Tryd.underlying3
  a26 := Tryd.isAgg3
  z26 := Tryd.sizeOf3
  v26 := Tryd.zeroValue3
  t28 := Tryd.underlying62
  a28 := Tryd.isAgg62
  z28 := Tryd.sizeOf62
  v28 := Tryd.zeroValue62
  i26 := by kernel_rfl }

/-- How many are due. -/
def cntD (due : Nat → Int) : Nat := ((List.range 64).filter fun i => decide (due i ≠ 0)).length

theorem keys_count {w : World} {b N : Nat} {D : DataW Unit} {due : Nat → Int} (h : w.ownsMap Tryd.prog 3 (plainElem Tryd.prog 3) b N D) (hD : RD D due) {ss : List Int} (hs : ss.Perm (intKeys D)) : ss.length = cntD due := by
  obtain ⟨es, rfl, hp, -⟩ := h.entries keyedI
  have hk : ∀ p ∈ es, ∃ x, p.1 = .int .i64 x := fun p hpm => by
    obtain ⟨i, -, e⟩ := hD.only p.1 (by
      rw [has_eq, List.any_eq_true]
      refine ⟨p, hpm, ?_⟩
      obtain ⟨es', e', -, hkey⟩ := h.entries keyedI
      injection e' with e'
      subst e'
      exact WideAt.sameKey_self (hkey p hpm))
    exact ⟨_, e⟩
  have hnd : (((List.range 64).filter fun i => decide (due i ≠ 0)).map fun i : Nat => (i : Int)).Nodup := by
    rw [List.nodup_iff_pairwise_ne, List.pairwise_map]
    exact (List.nodup_iff_pairwise_ne.1 (List.nodup_range.filter _)).imp fun {a b} hne e => hne (by omega)
  have hm : ∀ x : Int, x ∈ (((List.range 64).filter fun i => decide (due i ≠ 0)).map fun i : Nat => (i : Int)) ↔ Maps.has (.map es : DataW Unit) (.int .i64 x) = true := fun x => by
    rw [List.mem_map]
    constructor
    · rintro ⟨i, hi, rfl⟩
      rw [List.mem_filter, List.mem_range] at hi
      exact (hD.has i hi.1).2 (by simpa using hi.2)
    · intro hx
      obtain ⟨i, hi, e⟩ := hD.only _ hx
      obtain rfl : x = (i : Int) := by injection e
      refine ⟨i, ?_, rfl⟩
      rw [List.mem_filter, List.mem_range]
      exact ⟨hi, by simpa using (hD.has i hi).1 hx⟩
  rw [hs.length_eq, ← (perm_intKeys hp hk hnd hm).length_eq, List.length_map]
  rfl

theorem cntD_le (due : Nat → Int) : cntD due ≤ 64 := by
  have := List.length_filter_le (fun i => decide (due i ≠ 0)) (List.range 64)
  unfold cntD
  simpa using this

theorem keys_collected {w : World} {b N : Nat} {D : DataW Unit} {due : Nat → Int} (h : w.ownsMap Tryd.prog 3 (plainElem Tryd.prog 3) b N D) (hD : RD D due) :
    Calls Tryd.prog 27 #[.func (.func 40) #[] #[.pointer (some ⟨w.heap.size, 0, none⟩)]] (w.alloc (.cells #[.map (some b)] 46)) fun e w' => ∃ A c, e = .returned (.slice A (cntD due) c) ∧ Below w.heap.size w w' := by
  have hbl := h.lt
  have hseq : SeqGives Fence.wide 2 Tryd.prog 40 #[.pointer (some ⟨w.heap.size, 0, none⟩)] encZ (fun ss => ss.Perm (intKeys D)) (Maps.size D) (w.alloc (.cells #[.map (some b)] 46)) :=
    AnyZI.keys_gives (ρ := Whk.keys_ren) { Whk.keys with } Fence.wide _ trivial rfl (by omega) w.heap.size b N D _ (by simp) (by simp) (h.alloc _)
  have hsz : Maps.size D ≤ 64 := by
    obtain ⟨es, rfl, -, -⟩ := h.entries keyedI
    have := keys_count h hD (ss := intKeys (.map es)) (List.Perm.refl _)
    have h64 := cntD_le due
    rw [← this] at h64
    rw [size_eq]
    simpa [intKeys] using h64
  have eg : ∀ args w, (callFunc 40 args).run Tryd.prog w = .ok (.enter 40 args) w := fun args w => enters_go Tryd.func40 (by kernel_rfl) (by kernel_rfl) args w
  refine (callsIn_wide (n := 4)).1 ((AnyZI.collect_in Whk.coll Fence.wide 4 trivial trivial rfl (by omega) _ _ trivial eg _ _ (by unfold maxLen; omega) (by omega) _ hseq).mono ?_)
  rintro e w' ⟨v, ss, rfl, hS, hrow, -, hb⟩
  have hc := keys_count h hD hS
  have hb2 : Below w.heap.size w w' := keepAlloc (Below.refl _ _) hb
  rcases hrow.2 with ⟨hv, hn⟩ | ⟨g, cap, cur, hv, _⟩
  · exact ⟨none, 0, by rw [hv, ← hc, hn], hb2⟩
  · exact ⟨_, cap, by rw [hv, hc], hb2⟩

set_option maxRecDepth 100000 in
set_option maxHeartbeats 1000000 in
theorem wlen_walk (w : World) (F : Nat → Prop) (p N : Nat) (now : Int) (due : Nat → Int) (h : Wh w F p N now due) :
    Calls Tryd.prog 14 #[.pointer (some ⟨p, 0, none⟩)] w fun e w' => e = .returned (.int .i64 (cntD due : Int)) ∧ Below w.heap.size w w' := by
  obtain ⟨bA, B, hB, hF⟩ := h
  obtain ⟨D, hown, hD⟩ := hB.at_
  have ca := hB.ca
  have HK := Lib.hid ((callsIn_wide (n := 4)).1 (AnyZI.keys_in Whk.keys Fence.wide 4 trivial rfl (some bA) w))
  have HC := Lib.hid (keys_collected hown hD)
  clear hown hD hB hF
  go_enter Tryd.func14, Tryd.ntmps14
  go_wp2_with fail
  refine HK.out.mono ?_
  rintro e w1 ⟨rfl, h1⟩
  subst w1
  go_wp2_with fail
  refine HC.out.mono ?_
  rintro e w1 ⟨A, c, rfl, hb⟩
  have HB := Lib.hid hb
  clear hb HC HK
  go_wp2_with fail
  go_ret
  exact ⟨rfl, HB.out⟩

end Go.Proofs.YtfdldjlaedfllaaDoor
