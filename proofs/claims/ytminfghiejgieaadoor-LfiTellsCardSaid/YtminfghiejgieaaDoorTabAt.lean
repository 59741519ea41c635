/- A table of the call's own, whose rows are written in place; slices.Clone of a slice of ints. -/
import Derived.Test.YtminfghiejgieaaDoorTab
import Derived.Test.YtminfghiejgieaaDoorOwnV
import Derived.Test.YtminfghiejgieaaDoorTail
import Derived.Lib.SliceRun
namespace Go.Proofs.YtminfghiejgieaaDoor
open Go.RowKit
set_option linter.unusedVariables false

/-- Rows 0 to i, n numbers each; row r is the block B r, of capacity C r. -/
structure TabAt (w : World) (base : Nat) (v : Value) (B C : Nat → Nat) (i n : Nat) (f : Nat → Nat → Int) : Prop where
  own : w.ownsRow base 24 1 v i ((List.range i).map fun r => .slice (some ⟨B r, 0, none⟩) n (C r))
  row : ∀ r, r < i → base ≤ B r ∧ RowP w (B r) 3 n fun j => .int .i64 (f r j)
  inj : ∀ r s, r < i → s < i → B r = B s → r = s

theorem Tab.at_ {w : World} {base : Nat} {v : Value} {i n : Nat} {f : Nat → Nat → Int} (h : Tab w base v i n f) : ∃ B C, TabAt w base v B C i n f := by
  obtain ⟨B, C, h1, h2, h3⟩ := h
  exact ⟨B, C, h1, h2, h3⟩

section
variable {w w' : World} {base : Nat} {v : Value} {B C : Nat → Nat} {i n : Nat} {f f' : Nat → Nat → Int}
theorem TabAt.tab (h : TabAt w base v B C i n f) : Tab w base v i n f := ⟨B, C, h.own, h.row, h.inj⟩
theorem TabAt.drewN (h : TabAt w base v B C i n f) (k : Nat) : TabAt (w.drewN k) base v B C i n f := ⟨h.own, fun r hr => ⟨(h.row r hr).1, (h.row r hr).2.drewN k⟩, h.inj⟩
theorem TabAt.drew (h : TabAt w base v B C i n f) : TabAt w.drew base v B C i n f := h.drewN 1
theorem TabAt.same (h : TabAt w base v B C i n f) (hs : ∀ b, base ≤ b → b < w.heap.size → w'.heap[b]? = w.heap[b]?) : TabAt w' base v B C i n f :=
  ⟨ownsRow_same h.own hs, fun r hlt => ⟨(h.row r hlt).1, (h.row r hlt).2.of_block (hs _ (h.row r hlt).1 (h.row r hlt).2.lt)⟩, h.inj⟩
theorem TabAt.below (h : TabAt w base v B C i n f) (hb : Below w.heap.size w w') : TabAt w' base v B C i n f := h.same fun b _ hlt => hb.block b hlt
theorem TabAt.congr (h : TabAt w base v B C i n f) (e : ∀ r j, r < i → j < n → f r j = f' r j) : TabAt w base v B C i n f' :=
  ⟨h.own, fun r hr => ⟨(h.row r hr).1, (h.row r hr).2.congr fun j hj => by rw [e r j hr hj]⟩, h.inj⟩
/-- Where it lies, and what its cells are. -/
theorem TabAt.cells (h1 : 1 ≤ i) (h : TabAt w base v B C i n f) : ∃ g c, v = .slice (some ⟨g, 0, none⟩) i c ∧ base ≤ g ∧ g < w.heap.size ∧ (∀ r, r < i → w.cell? ⟨g, r, none⟩ = some (.slice (some ⟨B r, 0, none⟩) n (C r))) ∧ ∀ r, r < i → g ≠ B r := by
  obtain ⟨g, c, rfl, hgb, hgl, hcell⟩ := ownsRow_cell h1 h.own
  refine ⟨g, c, rfl, hgb, hgl, hcell, fun r hr e => ?_⟩
  rcases h.own.2 with ⟨hv, _⟩ | ⟨g', cap, cur, hv, hb, hg, _⟩
  · cases hv
  · have e' : g = g' := by
      simp only [Value.slice.injEq, Option.some.injEq, Addr.mk.injEq] at hv
      exact hv.1.1
    subst e'
    obtain ⟨cs, hcs, _⟩ := (h.row r hr).2
    rw [← e, hg] at hcs
    simp at hcs
/-- A store into a row. -/
theorem TabAt.set (h : TabAt w base v B C i n f) {r : Nat} (hr : r < i) (k : Nat) (x : Int) : TabAt (w.setCell ⟨B r, k, none⟩ (.int .i64 x)) base v B C i n (fun p q => if p = r ∧ q = k then x else f p q) := by
  obtain ⟨g, c, hv, _, _, _, hne⟩ := h.cells (show 1 ≤ i by omega)
  refine ⟨⟨h.own.1, ?_⟩, fun s hs => ⟨(h.row s hs).1, ?_⟩, h.inj⟩
  · rcases h.own.2 with h' | ⟨g', cap, cur, hv', hb, hg, hrest⟩
    · exact .inl h'
    · have e' : g = g' := by
        rw [hv] at hv'
        simp only [Value.slice.injEq, Option.some.injEq, Addr.mk.injEq] at hv'
        exact hv'.1.1
      subst e'
      exact .inr ⟨g, cap, cur, hv', hb, (Below.heap_setCell w ⟨B r, k, none⟩ _ g (hne r hr)).trans hg, hrest⟩
  · by_cases e : s = r
    · subst e
      refine ((h.row s hs).2.set k (.int .i64 x)).congr fun j hj => ?_
      unfold upd
      by_cases ej : j = k
      · subst ej; simp
      · rw [if_neg ej, if_neg (by omega)]
    · refine ((h.row s hs).2.setOther (a := ⟨B r, k, none⟩) (fun e' => e (h.inj s r hs hr e')) _).congr fun j hj => ?_
      rw [if_neg (by omega)]
end

set_option maxRecDepth 100000 in
set_option maxHeartbeats 1000000 in
theorem clone_ints (A : Option Addr) (n c : Nat) (f : Nat → Int) (w : World) (hA : Vec w A n f) (h1 : 1 ≤ n) (hn : n ≤ 1000000000000) :
    Calls Tryd.prog 48 #[.slice A n c] w fun e w' => ∃ g cap, e = .returned (.slice (some ⟨g, 0, none⟩) n cap) ∧ w.heap.size ≤ g ∧ RowP w' g 3 n (fun i => .int .i64 (f i)) ∧ Below w.heap.size w w' := by
  obtain ⟨ad, rfl, hal, -⟩ := hA 0 (by omega)
  have HA := Lib.hid hA
  have HW := Lib.hid (Vec.news (hA.keep ((Below.refl _ _).alloc (Nat.le_refl _) (.cells #[] 3))))
  clear hA
  obtain ⟨i0, hi0, hz0, hz1, hz2⟩ := info_parts infoIntV
  have HI := Lib.hid hi0
  have HZ := Lib.hid hz0
  have HZ1 := Lib.hid hz1
  have HZ2 := Lib.hid hz2
  clear hi0 hz0 hz1 hz2
  have HO : Hid ((w.alloc (.cells #[] 3)).ownsRow w.heap.size 3 1 (.slice (some ⟨w.heap.size, 0, none⟩) 0 0) 0 []) :=
    ⟨rfl, .inr ⟨w.heap.size, 0, #[], rfl, Nat.le_refl _, heap_alloc_new w _, Nat.le_refl _, Nat.zero_le _, rfl, rfl⟩⟩
  have hnil : ∀ w', (binOp .eql 24 (.slice (some ad) n c) (.slice none 0 0)).run Tryd.prog w' = .ok (.bool false) w' := fun w' => Lib.run_eql_slice_nil w' 24 3 (some ad) n c 0 0 Tryd.underlying24
  go_enter Tryd.func48, Tryd.ntmps48
  go_wp2_with (at_builtin; refine wpList_append_lies _ rfl (.tmp 5) (.tmp 6) 24 rfl w.heap.size 3 i0 _ 1 8 Tryd.underlying24 HI.out HZ.out HZ1.out HZ2.out rfl (by decide) _ 0 [] rfl HO.out ad n c ((List.range n).map fun j => Value.int .i64 (f j)) rfl (by simp) HW.out (by simp [Value.oneCell']) (by omega) (by unfold maxLen; omega) (by omega) (by simp) _ rfl ?_)
  intro g cap w1 hown hgr hgo hlt
  have hown' : w1.ownsRow w.heap.size 3 1 (.slice (some ⟨g, 0, none⟩) n cap) n ((List.range n).map fun j => Value.int .i64 (f j)) := by simpa using hown
  have HR := Lib.hid (RowP.of_own hown')
  have HG : Hid (w.heap.size ≤ g) := by
    rcases hown'.2 with ⟨hv, _⟩ | ⟨g', cap', cur, hv, hb, _⟩
    · cases hv
    · have e : g = g' := by
        simp only [Value.slice.injEq, Option.some.injEq, Addr.mk.injEq] at hv
        exact hv.1.1
      rw [e]; exact hb
  have HB : Hid (Below w.heap.size w w1) := (Below.alloc (Below.refl _ _) (Nat.le_refl _) _).grown hgr (by simp) (fun k hk => by
    have : k = w.heap.size := by simpa [Value.ownBlock] using hk.symm
    omega)
  clear hown hown' hgr hgo
  go_wp2_with fail
  go_ret
  exact ⟨g, cap, rfl, HG.out, HR.out, HB.out⟩

end Go.Proofs.YtminfghiejgieaaDoor
