/- What waits on a way: one more is appended; what is first is cut off. -/
import Derived.Test.YtlemmphnmklbeaaLfiMem
import Derived.Deep.Upon
namespace Go.Proofs.Ytlemmphnmklbeaa
open Go.RowKit
set_option linter.unusedVariables false

theorem news_src {w : World} {ad : Addr} {z : Int} (hz : w.cell? ad = some (.int .i64 z)) : Src Try.prog 1 23 (.slice (some ad) 1 1) 1 [.int .i64 z] w :=
  Src.ofSlice w Try.underlying23 ad 1 1 _ rfl (fun j u hu => by
    cases j with
    | zero =>
      show w.cell? ad = some u
      simpa [hz] using hu
    | succ j => simp at hu) (by simp [Value.oneCell'])

section
variable {w : World} {lab : Nat → List Nat} {a b : Nat} {l : List Int} {Aq : Option Addr} {L cq : Nat} {z : Int} {ad : Addr}

/-- One more. -/
theorem append_que (hq : QueL w lab a b (.slice Aq L cq) l) (hL : l.length = L) (hl : ∀ g, lab g = [8, a, b] → g < w.heap.size) (hz : w.cell? ad = some (.int .i64 z)) (h20 : L ≤ 1000) :
    ∃ g o cap w', (Builtin.append_ #[23, 23] 23 #[.slice Aq L cq, .slice (some ad) 1 1]).run Try.prog w = .ok (.slice (some ⟨g, o, none⟩) (L + 1) cap) w' ∧
      (∀ lab', lab' g = [8, a, b] → QueL w' lab' a b (.slice (some ⟨g, o, none⟩) (L + 1) cap) (l ++ [z])) ∧ Touch (fun k => lab k = [8, a, b]) w w' ∧ (lab g = [8, a, b] ∨ w.heap.size ≤ g) ∧ g < w'.heap.size := by
  obtain ⟨i0, hi0, hz0, hz1, hz2⟩ := info_parts infoIntV
  have hlen : (l ++ [z]).length = L + 1 := by simp [hL]
  have hnew : ∀ (w1 : World) (olds : List Value), olds = l.map (fun v => Value.int .i64 v) → (Builtin.firstCells i0.size L (.slice Aq L cq)).run Try.prog w.drew = .ok olds.toArray w.drew → cq < L + 1 →
      ∃ g o cap w', (Builtin.append_ #[23, 23] 23 #[.slice Aq L cq, .slice (some ad) 1 1]).run Try.prog w = .ok (.slice (some ⟨g, o, none⟩) (L + 1) cap) w' ∧
      (∀ lab', lab' g = [8, a, b] → QueL w' lab' a b (.slice (some ⟨g, o, none⟩) (L + 1) cap) (l ++ [z])) ∧ Touch (fun k => lab k = [8, a, b]) w w' ∧ (lab g = [8, a, b] ∨ w.heap.size ≤ g) ∧ g < w'.heap.size := by
    intro w1 olds ho hold hroom
    have hrun := run_append_grow_src (P := Try.prog) w 23 23 23 3 i0 (.int .i64 0) Try.underlying23 hi0 hz0 Aq L cq olds hold (.slice (some ad) 1 1) 1 [.int .i64 z] (by rw [hz1]; exact news_src hz) hroom (by omega) (growslice_fits hroom (by rw [hz2]; omega))
    have hge := grownCap_ge w (L + 1) cq 3
    refine ⟨_, _, _, _, hrun, fun lab' hlab => .inr ⟨w.heap.size, 0, _, by rw [hlen], hlab, by rw [hlen]; exact hge, fun j hj => ?_, fun j hj => ?_⟩, ⟨rfl, rfl, rfl, by show w.heap.size ≤ (w.heap.push _).size; simp, fun k hk _ => Below.heap_alloc w.drew _ k hk⟩, .inr (Nat.le_refl _), by show w.heap.size < (w.heap.push _).size; simp⟩
    · rw [Nat.zero_add]
      refine (World.cell?_alloc_new w.drew _ _ j).trans ?_
      rw [hlen] at hj
      rw [Array.getElem?_append_left (by simp [ho, hL]; omega), List.getElem?_toArray, ho]
      by_cases e : j < L
      · rw [List.getElem?_append_left (by simp [hL]; exact e), List.getElem?_map, List.getD_eq_getElem?_getD, List.getElem?_append_left (by omega), List.getElem?_eq_getElem (by omega)]
        rfl
      · have : j = l.length := by omega
        subst this
        simp
    · rw [Nat.zero_add]
      refine ⟨?_, World.frozen?_alloc_new w.drew _ _ j⟩
      rw [show (w.drew.alloc (.cells ((olds ++ [Value.int .i64 z]).toArray ++ Builtin.zeroCells (Value.int .i64 0).cells (grownCap w (L + 1) cq 3 - (L + 1))) 3)).cell? ⟨w.heap.size, j, none⟩ = _ from World.cell?_alloc_new w.drew _ _ j]
      rw [Array.getElem?_eq_getElem (by
        have hzc : ∀ n, (Builtin.zeroCells (Value.int .i64 0).cells n).size = n := fun n => by simp [Builtin.zeroCells, Value.cells]
        rw [Array.size_append, hzc]
        simp [ho, hL]
        omega)]
      rfl
  rcases hq with ⟨rfl, hv⟩ | ⟨g, o, cap, hv, hlg, hle, hc, hs⟩
  · obtain ⟨rfl, rfl, rfl⟩ : Aq = none ∧ L = 0 ∧ cq = 0 := by simpa using hv
    exact hnew w [] rfl (by rw [hz1]; exact (Src.ofNil (P := Try.prog) (size := 1) w Try.underlying23 0).cellsD) (by omega)
  · obtain ⟨rfl, -, rfl⟩ : Aq = some ⟨g, o, none⟩ ∧ L = l.length ∧ cq = cap := by simpa using hv
    by_cases hroom : L + 1 ≤ cq
    · have hcl := hs L (by omega)
      have hrun := run_append_room_src (P := Try.prog) w 23 23 23 3 i0 Try.underlying23 hi0 g o L cq (.slice (some ad) 1 1) 1 [.int .i64 z] (by rw [hz1]; exact news_src hz) hroom (fun j hj => by
        have : j = 0 := by simpa using hj
        subst this
        rw [hz1, Nat.mul_one]
        exact hcl.1) (fun j hj => by
        have : j = 0 := by simpa using hj
        subst this
        rw [hz1, Nat.mul_one]
        exact hcl.2)
      rw [hz1, Nat.mul_one] at hrun
      have hcell : ∀ j, (w.setCell ⟨g, o + L, none⟩ (.int .i64 z)).cell? ⟨g, o + j, none⟩ = if j = L then some (.int .i64 z) else w.cell? ⟨g, o + j, none⟩ := fun j => by
        by_cases e : j = L
        · subst e
          rw [if_pos rfl]
          exact World.cell?_setCell_same' _ _ _ hcl.1
        · rw [if_neg e]
          exact World.cell?_setCell_other _ _ _ _ (fun e' => e (by have : o + L = o + j := congrArg Addr.off e'; omega))
      refine ⟨g, o, cq, _, hrun, fun lab' hlab => .inr ⟨g, o, cq, by rw [hlen], hlab, by omega, fun j hj => ?_, fun j hj => ?_⟩, Touch.setCell (Touch.refl _ _) (.inl hlg) _, .inl hlg, by
        show g < (w.setCell _ _).heap.size
        rw [size_setCell]; exact hl g hlg⟩
      · show (w.setCell ⟨g, o + L, none⟩ (.int .i64 z)).cell? ⟨g, o + j, none⟩ = _
        rw [hcell]
        rw [hlen] at hj
        by_cases e : j = L
        · rw [if_pos e, e, ← hL]; simp
        · rw [if_neg e, hc j (by omega), List.getD_eq_getElem?_getD, List.getD_eq_getElem?_getD, List.getElem?_append_left (by omega)]
      · show ((w.setCell ⟨g, o + L, none⟩ (.int .i64 z)).cell? ⟨g, o + j, none⟩).isSome = true ∧ (w.setCell ⟨g, o + L, none⟩ (.int .i64 z)).frozen? ⟨g, o + j, none⟩ = false
        rw [hcell, World.frozen?_setCell]
        refine ⟨?_, (hs j hj).2⟩
        by_cases e : j = L
        · rw [if_pos e]; rfl
        · rw [if_neg e]; exact (hs j hj).1
    · refine hnew w _ rfl ?_ (by omega)
      rw [hz1]
      refine (Src.ofSlice (P := Try.prog) (size := 1) w Try.underlying23 ⟨g, o, none⟩ L cq (l.map fun v => Value.int .i64 v) (by simp [hL]) (fun j u hu => ?_) (by simp [Value.oneCell'])).cellsD
      rw [List.getElem?_map] at hu
      have hj : j < l.length := by
        rcases Nat.lt_or_ge j l.length with h | h
        · exact h
        · rw [List.getElem?_eq_none h] at hu; cases hu
      rw [Addr.add_lit]
      refine (hc j hj).trans ?_
      rw [List.getD_eq_getElem?_getD, List.getElem?_eq_getElem hj]
      rw [List.getElem?_eq_getElem hj] at hu
      simpa using hu

/-- The same at a step of a region that draws its order. -/
theorem step_append_que {ops : Array Oper} {oo : Oper} {ac : Act} {K : Act → World → Prop} {Q : Exit → Act → World → Prop} {E : Prop} (hgd : oo.guard = none) (s x : Operand)
    (ho : oo.op = .call { callee := .builtin .append, args := #[s, x], argTypes := #[23, 23] }) (hty : oo.type = 23)
    (hs : ac.eval s = .slice Aq L cq) (hx : ac.eval x = .slice (some ad) 1 1)
    (hq : QueL w lab a b (.slice Aq L cq) l) (hL : l.length = L) (hl : ∀ g, lab g = [8, a, b] → g < w.heap.size) (hz : w.cell? ad = some (.int .i64 z)) (h20 : L ≤ 1000)
    (h : ∀ g o cap w', (∀ lab', lab' g = [8, a, b] → QueL w' lab' a b (.slice (some ⟨g, o, none⟩) (L + 1) cap) (l ++ [z])) → Touch (fun k => lab k = [8, a, b]) w w' → (lab g = [8, a, b] ∨ w.heap.size ≤ g) → g < w'.heap.size → K (ac.put oo.dst (.slice (some ⟨g, o, none⟩) (L + 1) cap)) w') :
    if Region.wanted oo (yielded ops ac.tmps) = true then Oper.wp Try.prog oo ac w K Q else E := by
  have hw : Region.wanted oo (yielded ops ac.tmps) = true := by simp [Region.wanted, hgd]
  rw [if_pos hw]
  obtain ⟨g, o, cap, w', hr, h1, h2, h3, h4⟩ := append_que hq hL hl hz h20
  unfold Oper.wp execOp
  simp only [ho, hty, resolve, invoke, builtin, Sem.run_bind, Sem.run_pure, Result.andThen_ok, List.map_toArray, List.map_cons, List.map_nil, hs, hx, hr]
  exact h g o cap w' h1 h2 h3 h4

/-- What is first is cut off. -/
theorem QueL.tail {g o L cap : Nat} {d : Int} {l : List Int} (hq : QueL w lab a b (.slice (some ⟨g, o, none⟩) (L + 1) cap) (d :: l)) (hL : l.length = L) :
    w.cell? ⟨g, o, none⟩ = some (.int .i64 d) ∧ 1 ≤ cap ∧ L + 1 ≤ cap ∧ QueL w lab a b (.slice (some ⟨g, o + 1, none⟩) L (cap - 1)) l ∧ (cap = 1 → QueL w lab a b (.slice (some ⟨g, o, none⟩) L (cap - 1)) l) := by
  rcases hq with ⟨h, _⟩ | ⟨g', o', cap', hv, hlg, hle, hc, hs⟩
  · cases h
  · obtain ⟨⟨rfl, rfl⟩, -, rfl⟩ : (g = g' ∧ o = o') ∧ L + 1 = (d :: l).length ∧ cap = cap' := by simpa using hv
    have hle' : L + 1 ≤ cap := by simpa [hL] using hle
    refine ⟨by simpa using hc 0 (by simp), by omega, hle', .inr ⟨g, o + 1, cap - 1, by rw [hL], hlg, by omega, fun j hj => ?_, fun j hj => ?_⟩, fun e => .inr ⟨g, o, cap - 1, by rw [hL], hlg, by omega, fun j hj => by omega, fun j hj => by omega⟩⟩
    · have := hc (j + 1) (by simp; omega)
      rw [show o + 1 + j = o + (j + 1) by omega, this]
      simp
    · have := hs (j + 1) (by omega)
      rw [show o + 1 + j = o + (j + 1) by omega]
      exact this
end

end Go.Proofs.Ytlemmphnmklbeaa
