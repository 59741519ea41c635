/- An append of a whole slice, which may be empty, to an own row. -/
import Derived.Test.YtfdldjlaedfllaaOwnL
import Derived.Deep.Upon
namespace Go.Proofs.Ytfdldjlaedfllaa
open Go.RowKit
set_option linter.unusedVariables false

/-- 'append(l, x...)': l an own row, x any slice. -/
theorem wpList_append_any {w : World} {ops : Array Oper} {rest : List Oper} {o : Oper} {a : Act} {Q : Exit → Act → World → Prop} (hgd : o.guard = none) (s x : Operand)
    (ho : o.op = .call { callee := .builtin .append, args := #[s, x], argTypes := #[22, 22] })
    (base : Nat) (v : Value) (n : Nat) (f : Nat → Int) (hs : a.eval s = v) (hT : OwnV w base v n f) (A : Option Addr) (m c : Nat) (g : Nat → Int) (hx : a.eval x = .slice A m c)
    (hV : Vec w A m g) (hn : (n + m) * 8 ≤ 140737488355328) (hbase : base ≤ w.heap.size)
    (h : ∀ B d w', OwnV w' base (.slice B (n + m) d) (n + m) (catF n f g) → Below base w w' → wpList Try.prog ops Q rest (a.put o.dst (.slice B (n + m) d)) w') :
    wpList Try.prog ops Q (o :: rest) a w := by
  rcases Nat.eq_zero_or_pos m with rfl | hm
  · obtain ⟨i0, hi0, hz0, hz1, hz2⟩ := info_parts infoIntV
    obtain ⟨B, d, rfl, -, hnd, -, -⟩ := hT.parts
    have hsrc : Src Try.prog i0.size 22 (.slice A 0 c) 0 [] w := by
      cases A with
      | none => exact Src.ofNil w Try.underlying22 c
      | some ad => exact Src.ofSlice w Try.underlying22 ad 0 c [] (by simp) (fun j u hu => by simp at hu) (by simp)
    have hrun := run_append_nothing (P := Try.prog) w 22 22 o.type 3 i0 Try.underlying22 hi0 B n d hnd (.slice A 0 c) hsrc
    refine wpList_plain hgd fun K hK => ?_
    unfold Oper.wp execOp
    simp only [ho, resolve, invoke, builtin, Sem.run_bind, Sem.run_pure, Result.andThen_ok, List.map_toArray, List.map_cons, List.map_nil, hs, hx, hrun]
    refine hK _ _ (h B d w (hT.congr fun i hi => by simp [catF, hi]) (Below.refl _ _))
  · exact wpList_append_all hgd s x ho base v n f hs hT A m c g hx hm hV hn hbase fun B d w' h1 h2 _ => h B d w' h1 h2

/-- 'append([]int{}, x...)'. -/
theorem wpList_copy_any {w : World} {ops : Array Oper} {rest : List Oper} {o : Oper} {a : Act} {Q : Exit → Act → World → Prop} (hgd : o.guard = none) (s x : Operand)
    (ho : o.op = .call { callee := .builtin .append, args := #[s, x], argTypes := #[22, 22] })
    (base : Nat) (v : Value) (hs : a.eval s = v) (hT : OwnV w base v 0 (fun _ => 0)) (A : Option Addr) (m c : Nat) (g : Nat → Int) (hx : a.eval x = .slice A m c)
    (hV : Vec w A m g) (hn : m * 8 ≤ 140737488355328) (hbase : base ≤ w.heap.size)
    (h : ∀ B d w', OwnV w' base (.slice B m d) m g → Below base w w' → wpList Try.prog ops Q rest (a.put o.dst (.slice B m d)) w') :
    wpList Try.prog ops Q (o :: rest) a w := by
  refine wpList_append_any hgd s x ho base v 0 (fun _ => 0) hs hT A m c g hx hV (by omega) hbase ?_
  rw [Nat.zero_add]
  intro B d w' h1 h2
  exact h B d w' (h1.congr fun i hi => by simp [catF]) h2

end Go.Proofs.Ytfdldjlaedfllaa
