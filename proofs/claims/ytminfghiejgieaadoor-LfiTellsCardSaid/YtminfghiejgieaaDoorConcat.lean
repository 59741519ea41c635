/- The walks of slices.Grow (of nothing) and slices.Concat (of a square table). -/
import Derived.Test.YtminfghiejgieaaDoorTouch
import Derived.Maps.AppendAt
import Derived.Lib.AppendZerosOnto
namespace Go.Proofs.YtminfghiejgieaaDoor
open Go.RowKit
set_option linter.unusedVariables false

theorem infoIntC : (Tryd.prog.info? 3).map (fun i => (i.zero, i.size, i.bytes)) = some (some (.int .i64 0), 1, 8) := by kernel_rfl

/-- An append whose run is known. -/
theorem wpList_append_run {P : Program} {w w' : World} {ops : Array Oper} {rest : List Oper} {o : Oper} {a : Act} {Q : Exit → Act → World → Prop} (hgd : o.guard = none) (s x : Operand) (t u : TypeId)
    (ho : o.op = .call { callee := .builtin .append, args := #[s, x], argTypes := #[t, u] }) (v y r : Value) (hs : a.eval s = v) (hx : a.eval x = y)
    (hr : (Builtin.append_ #[t, u] o.type #[v, y]).run P w = .ok r w') (h : wpList P ops Q rest (a.put o.dst r) w') : wpList P ops Q (o :: rest) a w :=
  wpList_plain hgd fun K hK => by
    unfold Oper.wp execOp
    simp only [ho, resolve, invoke, builtin, Sem.run_bind, Sem.run_pure, Result.andThen_ok, List.map_toArray, List.map_cons, List.map_nil, hs, hx, hr]
    exact hK _ _ h

theorem map_range_add {α : Type} (a b : Nat) (F : Nat → α) : (List.range a).map F ++ (List.range b).map (fun j => F (a + j)) = (List.range (a + b)).map F := by
  rw [List.range_add, List.map_append, List.map_map]
  rfl

/-- A row's numbers, as the append wants them. -/
theorem Vec.news {w : World} {ad : Addr} {n : Nat} {f : Nat → Int} (h : Vec w (some ad) n f) : ∀ j u, ((List.range n).map fun j => Value.int .i64 (f j))[j]? = some u → w.cell? (ad.add j) = some u := by
  intro j u hu
  have hj : j < n := by
    have := (List.getElem?_eq_some_iff.1 hu).1
    simpa using this
  obtain ⟨ad', e, _, hc⟩ := h j hj
  injection e with e
  subst e
  rw [hc]
  simpa [hj] using hu

theorem row_lit {n r : Nat} (h1 : 1 ≤ n) (f : Nat → Nat → Int) : (List.range n).map (fun j => Value.int .i64 (f r j)) = (List.range n).map (fun j => (fun q => Value.int .i64 (f (q / n) (q % n))) (r * n + j)) := by
  apply List.map_congr_left
  intro j hj
  have hj' := List.mem_range.1 hj
  have e1 : (r * n + j) / n = r := by
    rw [Nat.mul_comm, Nat.mul_add_div (by omega), Nat.div_eq_of_lt hj', Nat.add_zero]
  have e2 : (r * n + j) % n = j := by rw [Nat.mul_comm, Nat.mul_add_mod, Nat.mod_eq_of_lt hj']
  show Value.int .i64 (f r j) = Value.int .i64 (f ((r * n + j) / n) ((r * n + j) % n))
  rw [e1, e2]

end Go.Proofs.YtminfghiejgieaaDoor
