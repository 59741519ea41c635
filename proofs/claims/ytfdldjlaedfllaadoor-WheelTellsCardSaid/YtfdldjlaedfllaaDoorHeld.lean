/- A region that draws, whose condition every operation keeps; a call by its contract at a frame that is not written out. -/
import Derived.Test.YtfdldjlaedfllaaDoorTail
import Derived.Deep.RegionHeld3
namespace Go.Proofs.YtfdldjlaedfllaaDoor
open Go.RowKit
set_option linter.unusedVariables false

section
variable {P : Program} {md : Region.Mode} {ops : Array Oper} {Q : Exit → Act → World → Prop} {S : World → Prop} {i : Nat} {oi : Oper} {n : Nat} {listed : Array Bool} {a : Act} {w : World}
theorem heldStep (hi : ops[i]? = some oi) (hr : Region.ready md ops listed = [i])
    (h : ∀ K : Act → World → Prop, Shut (∀ a' w', S w' → wpAnyH P md ops Q S n (listed.setIfInBounds i true) a' w' → K a' w') → if Region.wanted oi (yielded ops a.tmps) = true then Oper.wp P oi a w K Q else K (a.put oi.dst undef) w) : wpAnyH P md ops Q S (n + 1) listed a w :=
  ⟨fun e => (by rw [hr] at e; cases e), fun j hj => by
    rw [hr] at hj
    obtain rfl := List.mem_singleton.1 hj
    exact wpOp_step hi fun K hK => h K fun a' w' hS hW => hK a' w' ⟨hS, hW⟩⟩
theorem heldCall (hi : ops[i]? = some oi) (hr : Region.ready md ops listed = [i]) (hw : Region.wanted oi (yielded ops a.tmps) = true)
    (h : ∀ K : Act → World → Prop, Shut (∀ a' w', S w' → wpAnyH P md ops Q S n (listed.setIfInBounds i true) a' w' → K a' w') → Oper.wp P oi a w K Q) : wpAnyH P md ops Q S (n + 1) listed a w :=
  heldStep hi hr fun K hK => by rw [if_pos hw]; exact h K hK
theorem heldLast (hi : ops[i]? = some oi) (hr : Region.ready md ops listed = [i]) (hr' : Region.ready md ops (listed.setIfInBounds i true) = [])
    (h : ∀ K : Act → World → Prop, Shut (∀ a' w', S w' → Q .normal a' w' → K a' w') → if Region.wanted oi (yielded ops a.tmps) = true then Oper.wp P oi a w K Q else K (a.put oi.dst undef) w) : wpAnyH P md ops Q S (n + 1) listed a w :=
  heldStep hi hr fun K hK => h K fun a' w' hS hq => hK a' w' hS (wpAnyH_done hr' hq _)
theorem heldTake {v : Value} (hi : ops[i]? = some oi)
    (hs : Region.noSelect ops = true) (hf : Region.free md ops listed i = true) (hr : (Region.ready md ops listed).contains i = true)
    (hQ : ∀ c a w, Q (.panic c) (a.put oi.dst v) w → Q (.panic c) a w) (hS : S w) (hy : ∀ w', S w' → (execOp a.eval oi).run P w' = .ok (.value v) w') (hw : Region.wanted oi (yielded ops a.tmps) = true)
    (h : wpAnyH P md ops Q S n (listed.setIfInBounds i true) (a.put oi.dst v) w) : wpAnyH P md ops Q S (n + 1) listed a w :=
  wpAnyH_take hi hs hf hr hQ (.inl ⟨hw, hy⟩) hS h
end

theorem enters_go {P : Program} {f : FuncId} {fn : Func} (hf : P.funcs[f]? = some fn) (hname : (fn.name == "runtime.NumGoroutine") = false)
    (hb : fn.body.isNone = false) (args : Array Value) (w : World) : (callFunc f args).run P w = .ok (.enter f args) w := by
  have h1 : fn.name ≠ "runtime.NumGoroutine" := by simpa using hname
  have h2 : fn.body ≠ none := fun h => by rw [h] at hb; cases hb
  simp [callFunc, hf, h1, h2]

theorem heldFn {oo : Oper} {ac : Act} {w : World} {K : Act → World → Prop} {Q : Exit → Act → World → Prop} {fn : FuncId} {F : Func} (xs : Array Operand) {vs : Array Value} {ts : Array TypeId}
    (ho : oo.op = .call { callee := .value (.func fn), args := xs, argTypes := ts }) (hf : Tryd.prog.funcs[fn]? = some F) (hname : (F.name == "runtime.NumGoroutine") = false)
    (hb : F.body.isNone = false) (hx : xs.map ac.eval = vs) (h : Calls Tryd.prog fn vs w fun e w' => ∃ r, e = .returned r ∧ K (ac.put oo.dst r) w') : Oper.wp Tryd.prog oo ac w K Q := by
  have hrun : (execOp ac.eval oo).run Tryd.prog w = .ok (.enter fn vs) w := by
    have hfn : ac.eval (.func fn) = .func (.func fn) #[] #[] := rfl
    unfold execOp
    simp [ho, resolve, invoke, Deferred.ofValue, hfn, hx]
    exact enters_go hf hname hb _ w
  unfold Oper.wp
  rw [hrun, Oper.upon_enter]
  refine h.mono ?_
  rintro e w' ⟨r, rfl, hk⟩
  exact hk

end Go.Proofs.YtfdldjlaedfllaaDoor
