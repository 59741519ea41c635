/- A region that draws its order, whose last operation waits for all others and may write what the others read: what the others keep is asked of them alone. -/
import Derived.Test.YtminfghiejgieaaDoorTail
import Derived.Deep.RegionHeld3
namespace Go.Proofs.YtminfghiejgieaaDoor
open Go.RowKit
set_option linter.unusedVariables false

section
variable {P : Program} {ops : Array Oper} {Q : Exit → Act → World → Prop} {md : Region.Mode} {S : World → Prop} {l : Nat}

/-- Whatever order is picked: behind each operation but number l the condition S holds. -/
def wpTail (P : Program) (md : Region.Mode) (ops : Array Oper) (Q : Exit → Act → World → Prop) (S : World → Prop) (l : Nat) : Nat → Array Bool → Act → World → Prop
  | 0, listed, a, w => Region.ready md ops listed = [] ∧ Q .normal a w
  | n + 1, listed, a, w => (Region.ready md ops listed = [] → Q .normal a w) ∧
    ∀ i ∈ Region.ready md ops listed, wpOp P ops Q i (fun a' w' => (i = l ∨ S w') ∧ wpTail P md ops Q S l n (listed.setIfInBounds i true) a' w') a w

theorem wpAny_of_tail : ∀ (n : Nat) (listed : Array Bool) (a : Act) (w : World), wpTail P md ops Q S l n listed a w → wpAny P md ops Q n listed a w
  | 0, _, _, _, h => h
  | n + 1, _, _, _, h => ⟨h.1, fun i hi => wpOp_mono (fun a' w' h' => wpAny_of_tail n _ a' w' h'.2) (h.2 i hi)⟩

theorem wpTail_first {i : Nat} {oi : Oper} {v : Value} (hi : ops[i]? = some oi) (hsel : ∀ (j : Nat) (o : Oper) cs b, ops[j]? = some o → o.op ≠ .select cs b)
    (hl : Region.waitsFor md ops l i = true) (hQ : ∀ c a w, Q (.panic c) (a.put oi.dst v) w → Q (.panic c) a w) (n : Nat) :
    ∀ (listed : Array Bool) (a : Act) (w : World),
      (∀ j oj, ops[j]? = some oj → j ≠ i → listed.getD j true = false → (∀ e ∈ oj.after, Region.binds md e = true → e.on ≠ i) → oi.apart ops oj = true) →
      i ∈ Region.ready md ops listed → YieldsIf P ops S oi v a → S w →
      wpTail P md ops Q S l n (listed.setIfInBounds i true) (a.put oi.dst v) w → wpTail P md ops Q S l (n + 1) listed a w := by
  induction n with
  | zero =>
    intro listed a w _ hr hy hS H
    refine ⟨fun h => absurd hr (by rw [h]; simp), fun j hj => ?_⟩
    by_cases e : j = i
    · subst e
      exact hy.wpOp hi hS ⟨.inr hS, H⟩
    · have h1 := ready_mono hj e
      rw [H.1] at h1
      cases h1
  | succ n ih =>
    intro listed a w hfree hr hy hS H
    refine ⟨fun h => absurd hr (by rw [h]; simp), fun j hj => ?_⟩
    by_cases e : j = i
    · subst e
      exact hy.wpOp hi hS ⟨.inr hS, H⟩
    · obtain ⟨hun, oj, hoj, hall⟩ := mem_ready.1 hj
      have hiun := (mem_ready.1 hr).1
      have hi0 : listed.getD i false = false := by
        rcases Nat.lt_or_ge i listed.size with h' | h'
        · simpa [h'] using hiun
        · simp [Array.getElem?_eq_none h']
      have hnot : ∀ x ∈ oj.after, Region.binds md x = true → x.on ≠ i := fun x hx hb heq => by
        have := hall x hx hb
        rw [heq, hi0] at this
        cases this
      have hjl : j ≠ l := by
        rintro rfl
        obtain ⟨ol, hol, x, hx, hb, hon⟩ := Region.waitsFor_spec hl
        have : ol = oj := Option.some.inj (hol.symm.trans hoj)
        subst this
        exact hnot x hx hb hon
      have h1 := wpOp_putIf hoj (hfree j oj hoj e hun hnot) (fun cs b => hsel i oi cs b hi) (fun cs b => hsel j oj cs b hoj) hQ hy (H.2 j (ready_mono hj e))
      have hfree' : ∀ k ok, ops[k]? = some ok → k ≠ i → (listed.setIfInBounds j true).getD k true = false → (∀ x ∈ ok.after, Region.binds md x = true → x.on ≠ i) → oi.apart ops ok = true := fun k ok hk hki hku hkn => by
        refine hfree k ok hk hki ?_ hkn
        by_cases ejk : j = k
        · subst ejk; exact hun
        · rwa [getD_set_ne true ejk] at hku
      refine wpOp_mono (fun a' w' h2 => ?_) h1
      obtain ⟨h3, h4, h5⟩ := h2
      have hS' : S w' := h4.resolve_left hjl
      refine ⟨h4, ih (listed.setIfInBounds j true) a' w' hfree' (ready_mono hr (Ne.symm e)) h3 hS' ?_⟩
      rw [Array.setIfInBounds_comm _ _ e]
      exact h5

/-- Operation i comes first. -/
theorem wpTail_take {i : Nat} {oi : Oper} {v : Value} {n : Nat} {listed : Array Bool} {a : Act} {w : World} (hi : ops[i]? = some oi) (hl : Region.waitsFor md ops l i = true)
    (hs : Region.noSelect ops = true) (hf : Region.free md ops listed i = true) (hr : (Region.ready md ops listed).contains i = true)
    (hQ : ∀ c a w, Q (.panic c) (a.put oi.dst v) w → Q (.panic c) a w) (hS : S w) (hy : ∀ w', S w' → (execOp a.eval oi).run P w' = .ok (.value v) w') (hw : Region.wanted oi (yielded ops a.tmps) = true)
    (h : wpTail P md ops Q S l n (listed.setIfInBounds i true) (a.put oi.dst v) w) : wpTail P md ops Q S l (n + 1) listed a w :=
  wpTail_first hi (Region.noSelect_spec hs) hl hQ n listed a w (Region.free_spec hi hf) (by simpa using hr) (.inl ⟨hw, hy⟩) hS h

/-- No other can come but operation i; S behind it. -/
theorem wpTail_step {i : Nat} {oi : Oper} {n : Nat} {listed : Array Bool} {a : Act} {w : World} (hi : ops[i]? = some oi) (hr : Region.ready md ops listed = [i])
    (h : ∀ K : Act → World → Prop, Shut (∀ a' w', S w' → wpTail P md ops Q S l n (listed.setIfInBounds i true) a' w' → K a' w') → if Region.wanted oi (yielded ops a.tmps) = true then Oper.wp P oi a w K Q else K (a.put oi.dst undef) w) : wpTail P md ops Q S l (n + 1) listed a w :=
  ⟨fun e => (by rw [hr] at e; cases e), fun j hj => by
    rw [hr] at hj
    obtain rfl := List.mem_singleton.1 hj
    exact wpOp_step hi fun K hK => h K fun a' w' hS hW => hK a' w' ⟨.inr hS, hW⟩⟩

/-- The last one. -/
theorem wpTail_last {oi : Oper} {n : Nat} {listed : Array Bool} {a : Act} {w : World} (hi : ops[l]? = some oi) (hr : Region.ready md ops listed = [l]) (hr' : Region.ready md ops (listed.setIfInBounds l true) = [])
    (h : ∀ K : Act → World → Prop, Shut (∀ a' w', Q .normal a' w' → K a' w') → if Region.wanted oi (yielded ops a.tmps) = true then Oper.wp P oi a w K Q else K (a.put oi.dst undef) w) : wpTail P md ops Q S l (n + 1) listed a w :=
  ⟨fun e => (by rw [hr] at e; cases e), fun j hj => by
    rw [hr] at hj
    obtain rfl := List.mem_singleton.1 hj
    refine wpOp_step hi fun K hK => h K fun a' w' hq => hK a' w' ⟨.inl rfl, ?_⟩
    cases n with
    | zero => exact ⟨hr', hq⟩
    | succ n => exact ⟨fun _ => hq, by rw [hr']; simp⟩⟩

/-- The beginning. -/
theorem wp_region_tail {id : Nat} {a : Act} {w : World} (S : World → Prop) (l : Nat) (hm : P.follows .mixedOrders = true)
    (h : wpTail P .any ops Q S l ops.size (Array.replicate ops.size false) a w.drew) : (Code.region id ops true).wp P Q a w :=
  wp_region_any hm (wpAny_of_tail _ _ _ _ h)
end

end Go.Proofs.YtminfghiejgieaaDoor
