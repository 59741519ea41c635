/- Maps of the wheel: which ids are due at which time; what a map's block reads as. -/
import Derived.Test.YtfdldjlaedfllaaDoorMem
import Derived.Maps.OwnSet
import Derived.Maps.RangeWalk
namespace Go.Proofs.YtfdldjlaedfllaaDoor
open Go.RowKit Go.Maps
set_option linter.unusedVariables false

theorem keyedI : Keyed Tryd.prog 3 := int_keyed Tryd.underlying3
theorem zeroI (w : World) : (zeroValue 3).run Tryd.prog w = .ok (.int .i64 0) w := by kernel_rfl

abbrev MT : Nat := 1099511627776

/-- One id's time is another one (0: none). -/
def setD (m : Nat → Int) (i : Nat) (x : Int) : Nat → Int := fun k => if k = i then x else m k
theorem setD_same (m : Nat → Int) (i : Nat) (x : Int) : setD m i x i = x := by simp [setD]
theorem setD_other {m : Nat → Int} {i k : Nat} (x : Int) (h : k ≠ i) : setD m i x k = m k := by simp [setD, h]

abbrev keyI (i : Nat) : Lit := .int .i64 (i : Int)
theorem keyI_inj {i j : Nat} : keyI i = keyI j ↔ i = j := ⟨fun h => by injection h with _ h; omega, fun h => by rw [h]⟩
theorem isKeyI (i : Nat) : WideAt.IsKeyLit (keyI i) := by simp [WideAt.IsKeyLit]
theorem wf_le {x : Int} (h1 : -9223372036854775808 ≤ x) (h2 : x ≤ 9223372036854775807) : (Lit.int .i64 x).wf = true := WalkArith.wf_i64 (by omega)
theorem keyOfI {i : Nat} (h : i < 64) : keyOf Tryd.prog 3 (.int .i64 (i : Int)) = some (keyI i) := keyOf_int_mk Tryd.underlying3 (wf_le (by omega) (by omega))

/-- A map reads so: its keys are the ids whose time is not 0. -/
structure RD (D : DataW Unit) (m : Nat → Int) : Prop where
  has : ∀ i, i < 64 → (Maps.has D (keyI i) = true ↔ m i ≠ 0)
  at_ : ∀ i, i < 64 → m i ≠ 0 → ∀ z, D.atKey (keyI i) z = .lit (.int .i64 (m i))
  only : ∀ kl, Maps.has D kl = true → ∃ i, i < 64 ∧ kl = keyI i

section
variable {D : DataW Unit} {m m' : Nat → Int}
theorem RD.congr (h : RD D m) (e : ∀ i, i < 64 → m i = m' i) : RD D m' :=
  ⟨fun i hi => by rw [← e i hi]; exact h.has i hi, fun i hi h0 z => by rw [← e i hi] at h0 ⊢; exact h.at_ i hi h0 z, h.only⟩
theorem RD.none : RD (.map []) (fun _ => 0) := ⟨fun i _ => by simp [Maps.has], fun i _ h => absurd rfl h, fun kl h => by simp [Maps.has] at h⟩
theorem RD.put (h : RD D m) (hD : IsMap D) {i : Nat} (hi : i < 64) {x : Int} (hx : x ≠ 0) : RD (D.put (keyI i) (.lit (.int .i64 x))) (setD m i x) where
  has k hk := by
    by_cases e : k = i
    · subst e; rw [setD_same]; exact ⟨fun _ => hx, fun _ => has_put_same hD (isKeyI k) _⟩
    · rw [setD_other x e, has_put_other (fun e' => e (keyI_inj.1 e'))]; exact h.has k hk
  at_ k hk h0 z := by
    by_cases e : k = i
    · subst e; rw [setD_same]; exact atKey_put_same hD (isKeyI k) _ _
    · rw [setD_other x e] at h0 ⊢; rw [atKey_put_other (fun e' => e (keyI_inj.1 e'))]; exact h.at_ k hk h0 z
  only kl hk := by
    by_cases e : kl = keyI i
    · exact ⟨i, hi, e⟩
    · rw [has_put_other e] at hk; exact h.only kl hk
theorem RD.del (h : RD D m) (i : Nat) : RD (D.del (keyI i)) (setD m i 0) where
  has k hk := by
    by_cases e : k = i
    · subst e; rw [setD_same, has_del_same]; simp
    · rw [setD_other 0 e, has_del_other (fun e' => e (keyI_inj.1 e'))]; exact h.has k hk
  at_ k hk h0 z := by
    by_cases e : k = i
    · subst e; rw [setD_same] at h0; exact absurd rfl h0
    · rw [setD_other 0 e] at h0 ⊢; rw [atKey_del_other (fun e' => e (keyI_inj.1 e'))]; exact h.at_ k hk h0 z
  only kl hk := by
    by_cases e : kl = keyI i
    · subst e; rw [has_del_same] at hk; cases hk
    · rw [has_del_other e] at hk; exact h.only kl hk
end

/-- Block b is a map of at most N entries that reads so. -/
def MapD (w : World) (b N : Nat) (m : Nat → Int) : Prop := ∃ D : DataW Unit, w.ownsMap Tryd.prog 3 (plainElem Tryd.prog 3) b N D ∧ RD D m

section
variable {w w' : World} {b N : Nat} {m m' : Nat → Int}
theorem MapD.lt (h : MapD w b N m) : b < w.heap.size := by obtain ⟨D, h, -⟩ := h; exact h.lt
theorem MapD.same (h : MapD w b N m) (e : w'.heap[b]? = w.heap[b]?) : MapD w' b N m := by
  obtain ⟨D, ⟨es, cl, hb, r⟩, hr⟩ := h
  exact ⟨D, ⟨es, cl, e.trans hb, r⟩, hr⟩
theorem MapD.mono (h : MapD w b N m) {M : Nat} (hM : N ≤ M) : MapD w b M m := by obtain ⟨D, h, hr⟩ := h; exact ⟨D, h.mono hM, hr⟩
theorem MapD.congr (h : MapD w b N m) (e : ∀ i, i < 64 → m i = m' i) : MapD w b N m' := by obtain ⟨D, h, hr⟩ := h; exact ⟨D, h, hr.congr e⟩
theorem MapD.made (w : World) : MapD (w.alloc (.map #[] 0)) w.heap.size 0 (fun _ => 0) := ⟨_, World.ownsMap_made _ _ _ _, RD.none⟩
theorem MapD.isMap (h : MapD w b N m) : ∃ es cl, w.heap[b]? = some (.map es cl) := by obtain ⟨D, ⟨es, cl, hb, r⟩, hr⟩ := h; exact ⟨es, cl, hb⟩
end

end Go.Proofs.YtfdldjlaedfllaaDoor
