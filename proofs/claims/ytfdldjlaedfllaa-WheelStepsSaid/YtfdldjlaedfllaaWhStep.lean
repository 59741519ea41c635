/- WheelSteps: what is due by a tick is what is due by two, one after the other: the plain law. -/
import Derived.Test.YtfdldjlaedfllaaWhUse
namespace Go.Proofs.Ytfdldjlaedfllaa
open Go.RowKit Go.Maps
set_option linter.unusedVariables false

theorem afterD_eq (due : Nat → Int) (y : Int) (i : Nat) : afterD due y i = if 0 < due i ∧ due i ≤ y then 0 else due i := by
  unfold afterD isDue
  simp

theorem afterD_afterD {due : Nat → Int} {a b : Int} (h : a ≤ b) : afterD (afterD due a) b = afterD due b := by
  funext i
  rw [afterD_eq, afterD_eq, afterD_eq]
  by_cases h1 : 0 < due i ∧ due i ≤ a
  · rw [if_pos h1, if_neg (by omega), if_pos (by omega)]
  · rw [if_neg h1]

theorem dueL_steps {due : Nat → Int} {a b : Int} (h : a ≤ b) : dueL due a ++ dueL (afterD due a) b = dueL due b := by
  have hm : ∀ i, i ∈ dueL (afterD due a) b ↔ i < 64 ∧ a < due i ∧ 0 < due i ∧ due i ≤ b := fun i => by
    rw [dueL_mem]
    unfold afterD isDue
    by_cases h1 : 0 < due i ∧ due i ≤ a
    · rw [if_pos (by simpa using h1)]
      omega
    · rw [if_neg (by simpa using h1)]
      omega
  have he : ∀ i, i ∈ dueL (afterD due a) b → afterD due a i = due i := fun i hi => by
    have := (hm i).1 hi
    unfold afterD isDue
    rw [if_neg (by simp; omega)]
  refine dueL_only (perm_of_mem (List.nodup_append.2 ⟨dueL_nodup _ _, dueL_nodup _ _, fun i hi j hj e => ?_⟩) fun i => ?_) (List.pairwise_append.2 ⟨dueL_sorted _ _, (dueL_sorted _ _).imp_of_mem fun {i j} hi hj hs => ?_, fun i hi j hj => ?_⟩)
  · subst e
    have h1 := dueL_mem.1 hi
    have h2 := (hm i).1 hj
    omega
  · rw [List.mem_append, dueL_mem, hm]
    omega
  · unfold bef at *
    rw [he i hi, he j hj] at hs
    exact hs
  · have h1 := dueL_mem.1 hi
    have h2 := (hm j).1 hj
    unfold bef
    exact decide_eq_false (by omega)

theorem nth_append (l m : List Nat) (k : Nat) : (nth (l ++ m) k : Int) = catF l.length (fun j => (nth l j : Int)) (fun j => (nth m j : Int)) k := by
  unfold catF nth
  rw [List.getD_eq_getElem?_getD]
  split
  · rename_i h
    rw [List.getElem?_append_left h]
    show _ = ((l.getD k 0 : Nat) : Int)
    rw [List.getD_eq_getElem?_getD]
  · rename_i h
    rw [List.getElem?_append_right (by omega)]
    show _ = ((m.getD (k - l.length) 0 : Nat) : Int)
    rw [List.getD_eq_getElem?_getD]

theorem wtick_any (w : World) (F : Nat → Prop) (p N : Nat) (now : Int) (due : Nat → Int) (h : Wh w F p N now due) (hT : Tm now due) (y : Int) :
    Calls Try.prog 10 #[.pointer (some ⟨p, 0, none⟩), .int .i64 y] w fun e w' => ∃ A n c r, e = .returned (.tuple #[.slice A n c, r]) ∧ (r = .nilIface ∨ r = errNo 1) ∧ Fr F w w' := by
  by_cases hy : now ≤ y ∧ y ≤ 1099511627776
  · refine (wtick_ok w F p N now due h hT y hy.1 hy.2).mono ?_
    rintro e w' ⟨A, c, rfl, -, -, hf⟩
    exact ⟨A, _, c, _, rfl, .inl rfl, hf⟩
  · refine (wtick_bad w F p N now due h y (by omega)).mono ?_
    rintro e w' ⟨rfl, rfl⟩
    exact ⟨none, 0, 0, _, rfl, .inr rfl, Fr.refl _ _⟩

end Go.Proofs.Ytfdldjlaedfllaa
