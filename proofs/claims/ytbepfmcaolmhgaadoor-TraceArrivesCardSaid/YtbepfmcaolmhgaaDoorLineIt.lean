/- A line's steps, one behind the other: plain laws. -/
import Derived.Test.YtbepfmcaolmhgaaDoorLineMath
namespace Go.Proofs.YtbepfmcaolmhgaaDoor
set_option linter.unusedVariables false

/-- What node i thinks of t behind r steps: how far, and by whom. -/
def lineS (po : Bool) (n : Nat) (K : Nat → Nat → Int) (S0 : Nat → Nat → Int × Int) : Nat → Nat → Nat → Int × Int
  | 0 => S0
  | r + 1 => fun i t => thinkF po n t K (fun k => (lineS po n K S0 r k t).1) (fun k => (lineS po n K S0 r k t).2) i

/-- Each knows itself alone. -/
def startS (i t : Nat) : Int × Int := (startF t i, -1)

section
variable {po : Bool} {n m : Nat} {K : Nat → Nat → Int} {S0 : Nat → Nat → Int × Int} {a b c : Nat → Int}
theorem lineS_step (r t : Nat) : StepR po n t K (fun k => (lineS po n K S0 r k t).1) (fun k => (lineS po n K S0 r k t).2) (fun k => (lineS po n K S0 (r + 1) k t).1) (fun k => (lineS po n K S0 (r + 1) k t).2) := think_step
theorem lineS_ranged (hK : CostM n K) (h0 : ∀ k t, k < n → t < n → 0 ≤ (S0 k t).1 ∧ (S0 k t).1 ≤ 16) : ∀ r k t, k < n → t < n → 0 ≤ (lineS po n K S0 r k t).1 ∧ (lineS po n K S0 r k t).1 ≤ 16
  | 0, k, t, hk, ht => h0 k t hk ht
  | r + 1, k, t, hk, ht => (lineS_step (po := po) (K := K) (S0 := S0) (n := n) r t).ranged hK (fun k hk => lineS_ranged hK h0 r k t hk ht) k hk
theorem startS_ranged : ∀ k t, k < n → t < n → 0 ≤ (startS k t).1 ∧ (startS k t).1 ≤ 16 := fun k t hk ht => startF_ranged t n k hk
theorem line_inv (hr : Right n m a b c) {t : Nat} (ht : t < n) : ∀ r, LineInv n (costF m a b c) (rounds t a b c m (startF t) r) (fun k => (lineS po n (costF m a b c) startS r k t).1) (fun k => (lineS po n (costF m a b c) startS r k t).2)
  | 0 => ⟨fun _ _ => rfl, fun k i _ _ h => by
    have h' : (-1 : Int) = (i : Int) := h
    omega⟩
  | r + 1 => (line_inv hr ht r).step (cost_m hr) ht (rounds_ranged hr (startF_ranged t n) r) (rounds_k hr _ r) (fun i hi => rounds_falls hr r i hi) (fun i hi => (rounds_ranged hr (startF_ranged t n) (r + 1) i hi).1) (lineS_step r t)

/-- Behind as many steps as there are nodes, less one, all is right. -/
theorem line_settled (hr : Right n m a b c) {N : Nat} (hN : n ≤ N + 1) {i k : Nat} (hi : i < n) (hk : k < n) :
    (lineS po n (costF m a b c) startS N i k).1 = endF i a b c m k ∧
      (((lineS po n (costF m a b c) startS N i k).2 = -1 ∧ (k = i ∨ ¬ endF i a b c m k < 16)) ∨
        ∃ p : Nat, p < n ∧ (lineS po n (costF m a b c) startS N i k).2 = (p : Int) ∧ p ≠ i ∧ k ≠ i ∧ endF i a b c m k < 16 ∧ 1 ≤ costF m a b c i p ∧ costF m a b c i p < 16 ∧ endF p a b c m k + costF m a b c i p = endF i a b c m k) := by
  have hK := cost_m hr
  have hD := far_end hr hk
  have hE : ∀ q, q < n → endF k a b c m q = endF q a b c m k := fun q hq => hD.back hK hk hq (far_end hr hq)
  have h1 : (lineS po n (costF m a b c) startS N i k).1 = endF k a b c m i := by
    rw [← end_fewer hr hk hN i hi]
    exact (line_inv (po := po) hr hk N).eq i hi
  refine ⟨h1.trans (hE i hi), ?_⟩
  cases N with
  | zero =>
    have e : k = i := by omega
    exact .inl ⟨rfl, .inl e⟩
  | succ N =>
    have hf : ∀ q, q < n → endF k a b c m q ≤ (lineS po n (costF m a b c) startS N q k).1 ∧ (lineS po n (costF m a b c) startS N q k).1 ≤ 16 := fun q hq => by
      refine ⟨?_, (lineS_ranged hK startS_ranged N q k hq hk).2⟩
      rw [(line_inv (po := po) hr hk N).eq q hq]
      exact fixed_below (edge_good hr) (end_fixed hr) (fun r => rounds k a b c m (startF k) r) (fun r => rounds_round hr _ r) (fun _ _ => rfl) N q hq
    obtain ⟨h2, h3⟩ := (lineS_step (po := po) (n := n) (K := costF m a b c) (S0 := startS) N k).leads hK hD hf hi h1
    have h2' := h2 _ rfl
    rcases h2' with h4 | ⟨p, hp, h4, h5, h6, h7, h8, h9⟩
    · refine .inl ⟨h4, ?_⟩
      rcases h3.1 h4 with h | h
      · exact .inl h.symm
      · right
        rw [← hE i hi]
        omega
    · refine .inr ⟨p, hp, h4, h5, fun e => h6 e.symm, by rw [← hE i hi]; exact h9, hK.low i p hi hp (fun e => h5 e.symm), h7, ?_⟩
      rw [← hE p hp, ← hE i hi]
      exact h8
end

end Go.Proofs.YtbepfmcaolmhgaaDoor
