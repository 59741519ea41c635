/- The net's New. -/
import Derived.Test.YtlemmphnmklbeaaLfiMem
import Derived.Test.YtlemmphnmklbeaaCosts
import Derived.Test.YtlemmphnmklbeaaRepeat
import Derived.Test.YtlemmphnmklbeaaTwo
import Derived.Deep.AppendLies
import Derived.Carry
namespace Go.Proofs.Ytlemmphnmklbeaa
open Go.RowKit
set_option linter.unusedVariables false

set_option maxRecDepth 100000 in
set_option maxHeartbeats 1000000 in
theorem lfiNew_bad (x : Int) (A : Option Addr) (m cp : Nat) (to : Int) (a b c : Nat → Int) (w : World) (hl : Lnk w A m a b c) (hm : m ≤ 9223372036854775807) (k : Int) (hk : k = 1 ∨ k = 3 ∨ k = 5) (h : FaultG x m a b c k) :
    Calls Try.prog 7 #[.int .i64 x, .slice A m cp, .int .i64 to] w fun e w' => e = .returned (.tuple #[.pointer none, errNo k]) ∧ Below w.heap.size w w' := by
  have hcall := costs_bad x A m cp a b c w hl hm k h
  have HC := Lib.hid hcall
  clear hcall hl h hm
  go_enter Try.func7, Try.ntmps7
  go_wp2_with fail
  refine HC.out.mono ?_
  rintro e w1 ⟨rfl, hb⟩
  have HB := Lib.hid hb
  clear hb HC
  rcases hk with rfl | rfl | rfl
  all_goals
    go_wp2_with fail
    go_ret2
    exact ⟨rfl, HB.out⟩

set_option maxRecDepth 100000 in
set_option maxHeartbeats 1000000 in
theorem lfiNew_range (n : Nat) (x : Int) (hx : x = (n : Int)) (A : Option Addr) (m cp : Nat) (to : Int) (a b c : Nat → Int) (w : World) (hl : Lnk w A m a b c) (hm : m ≤ 9223372036854775807) (hg : GoodG x m a b c) (ht : to < 0 ∨ n ≤ to) :
    Calls Try.prog 7 #[.int .i64 x, .slice A m cp, .int .i64 to] w fun e w' => e = .returned (.tuple #[.pointer none, errNo 1]) ∧ Below w.heap.size w w' := by
  have hcall := costs_ok n x hx A m cp a b c w hl hm hg
  have h8 : (n : Int) ≤ 8 := by have := hg.2.1; omega
  subst hx
  have HC := Lib.hid hcall
  clear hcall hl hm hg
  by_cases h0 : to < 0
  · have d1 : decide (to < 0) = true := decide_eq_true h0
    clear ht
    go_enter Try.func7, Try.ntmps7
    go_wp2_with fail
    refine HC.out.mono ?_
    rintro e w1 ⟨g, cg, B, C, rfl, -, -, hb⟩
    have HB := Lib.hid hb
    clear hb HC
    go_wp2_with fail
    go_ret2
    exact ⟨rfl, HB.out⟩
  · have d1 : decide (to < 0) = false := decide_eq_false h0
    have hge : (n : Int) ≤ to := by omega
    have d2 : decide ((n : Int) ≤ to) = true := decide_eq_true hge
    clear ht
    go_enter Try.func7, Try.ntmps7
    go_wp2_with fail
    refine HC.out.mono ?_
    rintro e w1 ⟨g, cg, B, C, rfl, -, -, hb⟩
    have HB := Lib.hid hb
    clear hb HC
    go_wp2_with fail
    go_ret2
    exact ⟨rfl, HB.out⟩


theorem infoNodeP : (Try.prog.info? 54).map (fun i => (i.zero, i.size, i.bytes)) = some (some (.pointer none), 1, 8) := by kernel_rfl

/-- A slice of i pointers, of the call's own. -/
def OwnN (w : World) (v : Value) (i : Nat) (B : Nat → Nat) : Prop := w.ownsRow 0 54 1 v i ((List.range i).map fun r => .pointer (some ⟨B r, 0, none⟩))
section
variable {w w' : World} {v : Value} {i : Nat} {B : Nat → Nat}
theorem OwnN.nil (w : World) (B : Nat → Nat) : OwnN w (.slice none 0 0) 0 B := World.ownsRow_nil _ _ _ _
theorem OwnN.same (h : OwnN w v i B) (hs : ∀ g, v.ownBlock = some g → w'.heap[g]? = w.heap[g]?) : OwnN w' v i B := by
  refine ⟨h.1, ?_⟩
  rcases h.2 with h' | ⟨g, cap, cur, hv, hb, hg, hrest⟩
  · exact .inl h'
  · exact .inr ⟨g, cap, cur, hv, hb, (hs g (by rw [hv]; rfl)).trans hg, hrest⟩
theorem OwnN.snoc {b : Nat} (h : w.ownsRow 0 54 1 v (i + 1) (((List.range i).map fun r => Value.pointer (some ⟨B r, 0, none⟩)) ++ [.pointer (some ⟨b, 0, none⟩)])) : OwnN w v (i + 1) (upd B i b) := by
  unfold OwnN
  rw [map_range_succ] at h
  have e1 : (List.range (i + 1)).map (upd (fun r => Value.pointer (some ⟨B r, 0, none⟩)) i (.pointer (some ⟨b, 0, none⟩))) = (List.range (i + 1)).map fun r => Value.pointer (some ⟨upd B i b r, 0, none⟩) := by
    apply List.map_congr_left
    intro j hj
    unfold upd
    split <;> rfl
  rw [← e1]
  exact h
end

/-- The net at block p, i of its nodes. -/
structure LP (w : World) (lab : Nat → List Nat) (A : LAd) (n t i : Nat) (vN : Value) (K : Nat → Nat → Int) : Prop where
  blk : Blk w A.p 53 #[.int .i64 t, .slice (some ⟨A.gC, 0, none⟩) n A.cC, vN, .map (some A.gW)]
  cst : RowP w A.gC 23 n fun r => .slice (some ⟨A.BC r, 0, none⟩) n (A.CC r)
  cstr : ∀ r, r < n → RowP w (A.BC r) 3 n fun k => .int .i64 (K r k)
  nod : OwnN w vN i A.BN
  nodr : ∀ r, r < i → Blk w (A.BN r) 57 #[.int .i64 16, .int .i64 16, .slice (some ⟨A.BH r, 0, none⟩) n (A.CH r)]
  hrdr : ∀ r, r < i → RowP w (A.BH r) 3 n fun _ => .int .i64 16
  way : WayM w A.gW n 0 fun _ _ => .slice none 0 0
  lp : lab A.p = [0]
  lC : lab A.gC = [1]
  lc : ∀ r, r < n → lab (A.BC r) = [2, r]
  lN : ∀ g, vN.ownBlock = some g → lab g = [3]
  ln : ∀ r, r < i → lab (A.BN r) = [4, r]
  lh : ∀ r, r < i → lab (A.BH r) = [5, r]
  lW : lab A.gW = [6]
  free : ∀ b, w.heap.size ≤ b → lab b = []

section
variable {w wa w' : World} {lab lab' : Nat → List Nat} {A : LAd} {n t i : Nat} {vN : Value} {K : Nat → Nat → Int}
theorem LP.netCell (h : LP w lab A n t i vN K) : w.cell? ⟨A.p, 2, none⟩ = some vN ∧ w.frozen? ⟨A.p, 2, none⟩ = false := ⟨by simpa using h.blk.cell 2, h.blk.frozen 2⟩

/-- One node more: the append, then the store into the net. -/
theorem LP.grow (h : LP w lab A n t i vN K) (hb : Below w.heap.size w wa) {b bh c g cap : Nat} (hbn : w.heap.size ≤ b) (hbhn : w.heap.size ≤ bh) (hne : b ≠ bh)
    (hnode : Blk wa b 57 #[.int .i64 16, .int .i64 16, .slice (some ⟨bh, 0, none⟩) n c]) (hrow : RowP wa bh 3 n fun _ => .int .i64 16)
    (ho : OwnN w' (.slice (some ⟨g, 0, none⟩) (i + 1) cap) (i + 1) (upd A.BN i b)) (hg : wa.grownBy w' vN.ownBlock) (hor : vN.ownBlock = some g ∨ g = wa.heap.size) :
    ∃ lab', LP (w'.setCell ⟨A.p, 2, none⟩ (.slice (some ⟨g, 0, none⟩) (i + 1) cap)) lab' { A with BN := upd A.BN i b, BH := upd A.BH i bh, CH := upd A.CH i c } n t (i + 1) (.slice (some ⟨g, 0, none⟩) (i + 1) cap) K ∧ (∀ k, k < w.heap.size → lab' k = lab k) := by
  have hsz : w.heap.size ≤ w'.heap.size := Nat.le_trans hb.size hg.size
  have hblk : ∀ k, k < w.heap.size → lab k ≠ [3] → w'.heap[k]? = w.heap[k]? := fun k hk hl => (hg.block k (Nat.lt_of_lt_of_le hk hb.size) fun e => hl (h.lN k e.symm)).trans (hb.block k hk)
  have hbl : b < wa.heap.size := hnode.lt
  have hbhl : bh < wa.heap.size := hrow.lt
  have hnew : ∀ x, w.heap.size ≤ x → x < wa.heap.size → vN.ownBlock ≠ some x := fun x hx hx' e => by
    have := ownsRow_lt h.nod x e
    omega
  have hgb : g ≠ b := by
    rcases hor with e | e
    · have := ownsRow_lt h.nod g e
      omega
    · omega
  have hgbh : g ≠ bh := by
    rcases hor with e | e
    · have := ownsRow_lt h.nod g e
      omega
    · omega
  have hgl : lab g = [3] ∨ w.heap.size ≤ g := by
    rcases hor with e | e
    · exact .inl (h.lN g e)
    · right; rw [e]; exact hb.size
  have hlt := ownsRow_lt ho g rfl
  obtain ⟨L, hL⟩ : ∃ L : Nat → List Nat, L = fun k => if k = g then [3] else if k = b then [4, i] else if k = bh then [5, i] else lab k := ⟨_, rfl⟩
  have hlab : ∀ k, k < w.heap.size → L k = lab k := fun k hk => by
    rw [hL]
    show (if k = g then [3] else if k = b then [4, i] else if k = bh then [5, i] else lab k) = lab k
    by_cases e : k = g
    · subst e
      rw [if_pos rfl]
      rcases hgl with h' | h'
      · exact h'.symm
      · omega
    · rw [if_neg e, if_neg (by omega), if_neg (by omega)]
  have hLg : L g = [3] := by rw [hL]; simp
  have hLb : L b = [4, i] := by
    rw [hL]
    show (if b = g then [3] else if b = b then [4, i] else _) = _
    rw [if_neg (Ne.symm hgb), if_pos rfl]
  have hLbh : L bh = [5, i] := by
    rw [hL]
    show (if bh = g then [3] else if bh = b then [4, i] else if bh = bh then [5, i] else _) = _
    rw [if_neg (Ne.symm hgbh), if_neg (Ne.symm hne), if_pos rfl]
  have hpl := h.blk.lt
  have hlt' : ∀ {k : Nat} {l : List Nat}, lab k = l → l ≠ [] → k < w.heap.size := fun {k} {l} e hl => by
    rcases Nat.lt_or_ge k w.heap.size with h' | h'
    · exact h'
    · rw [h.free k h'] at e; exact absurd e.symm hl
  have hh : ∀ {k : Nat} {l : List Nat}, lab k = l → l ≠ [] → l ≠ [3] → l ≠ [0] → (w'.setCell ⟨A.p, 2, none⟩ (.slice (some ⟨g, 0, none⟩) (i + 1) cap)).heap[k]? = w.heap[k]? := fun e h0 h1 h2 =>
    (Below.heap_setCell _ _ _ _ (lab_ne e h.lp h2)).trans (hblk _ (hlt' e h0) (by rw [e]; exact h1))
  have hL2 : ∀ {k : Nat} {l : List Nat}, lab k = l → l ≠ [] → L k = l := fun e h0 => (hlab _ (hlt' e h0)).trans e
  have hbp : b ≠ A.p := by omega
  have hbhp : bh ≠ A.p := by omega
  have hgp : g ≠ A.p := fun e => by
    rcases hgl with h' | h'
    · rw [e, h.lp] at h'; simp at h'
    · omega
  refine ⟨L, ⟨?_, h.cst.of_block (hh h.lC (by simp) (by simp) (by simp)), fun r hr => (h.cstr r hr).of_block (hh (h.lc r hr) (by simp) (by simp) (by simp)), ho.same fun g' hg' => ?_, fun r hr => ?_, fun r hr => ?_, h.way.of_block (hh h.lW (by simp) (by simp) (by simp)), hL2 h.lp (by simp), hL2 h.lC (by simp), fun r hr => hL2 (h.lc r hr) (by simp), fun g' hg' => ?_, fun r hr => ?_, fun r hr => ?_, hL2 h.lW (by simp), fun k hk => ?_⟩, hlab⟩
  · have h1 : Blk w' A.p _ _ := (hblk A.p hpl (by rw [h.lp]; simp)).trans h.blk
    have := h1.set_ 2 (.slice (some ⟨g, 0, none⟩) (i + 1) cap)
    simpa using this
  · have : g = g' := by simpa [Value.ownBlock] using hg'
    subst this
    exact Below.heap_setCell _ _ _ _ hgp
  · show Blk _ (upd A.BN i b r) _ #[_, _, .slice (some ⟨upd A.BH i bh r, 0, none⟩) n (upd A.CH i c r)]
    unfold upd
    by_cases e : r = i
    · rw [if_pos e, if_pos e, if_pos e]
      exact ((Below.heap_setCell _ _ _ _ hbp).trans (hg.block b hbl fun e' => hnew b hbn hbl e'.symm)).trans hnode
    · rw [if_neg e, if_neg e, if_neg e]
      exact (hh (h.ln r (by omega)) (by simp) (by simp) (by simp)).trans (h.nodr r (by omega))
  · show RowP _ (upd A.BH i bh r) _ n _
    unfold upd
    by_cases e : r = i
    · rw [if_pos e]
      exact (hrow.of_block (hg.block bh hbhl fun e' => hnew bh hbhn hbhl e'.symm)).setOther hbhp _
    · rw [if_neg e]
      exact (h.hrdr r (by omega)).of_block (hh (h.lh r (by omega)) (by simp) (by simp) (by simp))
  · have : g = g' := by simpa [Value.ownBlock] using hg'
    subst this
    exact hLg
  · show L (upd A.BN i b r) = [4, r]
    unfold upd
    by_cases e : r = i
    · rw [if_pos e, hLb, e]
    · rw [if_neg e]
      exact hL2 (h.ln r (by omega)) (by simp)
  · show L (upd A.BH i bh r) = [5, r]
    unfold upd
    by_cases e : r = i
    · rw [if_pos e, hLbh, e]
    · rw [if_neg e]
      exact hL2 (h.lh r (by omega)) (by simp)
  · rw [size_setCell] at hk
    have e1 : ¬ k = g := by omega
    have e2 : ¬ k = b := by have := hg.size; omega
    have e3 : ¬ k = bh := by have := hg.size; omega
    rw [hL]
    show (if k = g then [3] else if k = b then [4, i] else if k = bh then [5, i] else lab k) = []
    rw [if_neg e1, if_neg e2, if_neg e3]
    exact h.free k (Nat.le_trans hsz hk)

open Classical in
/-- The net in the beginning: its costs, and a map with nothing in it. -/
theorem LP.start {base g cg p gW : Nat} {B C : Nat → Nat} (h1 : 1 ≤ n) (hT : TabAt w base (.slice (some ⟨g, 0, none⟩) n cg) B C n n K) (hb : Below w.heap.size w w')
    (hp : w.heap.size ≤ p) (hF : w.heap.size ≤ gW) (hne : p ≠ gW) (hblk : Blk w' p 53 #[.int .i64 t, .slice (some ⟨g, 0, none⟩) n cg, .slice none 0 0, .map (some gW)])
    (hway : WayM w' gW n 0 fun _ _ => .slice none 0 0) (hbase : base ≤ w.heap.size) :
    ∃ lab, LP w' lab ⟨p, g, 0, gW, cg, 0, B, C, fun _ => 0, fun _ => 0, fun _ => 0, fun _ _ => .slice none 0 0⟩ n t 0 (.slice none 0 0) K ∧ ∀ b, b < base → lab b = [] := by
  obtain ⟨g', c', e, hgb, hgl, hcell, hgB⟩ := hT.cells h1
  have e' : g = g' ∧ cg = c' := by
    simp only [Value.slice.injEq, Option.some.injEq, Addr.mk.injEq] at e
    exact ⟨e.1.1, e.2.2⟩
  obtain ⟨rfl, rfl⟩ := e'
  have hown := hT.below hb
  obtain ⟨L, hL⟩ : ∃ L : Nat → List Nat, L = fun k => if k = p then [0] else if k = g then [1] else if k = gW then [6] else if h : ∃ r, r < n ∧ B r = k then [2, Classical.choose h] else [] := ⟨_, rfl⟩
  have hBl : ∀ r, r < n → B r < w.heap.size := fun r hr => (hT.row r hr).2.lt
  have l0 : L p = [0] := by rw [hL]; simp
  have l1 : L g = [1] := by
    rw [hL]
    show (if g = p then [0] else if g = g then [1] else _) = [1]
    rw [if_neg (by omega), if_pos rfl]
  have l7 : L gW = [6] := by
    rw [hL]
    show (if gW = p then [0] else if gW = g then [1] else if gW = gW then [6] else _) = [6]
    rw [if_neg (by omega), if_neg (by omega), if_pos rfl]
  have l2 : ∀ r, r < n → L (B r) = [2, r] := fun r hr => by
    have hx := hBl r hr
    have hy := hgB r hr
    have hex : ∃ q, q < n ∧ B q = B r := ⟨r, hr, rfl⟩
    rw [hL]
    show (if B r = p then [0] else if B r = g then [1] else if B r = gW then [6] else if h : ∃ q, q < n ∧ B q = B r then [2, Classical.choose h] else []) = [2, r]
    rw [if_neg (by omega), if_neg (by omega), if_neg (by omega), dif_pos hex]
    have hs := Classical.choose_spec hex
    rw [hT.inj _ _ hs.1 hr hs.2]
  have lno : ∀ k, k ≠ p → k ≠ g → k ≠ gW → (∀ r, r < n → B r ≠ k) → L k = [] := fun k h0 h1 h2 h3 => by
    rw [hL]
    show (if k = p then [0] else if k = g then [1] else if k = gW then [6] else if h : ∃ q, q < n ∧ B q = k then [2, Classical.choose h] else []) = []
    rw [if_neg h0, if_neg h1, if_neg h2, dif_neg fun ⟨r, hr, e⟩ => h3 r hr e]
  refine ⟨L, ⟨hblk, (RowP.of_own hT.own).below hb hgl, fun r hr => (hown.row r hr).2, OwnN.nil _ _, fun r hr => absurd hr (by omega), fun r hr => absurd hr (by omega), hway, l0, l1, l2, fun g hg => (by cases hg), fun r hr => absurd hr (by omega), fun r hr => absurd hr (by omega), l7, fun k hk => ?_⟩, fun k hk => ?_⟩
  · have h1 := hblk.lt
    have h2 := hway.lt
    have h3 := hb.size
    refine lno k (by omega) (by omega) (by omega) fun r hr => ?_
    have := hBl r hr
    omega
  · refine lno k (by omega) (by omega) (by omega) fun r hr => ?_
    have := (hT.row r hr).1
    omega

/-- All nodes are there. -/
theorem LP.done (h1 : 1 ≤ n) (h : LP w lab A n t n vN K) : ∃ A', A'.p = A.p ∧ LN w lab A' n t ⟨fun _ => 16, fun _ => 16, fun _ _ => 16, fun _ _ => [], K, 0⟩ := by
  rcases h.nod.2 with ⟨-, h0⟩ | ⟨gN, cN, curN, rfl, -⟩
  · omega
  exact ⟨{ A with gN := gN, cN := cN, QV := fun _ _ => .slice none 0 0 }, rfl, h.blk, h.cst, h.cstr, RowP.of_own h.nod, h.nodr, h.hrdr, h.way, fun r k hr hk => QueL.nil _ _ _ _, h.lp, h.lC, h.lc, h.lN gN rfl, h.ln, h.lh, h.lW, h.free⟩
end

end Go.Proofs.Ytlemmphnmklbeaa
