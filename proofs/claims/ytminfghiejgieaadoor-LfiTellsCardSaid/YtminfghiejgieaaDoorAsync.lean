/- Async: in one text: AsyncLaw, AsyncMem, AsyncNear, AsyncSend, AsyncTake, AsyncGrow, AsyncNew, Sent. -/
import Derived.Test.YtminfghiejgieaaDoorLab
import Derived.Test.YtminfghiejgieaaDoorTwo
import Derived.Test.YtminfghiejgieaaDoorLineOps
import Derived.Test.YtminfghiejgieaaDoorRegTail
import Derived.Test.YtminfghiejgieaaDoorTabAt
import Derived.Test.YtminfghiejgieaaDoorTail
import Derived.Test.YtminfghiejgieaaDoorRepeat
import Derived.Deep.AppendLies
import Derived.Test.YtminfghiejgieaaDoorCosts
import Derived.Test.YtminfghiejgieaaDoorBellFixed
/- The memory of a net in which thoughts are on their way: every block of it bears a label. -/
namespace Go.Proofs.YtminfghiejgieaaDoor
open Go.RowKit
set_option linter.unusedVariables false

/-- Where the net lies. -/
structure AAd where
  p : Nat
  gC : Nat
  gW : Nat
  gH : Nat
  gF : Nat
  cC : Nat
  cW : Nat
  cH : Nat
  cF : Nat
  BC : Nat → Nat
  BW : Nat → Nat
  BH : Nat → Nat
  CC : Nat → Nat
  CW : Nat → Nat
  CH : Nat → Nat
  QV : Nat → Nat → Value

/-- What waits on a way: it lies in a block that bears the way's label, if anywhere. -/
def Que (w : World) (lab : Nat → List Nat) (a b : Nat) (v : Value) (l : List Int) : Prop := OwnV w 0 v l.length (fun i => l.getD i 0) ∧ ∀ g, v.ownBlock = some g → lab g = [8, a, b]

section
variable {w w' : World} {lab lab' : Nat → List Nat} {a b : Nat} {v : Value} {l : List Int}
theorem Que.same (h : Que w lab a b v l) (hs : ∀ g, lab g = [8, a, b] → g < w.heap.size → w'.heap[g]? = w.heap[g]?) (hl : ∀ g, lab g = [8, a, b] → g < w.heap.size → lab' g = [8, a, b]) : Que w' lab' a b v l := by
  obtain ⟨ho, hg⟩ := h
  have hlt := ownsRow_lt ho
  refine ⟨⟨ho.1, ?_⟩, fun g e => hl g (hg g e) (hlt g e)⟩
  rcases ho.2 with h' | ⟨g', cap, cur, hv, hb, hgb, hrest⟩
  · exact .inl h'
  · have e : v.ownBlock = some g' := by rw [hv]; rfl
    exact .inr ⟨g', cap, cur, hv, hb, (hs g' (hg g' e) (hlt g' e)).trans hgb, hrest⟩
theorem Que.len (h : Que w lab a b v l) : ∃ A c, v = .slice A l.length c := by
  rcases h.1.form with ⟨h0, rfl⟩ | ⟨g, c, rfl, _⟩
  · rw [h0]; exact ⟨none, 0, rfl⟩
  · exact ⟨_, _, rfl⟩
theorem Que.nil (w : World) (lab : Nat → List Nat) (a b : Nat) : Que w lab a b (.slice none 0 0) [] := ⟨OwnV.nil _ _ _, fun g h => by cases h⟩
end

/-- The net at block A.p. -/
structure AN (w : World) (lab : Nat → List Nat) (A : AAd) (n t : Nat) (K : Nat → Nat → Int) (s : AS) : Prop where
  blk : Blk w A.p 75 #[.int .i64 t, .slice (some ⟨A.gC, 0, none⟩) n A.cC, .slice (some ⟨A.gW, 0, none⟩) n A.cW, .slice (some ⟨A.gH, 0, none⟩) n A.cH, .slice (some ⟨A.gF, 0, none⟩) n A.cF]
  cst : RowP w A.gC 24 n fun r => .slice (some ⟨A.BC r, 0, none⟩) n (A.CC r)
  cstr : ∀ r, r < n → RowP w (A.BC r) 3 n fun k => .int .i64 (K r k)
  way : RowP w A.gW 34 n fun r => .slice (some ⟨A.BW r, 0, none⟩) n (A.CW r)
  wayr : ∀ r, r < n → RowP w (A.BW r) 24 n fun k => A.QV r k
  que : ∀ r k, r < n → k < n → Que w lab r k (A.QV r k) (s.q r k)
  hrd : RowP w A.gH 24 n fun r => .slice (some ⟨A.BH r, 0, none⟩) n (A.CH r)
  hrdr : ∀ r, r < n → RowP w (A.BH r) 3 n fun k => .int .i64 (s.h r k)
  far : RowP w A.gF 3 n fun i => .int .i64 (s.f i)
  lp : lab A.p = [0]
  lC : lab A.gC = [1]
  lc : ∀ r, r < n → lab (A.BC r) = [2, r]
  lW : lab A.gW = [3]
  lw : ∀ r, r < n → lab (A.BW r) = [4, r]
  lH : lab A.gH = [5]
  lh : ∀ r, r < n → lab (A.BH r) = [6, r]
  lF : lab A.gF = [7]
  free : ∀ b, w.heap.size ≤ b → lab b = []

section
variable {w w' w'' : World} {lab lab' lab'' : Nat → List Nat} {A : AAd} {n t : Nat} {K : Nat → Nat → Int} {s : AS}
theorem AN.same (h : AN w lab A n t K s) (hs : ∀ b, b < w.heap.size → lab b ≠ [] → w'.heap[b]? = w.heap[b]?) (hz : w.heap.size ≤ w'.heap.size) : AN w' lab A n t K s := by
  have hh : ∀ {b : Nat} {l : List Nat}, lab b = l → l ≠ [] → b < w.heap.size → w'.heap[b]? = w.heap[b]? := fun e hl hb => hs _ hb (by rw [e]; exact hl)
  refine ⟨(hh h.lp (by simp) h.blk.lt).trans h.blk, h.cst.of_block (hh h.lC (by simp) h.cst.lt), fun r hr => (h.cstr r hr).of_block (hh (h.lc r hr) (by simp) (h.cstr r hr).lt), h.way.of_block (hh h.lW (by simp) h.way.lt), fun r hr => (h.wayr r hr).of_block (hh (h.lw r hr) (by simp) (h.wayr r hr).lt), fun r k hr hk => (h.que r k hr hk).same (fun g hg hlt => hh hg (by simp) hlt) (fun g hg _ => hg), h.hrd.of_block (hh h.lH (by simp) h.hrd.lt), fun r hr => (h.hrdr r hr).of_block (hh (h.lh r hr) (by simp) (h.hrdr r hr).lt), h.far.of_block (hh h.lF (by simp) h.far.lt), h.lp, h.lC, h.lc, h.lW, h.lw, h.lH, h.lh, h.lF, fun b hb => h.free b (Nat.le_trans hz hb)⟩
theorem AN.below (h : AN w lab A n t K s) (hb : Below w.heap.size w w') : AN w' lab A n t K s := h.same (fun b hlt _ => hb.block b hlt) hb.size
theorem AN.drewN (h : AN w lab A n t K s) (k : Nat) : AN (w.drewN k) lab A n t K s := h.same (fun _ _ _ => rfl) (Nat.le_refl _)
theorem AN.lt (h : AN w lab A n t K s) {b : Nat} (hl : lab b ≠ []) : b < w.heap.size := by
  rcases Nat.lt_or_ge b w.heap.size with hlt | hge
  · exact hlt
  · exact absurd (h.free b hge) hl

theorem AN.setFar (h : AN w lab A n t K s) (i : Nat) (x : Int) : AN (w.setCell ⟨A.gF, i, none⟩ (.int .i64 x)) lab A n t K { s with f := upd s.f i x } := by
  have hh : ∀ {b : Nat} {l : List Nat}, lab b = l → l ≠ [7] → (w.setCell ⟨A.gF, i, none⟩ (.int .i64 x)).heap[b]? = w.heap[b]? := fun e hl => Below.heap_setCell _ _ _ _ (lab_ne e h.lF hl)
  refine ⟨(hh h.lp (by simp)).trans h.blk, h.cst.of_block (hh h.lC (by simp)), fun r hr => (h.cstr r hr).of_block (hh (h.lc r hr) (by simp)), h.way.of_block (hh h.lW (by simp)), fun r hr => (h.wayr r hr).of_block (hh (h.lw r hr) (by simp)), fun r k hr hk => (h.que r k hr hk).same (fun g hg _ => hh hg (by simp)) (fun g hg _ => hg), h.hrd.of_block (hh h.lH (by simp)), fun r hr => (h.hrdr r hr).of_block (hh (h.lh r hr) (by simp)), ?_, h.lp, h.lC, h.lc, h.lW, h.lw, h.lH, h.lh, h.lF, fun b hb => h.free b (by rw [size_setCell] at hb; exact hb)⟩
  refine (h.far.set i _).congr fun j _ => ?_
  unfold upd
  by_cases e : j = i <;> simp [e]
theorem AN.setHeard (h : AN w lab A n t K s) {r : Nat} (hr : r < n) (k : Nat) (x : Int) : AN (w.setCell ⟨A.BH r, k, none⟩ (.int .i64 x)) lab A n t K { s with h := fun p q => if p = r ∧ q = k then x else s.h p q } := by
  have hh : ∀ {b : Nat} {l : List Nat}, lab b = l → l ≠ [6, r] → (w.setCell ⟨A.BH r, k, none⟩ (.int .i64 x)).heap[b]? = w.heap[b]? := fun e hl => Below.heap_setCell _ _ _ _ (lab_ne e (h.lh r hr) hl)
  refine ⟨(hh h.lp (by simp)).trans h.blk, h.cst.of_block (hh h.lC (by simp)), fun r hr => (h.cstr r hr).of_block (hh (h.lc r hr) (by simp)), h.way.of_block (hh h.lW (by simp)), fun r hr => (h.wayr r hr).of_block (hh (h.lw r hr) (by simp)), fun r k hr hk => (h.que r k hr hk).same (fun g hg _ => hh hg (by simp)) (fun g hg _ => hg), h.hrd.of_block (hh h.lH (by simp)), fun p hp => ?_, h.far.of_block (hh h.lF (by simp)), h.lp, h.lC, h.lc, h.lW, h.lw, h.lH, h.lh, h.lF, fun b hb => h.free b (by rw [size_setCell] at hb; exact hb)⟩
  by_cases e : p = r
  · subst e
    refine ((h.hrdr p hp).set k _).congr fun j _ => ?_
    unfold upd
    by_cases e : j = k <;> simp [e]
  · refine ((h.hrdr p hp).of_block (hh (h.lh p hp) (by simpa using e))).congr fun j _ => ?_
    simp [e]
/-- A way's slice is another one; its block may have turned, or be a new one. -/
theorem AN.swap (h : AN w lab A n t K s) {r k : Nat} (hr : r < n) (hk : k < n) (hs : ∀ b, b < w.heap.size → lab b ≠ [] → lab b ≠ [8, r, k] → w'.heap[b]? = w.heap[b]?) (hz : w.heap.size ≤ w'.heap.size)
    (hl : ∀ b, b < w.heap.size → lab' b = lab b) (hf : ∀ b, w'.heap.size ≤ b → lab' b = []) (v : Value) (l : List Int) (hq : Que w' lab' r k v l) :
    AN (w'.setCell ⟨A.BW r, k, none⟩ v) lab' { A with QV := fun p q => if p = r ∧ q = k then v else A.QV p q } n t K { s with q := fun p q => if p = r ∧ q = k then l else s.q p q } := by
  have hL : ∀ {b : Nat} {l : List Nat}, lab b = l → b < w.heap.size → lab' b = l := fun e hb => (hl _ hb).trans e
  have hw' : A.BW r < w.heap.size := (h.wayr r hr).lt
  have hh : ∀ {b : Nat} {l : List Nat}, lab b = l → l ≠ [] → l ≠ [8, r, k] → l ≠ [4, r] → b < w.heap.size → (w'.setCell ⟨A.BW r, k, none⟩ v).heap[b]? = w.heap[b]? := fun e h0 h1 h2 hb =>
    (Below.heap_setCell _ _ _ _ (lab_ne e (h.lw r hr) h2)).trans (hs _ hb (by rw [e]; exact h0) (by rw [e]; exact h1))
  have hrow : ∀ p, p < n → RowP w' (A.BW p) 24 n fun k => A.QV p k := fun p hp => (h.wayr p hp).of_block (hs _ (h.wayr p hp).lt (by rw [h.lw p hp]; simp) (by rw [h.lw p hp]; simp))
  refine ⟨(hh h.lp (by simp) (by simp) (by simp) h.blk.lt).trans h.blk, h.cst.of_block (hh h.lC (by simp) (by simp) (by simp) h.cst.lt), fun p hp => (h.cstr p hp).of_block (hh (h.lc p hp) (by simp) (by simp) (by simp) (h.cstr p hp).lt), h.way.of_block (hh h.lW (by simp) (by simp) (by simp) h.way.lt), fun p hp => ?_, fun p q hp hq' => ?_, h.hrd.of_block (hh h.lH (by simp) (by simp) (by simp) h.hrd.lt), fun p hp => (h.hrdr p hp).of_block (hh (h.lh p hp) (by simp) (by simp) (by simp) (h.hrdr p hp).lt), h.far.of_block (hh h.lF (by simp) (by simp) (by simp) h.far.lt), hL h.lp h.blk.lt, hL h.lC h.cst.lt, fun p hp => hL (h.lc p hp) (h.cstr p hp).lt, hL h.lW h.way.lt, fun p hp => hL (h.lw p hp) (h.wayr p hp).lt, hL h.lH h.hrd.lt, fun p hp => hL (h.lh p hp) (h.hrdr p hp).lt, hL h.lF h.far.lt, fun b hb => hf b (by rw [size_setCell] at hb; exact hb)⟩
  · by_cases e : p = r
    · subst e
      refine ((hrow p hp).set k _).congr fun j _ => ?_
      unfold upd
      by_cases e : j = k <;> simp [e]
    · refine ((hrow p hp).setOther (a := ⟨A.BW r, k, none⟩) (lab_ne (h.lw p hp) (h.lw r hr) (by simpa using e)) _).congr fun j _ => ?_
      simp [e]
  · show Que _ lab' p q (if p = r ∧ q = k then v else A.QV p q) (if p = r ∧ q = k then l else s.q p q)
    by_cases e : p = r ∧ q = k
    · obtain ⟨rfl, rfl⟩ := e
      rw [if_pos ⟨rfl, rfl⟩, if_pos ⟨rfl, rfl⟩]
      exact hq.same (fun g hg _ => Below.heap_setCell _ _ _ _ (lab_ne hg (hL (h.lw p hp) hw') (by simp))) (fun g hg _ => hg)
    · rw [if_neg e, if_neg e]
      exact (h.que p q hp hq').same (fun g hg hlt => hh hg (by simp) (by simpa using e) (by simp) hlt) (fun g hg hlt => hL hg hlt)
end

end Go.Proofs.YtminfghiejgieaaDoor

/- The net's small walks: near, Dist, Waits. -/
namespace Go.Proofs.YtminfghiejgieaaDoor
open Go.RowKit
set_option linter.unusedVariables false

section
variable {w : World} {lab : Nat → List Nat} {A : AAd} {n t : Nat} {K : Nat → Nat → Int} {s : AS}
theorem AN.farCell (h : AN w lab A n t K s) : w.cell? ⟨A.p, 4, none⟩ = some (.slice (some ⟨A.gF, 0, none⟩) n A.cF) := by simpa using h.blk.cell 4
theorem AN.toCell (h : AN w lab A n t K s) : w.cell? ⟨A.p, 0, none⟩ = some (.int .i64 t) := by simpa using h.blk.cell 0
theorem AN.costCell (h : AN w lab A n t K s) : w.cell? ⟨A.p, 1, none⟩ = some (.slice (some ⟨A.gC, 0, none⟩) n A.cC) := by simpa using h.blk.cell 1
theorem AN.wayCell (h : AN w lab A n t K s) : w.cell? ⟨A.p, 2, none⟩ = some (.slice (some ⟨A.gW, 0, none⟩) n A.cW) := by simpa using h.blk.cell 2
theorem AN.heardCell (h : AN w lab A n t K s) : w.cell? ⟨A.p, 3, none⟩ = some (.slice (some ⟨A.gH, 0, none⟩) n A.cH) := by simpa using h.blk.cell 3
end

set_option maxRecDepth 100000 in
set_option maxHeartbeats 1000000 in
theorem asyncNear (lab : Nat → List Nat) (A : AAd) (n t : Nat) (K : Nat → Nat → Int) (s : AS) (a b : Int) (w : World) (h : AN w lab A n t K s) (h8 : n ≤ 8) :
    Calls Tryd.prog 47 #[.pointer (some ⟨A.p, 0, none⟩), .int .i64 a, .int .i64 b] w fun e w' => e = .returned (errV (nearE n K a b)) ∧ w' = w := by
  have f4 := h.farCell
  have f1 := h.costCell
  have h8' : (n : Int) ≤ 8 := by omega
  by_cases h1 : a < 0
  · have e : nearE n K a b = 1 := if_pos (by omega)
    rw [e]
    have d1 : decide (a < 0) = true := decide_eq_true h1
    clear h f1
    go_enter Tryd.func47, Tryd.ntmps47
    go_wp2_with fail
    go_ret
    exact ⟨rfl, rfl⟩
  · have d1 : decide (a < 0) = false := decide_eq_false h1
    obtain ⟨x, rfl⟩ : ∃ x : Nat, a = x := ⟨a.toNat, by omega⟩
    by_cases h2 : n ≤ x
    · have e : nearE n K x b = 1 := if_pos (by omega)
      rw [e]
      have d2 : decide (n ≤ x) = true := decide_eq_true h2
      clear h f1
      go_enter Tryd.func47, Tryd.ntmps47
      go_wp2_with fail
      go_ret
      exact ⟨rfl, rfl⟩
    · have d2 : decide (n ≤ x) = false := decide_eq_false h2
      by_cases h3 : b < 0
      · have e : nearE n K x b = 1 := if_pos (by omega)
        rw [e]
        have d3 : decide (b < 0) = true := decide_eq_true h3
        clear h f1
        go_enter Tryd.func47, Tryd.ntmps47
        go_wp2_with fail
        go_ret
        exact ⟨rfl, rfl⟩
      · have d3 : decide (b < 0) = false := decide_eq_false h3
        obtain ⟨y, rfl⟩ : ∃ y : Nat, b = y := ⟨b.toNat, by omega⟩
        by_cases h4 : n ≤ y
        · have e : nearE n K x y = 1 := if_pos (by omega)
          rw [e]
          have d4 : decide (n ≤ y) = true := decide_eq_true h4
          clear h f1
          go_enter Tryd.func47, Tryd.ntmps47
          go_wp2_with fail
          go_ret
          exact ⟨rfl, rfl⟩
        · have d4 : decide (n ≤ y) = false := decide_eq_false h4
          have hx : x < n := by omega
          have hy : y < n := by omega
          have hx' : (x : Int) < n := by omega
          have hy' : (y : Int) < n := by omega
          have r1 := h.cst.cell hx
          have r2 := (h.cstr x hx).cell hy
          by_cases h5 : x = y
          · have e : nearE n K x y = 2 := by
              unfold nearE
              rw [if_neg (by omega), if_pos (.inl (by omega))]
            rw [e]
            have d5 : ((x : Int) == (y : Int)) = true := by simp [h5]
            have d5' : (x == y) = true := by simp [h5]
            clear h f1 r1 r2 h5 e
            go_enter Tryd.func47, Tryd.ntmps47
            go_wp2_with fail
            go_ret
            exact ⟨rfl, rfl⟩
          · have d5 : ((x : Int) == (y : Int)) = false := beq_false_of_ne (by omega)
            have d5' : (x == y) = false := beq_false_of_ne h5
            obtain ⟨k, hk⟩ : ∃ k, K x y = k := ⟨_, rfl⟩
            have en : nearE n K x y = if k = 16 then 2 else 0 := by
              unfold nearE
              have e1 : ((x : Int)).toNat = x := by omega
              have e2 : ((y : Int)).toNat = y := by omega
              rw [if_neg (by omega), e1, e2, hk]
              by_cases h16 : k = 16
              · rw [if_pos (.inr h16), if_pos h16]
              · rw [if_neg (by omega), if_neg h16]
            rw [en]
            rw [hk] at r2
            clear h en hk
            by_cases h16 : k = 16
            · subst h16
              go_enter Tryd.func47, Tryd.ntmps47
              go_wp2_with fail
              go_ret
              exact ⟨rfl, rfl⟩
            · have d6 : (k == 16) = false := beq_false_of_ne h16
              rw [if_neg h16]
              go_enter Tryd.func47, Tryd.ntmps47
              go_wp2_with fail
              go_ret
              exact ⟨rfl, rfl⟩

set_option maxRecDepth 100000 in
set_option maxHeartbeats 1000000 in
theorem asyncDist (lab : Nat → List Nat) (A : AAd) (n t : Nat) (K : Nat → Nat → Int) (s : AS) (i : Int) (w : World) (h : AN w lab A n t K s) (h8 : n ≤ 8) :
    Calls Tryd.prog 21 #[.pointer (some ⟨A.p, 0, none⟩), .int .i64 i] w fun e w' => e = .returned (if i < 0 ∨ n ≤ i then .tuple #[.int .i64 0, errNo 1] else .tuple #[.int .i64 (s.f i.toNat), .nilIface]) ∧ w' = w := by
  have f4 := h.farCell
  have h8' : (n : Int) ≤ 8 := by omega
  by_cases h1 : i < 0
  · rw [if_pos (.inl h1)]
    have d1 : decide (i < 0) = true := decide_eq_true h1
    clear h
    go_enter Tryd.func21, Tryd.ntmps21
    go_wp2_with fail
    go_ret2
    exact ⟨rfl, rfl⟩
  · have d1 : decide (i < 0) = false := decide_eq_false h1
    obtain ⟨x, rfl⟩ : ∃ x : Nat, i = x := ⟨i.toNat, by omega⟩
    by_cases h2 : n ≤ x
    · rw [if_pos (.inr (by omega))]
      have d2 : decide (n ≤ x) = true := decide_eq_true h2
      clear h
      go_enter Tryd.func21, Tryd.ntmps21
      go_wp2_with fail
      go_ret2
      exact ⟨rfl, rfl⟩
    · rw [if_neg (by omega), show ((x : Int)).toNat = x by omega]
      have d2 : decide (n ≤ x) = false := decide_eq_false h2
      have hx : x < n := by omega
      have hx' : (x : Int) < n := by omega
      have r1 := h.far.cell hx
      clear h
      go_enter Tryd.func21, Tryd.ntmps21
      go_wp2_with fail
      go_ret2
      exact ⟨rfl, rfl⟩

end Go.Proofs.YtminfghiejgieaaDoor

/- The net's Send. -/
namespace Go.Proofs.YtminfghiejgieaaDoor
open Go.RowKit
set_option linter.unusedVariables false

section
variable {lab : Nat → List Nat} {A : AAd} {n t : Nat} {K : Nat → Nat → Int} {s : AS} {a b : Int} {w : World}
theorem asyncNear_ok (h : AN w lab A n t K s) (h8 : n ≤ 8) (hn : nearE n K a b = 0) :
    Calls Tryd.prog 47 #[.pointer (some ⟨A.p, 0, none⟩), .int .i64 a, .int .i64 b] w fun e w' => e = .returned .nilIface ∧ w' = w := by
  have := asyncNear lab A n t K s a b w h h8
  rw [hn] at this
  exact this
theorem asyncNear_bad (h : AN w lab A n t K s) (h8 : n ≤ 8) {k : Int} (hn : nearE n K a b = k) (hk : k ≠ 0) :
    Calls Tryd.prog 47 #[.pointer (some ⟨A.p, 0, none⟩), .int .i64 a, .int .i64 b] w fun e w' => e = .returned (errNo k) ∧ w' = w := by
  have := asyncNear lab A n t K s a b w h h8
  rw [hn] at this
  unfold errV at this
  rw [if_neg hk] at this
  exact this
end

/-- What the sending region reads. -/
def SendS (A : AAd) (n x y : Nat) (z : Int) (Aq : Option Addr) (L cq : Nat) (w' : World) : Prop :=
  w'.cell? ⟨A.p, 2, none⟩ = some (.slice (some ⟨A.gW, 0, none⟩) n A.cW) ∧ w'.cell? ⟨A.gW, x, none⟩ = some (.slice (some ⟨A.BW x, 0, none⟩) n (A.CW x)) ∧ w'.cell? ⟨A.p, 4, none⟩ = some (.slice (some ⟨A.gF, 0, none⟩) n A.cF) ∧ w'.cell? ⟨A.gF, x, none⟩ = some (.int .i64 z) ∧ w'.cell? ⟨A.BW x, y, none⟩ = some (.slice Aq L cq)

set_option maxRecDepth 100000 in
set_option maxHeartbeats 2000000 in
theorem asyncSend (lab : Nat → List Nat) (A : AAd) (n t : Nat) (K : Nat → Nat → Int) (s : AS) (a b : Int) (w : World) (h : AN w lab A n t K s) (h8 : n ≤ 8) :
    Calls Tryd.prog 19 #[.pointer (some ⟨A.p, 0, none⟩), .int .i64 a, .int .i64 b] w fun e w' => e = .returned (errV (s.sendE n K a b)) ∧ ∃ lab' A', A'.p = A.p ∧ AN w' lab' A' n t K (s.send n K a b) ∧ AF lab w lab' w' := by
  by_cases h0 : nearE n K a b = 0
  · have hcall := asyncNear_ok h h8 h0
    have HC := Lib.hid hcall
    clear hcall
    obtain ⟨x, y, rfl, rfl, hx, hy, hne, hk⟩ := near_zero h0
    have e1 : ((x : Int)).toNat = x := by omega
    have e2 : ((y : Int)).toNat = y := by omega
    have h8' : (n : Int) ≤ 8 := by omega
    have hx' : (x : Int) < n := by omega
    have hy' : (y : Int) < n := by omega
    have f2 := h.wayCell
    have f4 := h.farCell
    have r1 := h.way.cell hx
    have r2 := (h.wayr x hx).cell hy
    have r3 := h.far.cell hx
    have hq := h.que x y hx hy
    obtain ⟨Aq, cq, hv⟩ := hq.len
    rw [hv] at r2
    by_cases hf : 20 ≤ (s.q x y).length
    · have es : s.sendE n K x y = 4 := by
        unfold AS.sendE
        rw [e1, e2, if_pos ⟨h0, hf⟩]
      have en : s.send n K x y = s := by
        unfold AS.send
        rw [es, if_neg (by omega)]
      rw [es, en]
      obtain ⟨L, hL⟩ : ∃ L, (s.q x y).length = L := ⟨_, rfl⟩
      rw [hL] at r2 hf
      have hf' : (20 : Int) ≤ L := by omega
      have HA := Lib.hid h
      clear h hq hv hL es en h0 e1 e2 r3 f4
      go_enter Tryd.func19, Tryd.ntmps19
      go_wp2_with fail
      refine HC.out.mono ?_
      rintro e w1 ⟨rfl, h1⟩
      subst w1
      clear HC
      go_wp2_with fail
      go_ret
      exact ⟨rfl, lab, A, rfl, HA.out, AF.refl _ _⟩
    · have es : s.sendE n K x y = 0 := by
        unfold AS.sendE
        rw [e1, e2, if_neg (fun h => hf h.2)]
        exact h0
      have en : s.send n K x y = s.put x y := by
        unfold AS.send
        rw [es, if_pos rfl, e1, e2]
      rw [es, en]
      have hqa : OwnV w 0 (.slice Aq (s.q x y).length cq) (s.q x y).length (fun i => (s.q x y).getD i 0) := by
        have := hq.1
        rw [hv] at this
        exact this
      have hqb : ∀ g, (Value.slice Aq (s.q x y).length cq).ownBlock = some g → lab g = [8, x, y] := by
        rw [← hv]; exact hq.2
      obtain ⟨l, hl⟩ : ∃ l, s.q x y = l := ⟨_, rfl⟩
      obtain ⟨z, hz⟩ : ∃ z, s.f x = z := ⟨_, rfl⟩
      have HP : Hid ((s.put x y) = { s with q := fun p q => if p = x ∧ q = y then l ++ [z] else s.q p q }) := by
        show (s.put x y) = _
        unfold AS.put
        rw [hl, hz]
      rw [hl] at r2 hf hqa hqb
      rw [hz] at r3
      obtain ⟨L, hL⟩ : ∃ L, l.length = L := ⟨_, rfl⟩
      rw [hL] at r2 hf hqa hqb
      have hf' : ¬ (20 : Int) ≤ L := by omega
      have hd : decide ((20 : Int) ≤ L) = false := decide_eq_false hf'
      have hL19 : L ≤ 1000000000000 := by omega
      have r5 := (h.wayr x hx).frozen y
      have HA := Lib.hid h
      have HQA := Lib.hid hqa
      have HQB := Lib.hid hqb
      have HLL := Lib.hid hL
      -- behind the append: what the region still reads
      have HK : Hid (∀ w1 w2 : World, Below w.heap.size w w1 → w1.grownBy w2 (Value.slice Aq L cq).ownBlock → SendS A n x y z Aq L cq w2 ∧ w2.frozen? ⟨A.BW x, y, none⟩ = false) := by
        intro w1 w2 hb hg
        have hcell : ∀ (p : Addr) (l : List Nat), lab p.block = l → l ≠ [] → l ≠ [8, x, y] → w2.heap[p.block]? = w.heap[p.block]? := fun p l e h0 h1 => by
          have hlt : p.block < w.heap.size := HA.out.lt (by rw [e]; exact h0)
          refine (hg.block _ (Nat.lt_of_lt_of_le hlt hb.size) fun e' => h1 ?_).trans (hb.block _ hlt)
          rw [← e]; exact HQB.out _ e'.symm
        have c1 := hcell ⟨A.p, 2, none⟩ _ HA.out.lp (by simp) (by simp)
        have c2 := hcell ⟨A.gW, x, none⟩ _ HA.out.lW (by simp) (by simp)
        have c3 := hcell ⟨A.p, 4, none⟩ _ HA.out.lp (by simp) (by simp)
        have c4 := hcell ⟨A.gF, x, none⟩ _ HA.out.lF (by simp) (by simp)
        have c5 := hcell ⟨A.BW x, y, none⟩ _ (HA.out.lw x hx) (by simp) (by simp)
        exact ⟨⟨(World.cell?_of_block c1).trans f2, (World.cell?_of_block c2).trans r1, (World.cell?_of_block c3).trans f4, (World.cell?_of_block c4).trans r3, (World.cell?_of_block c5).trans r2⟩, (World.frozen?_of_block c5).trans r5⟩
      clear h hq hv hqa hqb hL hl hz es en h0 e1 e2
      go_enter Tryd.func19, Tryd.ntmps19
      go_wp2_with fail
      refine HC.out.mono ?_
      rintro e w1 ⟨rfl, h1⟩
      subst w1
      clear HC
      go_wp2_with fail
      have hb1 : Below w.heap.size w (w.alloc (.cells #[.int .i64 z] 3)).drew := ((Below.refl _ _).alloc (Nat.le_refl _) _).drew
      have HB1 := Lib.hid hb1
      clear hb1
      have HS0 : Hid (SendS A n x y z Aq L cq w.drew) := ⟨f2, r1, f4, r3, r2⟩
      have HS1 : Hid (SendS A n x y z Aq L cq (w.alloc (.cells #[.int .i64 z] 3)).drew) := by
        have hk : ∀ (p : Addr) (v : Value), w.cell? p = some v → (w.alloc (.cells #[.int .i64 z] 3)).drew.cell? p = some v := fun p v hv => (HB1.out.cell (World.block_lt_of_cell? w p hv)).trans hv
        exact ⟨hk _ _ f2, hk _ _ r1, hk _ _ f4, hk _ _ r3, hk _ _ r2⟩
      clear f2 r1 f4 r3 r2
      refine wp_region_tail (SendS A n x y z Aq L cq) 28 (by kernel_rfl) ?_
      refine wpTail_take (i := 0) (v := ?_) rfl (by kernel_rfl) (by kernel_rfl) (by kernel_rfl) (by kernel_rfl) (fun _ _ _ h => h) HS0.out ?_ rfl ?_
      rotate_left 1
      · intro w0 hS0
        obtain ⟨s1, s2, s3, s4, s5⟩ := hS0
        go_simp
        try with_reducible rfl
      try simp only [Act.put, List.setIfInBounds_toArray]
      refine wpTail_take (i := 1) (v := ?_) rfl (by kernel_rfl) (by kernel_rfl) (by kernel_rfl) (by kernel_rfl) (fun _ _ _ h => h) HS0.out ?_ rfl ?_
      rotate_left 1
      · intro w0 hS0
        obtain ⟨s1, s2, s3, s4, s5⟩ := hS0
        go_simp
        try with_reducible rfl
      try simp only [Act.put]
      refine wpTail_take (i := 2) (v := ?_) rfl (by kernel_rfl) (by kernel_rfl) (by kernel_rfl) (by kernel_rfl) (fun _ _ _ h => h) HS0.out ?_ rfl ?_
      rotate_left 1
      · intro w0 hS0
        obtain ⟨s1, s2, s3, s4, s5⟩ := hS0
        go_simp
        try with_reducible rfl
      try simp only [Act.put]
      refine wpTail_take (i := 3) (v := ?_) rfl (by kernel_rfl) (by kernel_rfl) (by kernel_rfl) (by kernel_rfl) (fun _ _ _ h => h) HS0.out ?_ rfl ?_
      rotate_left 1
      · intro w0 hS0
        obtain ⟨s1, s2, s3, s4, s5⟩ := hS0
        go_simp
        try with_reducible rfl
      try simp only [Act.put]
      refine wpTail_take (i := 4) (v := ?_) rfl (by kernel_rfl) (by kernel_rfl) (by kernel_rfl) (by kernel_rfl) (fun _ _ _ h => h) HS0.out ?_ rfl ?_
      rotate_left 1
      · intro w0 hS0
        obtain ⟨s1, s2, s3, s4, s5⟩ := hS0
        go_simp
        try with_reducible rfl
      try simp only [Act.put]
      refine wpTail_take (i := 5) (v := ?_) rfl (by kernel_rfl) (by kernel_rfl) (by kernel_rfl) (by kernel_rfl) (fun _ _ _ h => h) HS0.out ?_ rfl ?_
      rotate_left 1
      · intro w0 hS0
        obtain ⟨s1, s2, s3, s4, s5⟩ := hS0
        go_simp
        try with_reducible rfl
      try simp only [Act.put]
      refine wpTail_take (i := 6) (v := ?_) rfl (by kernel_rfl) (by kernel_rfl) (by kernel_rfl) (by kernel_rfl) (fun _ _ _ h => h) HS0.out ?_ rfl ?_
      rotate_left 1
      · intro w0 hS0
        obtain ⟨s1, s2, s3, s4, s5⟩ := hS0
        go_simp
        try with_reducible rfl
      try simp only [Act.put]
      refine wpTail_take (i := 7) (v := ?_) rfl (by kernel_rfl) (by kernel_rfl) (by kernel_rfl) (by kernel_rfl) (fun _ _ _ h => h) HS0.out ?_ rfl ?_
      rotate_left 1
      · intro w0 hS0
        obtain ⟨s1, s2, s3, s4, s5⟩ := hS0
        go_simp
        try with_reducible rfl
      try simp only [Act.put]
      refine wpTail_take (i := 8) (v := ?_) rfl (by kernel_rfl) (by kernel_rfl) (by kernel_rfl) (by kernel_rfl) (fun _ _ _ h => h) HS0.out ?_ rfl ?_
      rotate_left 1
      · intro w0 hS0
        obtain ⟨s1, s2, s3, s4, s5⟩ := hS0
        go_simp
        try with_reducible rfl
      try simp only [Act.put]
      refine wpTail_take (i := 9) (v := ?_) rfl (by kernel_rfl) (by kernel_rfl) (by kernel_rfl) (by kernel_rfl) (fun _ _ _ h => h) HS0.out ?_ rfl ?_
      rotate_left 1
      · intro w0 hS0
        obtain ⟨s1, s2, s3, s4, s5⟩ := hS0
        go_simp
        try with_reducible rfl
      try simp only [Act.put]
      refine wpTail_take (i := 10) (v := ?_) rfl (by kernel_rfl) (by kernel_rfl) (by kernel_rfl) (by kernel_rfl) (fun _ _ _ h => h) HS0.out ?_ rfl ?_
      rotate_left 1
      · intro w0 hS0
        obtain ⟨s1, s2, s3, s4, s5⟩ := hS0
        go_simp
        try with_reducible rfl
      try simp only [Act.put]
      refine wpTail_take (i := 11) (v := ?_) rfl (by kernel_rfl) (by kernel_rfl) (by kernel_rfl) (by kernel_rfl) (fun _ _ _ h => h) HS0.out ?_ rfl ?_
      rotate_left 1
      · intro w0 hS0
        obtain ⟨s1, s2, s3, s4, s5⟩ := hS0
        go_simp
        try with_reducible rfl
      try simp only [Act.put]
      refine wpTail_take (i := 12) (v := ?_) rfl (by kernel_rfl) (by kernel_rfl) (by kernel_rfl) (by kernel_rfl) (fun _ _ _ h => h) HS0.out ?_ rfl ?_
      rotate_left 1
      · intro w0 hS0
        obtain ⟨s1, s2, s3, s4, s5⟩ := hS0
        go_simp
        try with_reducible rfl
      try simp only [Act.put]
      refine wpTail_take (i := 13) (v := ?_) rfl (by kernel_rfl) (by kernel_rfl) (by kernel_rfl) (by kernel_rfl) (fun _ _ _ h => h) HS0.out ?_ rfl ?_
      rotate_left 1
      · intro w0 hS0
        obtain ⟨s1, s2, s3, s4, s5⟩ := hS0
        go_simp
        try with_reducible rfl
      try simp only [Act.put]
      refine wpTail_take (i := 14) (v := ?_) rfl (by kernel_rfl) (by kernel_rfl) (by kernel_rfl) (by kernel_rfl) (fun _ _ _ h => h) HS0.out ?_ rfl ?_
      rotate_left 1
      · intro w0 hS0
        obtain ⟨s1, s2, s3, s4, s5⟩ := hS0
        go_simp
        try with_reducible rfl
      try simp only [Act.put]
      refine wpTail_take (i := 15) (v := ?_) rfl (by kernel_rfl) (by kernel_rfl) (by kernel_rfl) (by kernel_rfl) (fun _ _ _ h => h) HS0.out ?_ rfl ?_
      rotate_left 1
      · intro w0 hS0
        obtain ⟨s1, s2, s3, s4, s5⟩ := hS0
        go_simp
        try with_reducible rfl
      try simp only [Act.put]
      refine wpTail_take (i := 16) (v := ?_) rfl (by kernel_rfl) (by kernel_rfl) (by kernel_rfl) (by kernel_rfl) (fun _ _ _ h => h) HS0.out ?_ rfl ?_
      rotate_left 1
      · intro w0 hS0
        obtain ⟨s1, s2, s3, s4, s5⟩ := hS0
        go_simp
        try with_reducible rfl
      try simp only [Act.put]
      refine wpTail_take (i := 17) (v := ?_) rfl (by kernel_rfl) (by kernel_rfl) (by kernel_rfl) (by kernel_rfl) (fun _ _ _ h => h) HS0.out ?_ rfl ?_
      rotate_left 1
      · intro w0 hS0
        obtain ⟨s1, s2, s3, s4, s5⟩ := hS0
        go_simp
        try with_reducible rfl
      try simp only [Act.put]
      refine wpTail_take (i := 18) (v := ?_) rfl (by kernel_rfl) (by kernel_rfl) (by kernel_rfl) (by kernel_rfl) (fun _ _ _ h => h) HS0.out ?_ rfl ?_
      rotate_left 1
      · intro w0 hS0
        obtain ⟨s1, s2, s3, s4, s5⟩ := hS0
        go_simp
        try with_reducible rfl
      try simp only [Act.put]
      refine wpTail_take (i := 19) (v := ?_) rfl (by kernel_rfl) (by kernel_rfl) (by kernel_rfl) (by kernel_rfl) (fun _ _ _ h => h) HS0.out ?_ rfl ?_
      rotate_left 1
      · intro w0 hS0
        obtain ⟨s1, s2, s3, s4, s5⟩ := hS0
        go_simp
        try with_reducible rfl
      try simp only [Act.put]
      refine wpTail_take (i := 20) (v := ?_) rfl (by kernel_rfl) (by kernel_rfl) (by kernel_rfl) (by kernel_rfl) (fun _ _ _ h => h) HS0.out ?_ rfl ?_
      rotate_left 1
      · intro w0 hS0
        obtain ⟨s1, s2, s3, s4, s5⟩ := hS0
        go_simp
        try with_reducible rfl
      try simp only [Act.put]
      refine wpTail_take (i := 21) (v := ?_) rfl (by kernel_rfl) (by kernel_rfl) (by kernel_rfl) (by kernel_rfl) (fun _ _ _ h => h) HS0.out ?_ rfl ?_
      rotate_left 1
      · intro w0 hS0
        obtain ⟨s1, s2, s3, s4, s5⟩ := hS0
        go_simp
        try with_reducible rfl
      try simp only [Act.put]
      refine wpTail_take (i := 22) (v := ?_) rfl (by kernel_rfl) (by kernel_rfl) (by kernel_rfl) (by kernel_rfl) (fun _ _ _ h => h) HS0.out ?_ rfl ?_
      rotate_left 1
      · intro w0 hS0
        obtain ⟨s1, s2, s3, s4, s5⟩ := hS0
        go_simp
        try with_reducible rfl
      try simp only [Act.put]
      refine wpTail_take (i := 23) (v := ?_) rfl (by kernel_rfl) (by kernel_rfl) (by kernel_rfl) (by kernel_rfl) (fun _ _ _ h => h) HS0.out ?_ rfl ?_
      rotate_left 1
      · intro w0 hS0
        obtain ⟨s1, s2, s3, s4, s5⟩ := hS0
        go_simp
        try with_reducible rfl
      try simp only [Act.put]
      refine wpTail_take (i := 24) (v := ?_) rfl (by kernel_rfl) (by kernel_rfl) (by kernel_rfl) (by kernel_rfl) (fun _ _ _ h => h) HS0.out ?_ rfl ?_
      rotate_left 1
      · intro w0 hS0
        obtain ⟨s1, s2, s3, s4, s5⟩ := hS0
        go_simp
        try with_reducible rfl
      try simp only [Act.put]
      refine wpTail_step (i := 25) rfl (by kernel_rfl) (fun K hK => ?_)
      go_simp
      refine hK.out _ _ HS1.out ?_
      clear hK K
      try simp only [Act.put]
      refine wpTail_step (i := 26) rfl (by kernel_rfl) (fun K hK => ?_)
      refine step_append_int rfl (.tmp 45) (.tmp 53) rfl 0 _ L _ rfl ((HQA.out.alloc _).drew) z ⟨w.heap.size, 0, none⟩ rfl (cell_new_at w _ _ rfl) hL19 (Nat.zero_le _) ?_
      intro g6 cap6 w6 hV6 hb6 hg6 ho6
      obtain ⟨hs6, k6⟩ := HK.out _ _ HB1.out hg6
      have HS6 := Lib.hid hs6
      have k5 := hs6.2.2.2.2
      refine hK.out _ _ HS6.out ?_
      clear hK K
      try simp only [Act.put]
      refine wpTail_take (i := 27) (v := ?_) rfl (by kernel_rfl) (by kernel_rfl) (by kernel_rfl) (by kernel_rfl) (fun _ _ _ h => h) HS6.out ?_ rfl ?_
      rotate_left 1
      · intro w0 hS0
        obtain ⟨s1, s2, s3, s4, s5⟩ := hS0
        go_simp
        try with_reducible rfl
      try simp only [Act.put]
      refine wpTail_last rfl (by kernel_rfl) (by kernel_rfl) (fun K hK => ?_)
      go_simp
      refine hK.out _ _ ?_
      clear hK K
      have HN : Hid (∃ lab' A', A'.p = A.p ∧ AN (w6.setCell ⟨A.BW x, y, none⟩ (.slice (some ⟨g6, 0, none⟩) (L + 1) cap6)) lab' A' n t K (s.put x y) ∧ AF lab w lab' (w6.setCell ⟨A.BW x, y, none⟩ (.slice (some ⟨g6, 0, none⟩) (L + 1) cap6))) := by
        obtain rfl := HLL.out
        have hlt6 := ownsRow_lt hV6 g6 rfl
        have hgl : lab g6 = [8, x, y] ∨ w.heap.size ≤ g6 := by
          rcases ho6 with e | e
          · exact .inl (HQB.out g6 e)
          · exact .inr (by rw [e]; simp)
        have hsz : w.heap.size ≤ w6.heap.size := Nat.le_trans HB1.out.size hg6.size
        have hblk : ∀ b, b < w.heap.size → lab b ≠ [8, x, y] → w6.heap[b]? = w.heap[b]? := fun b hb hl =>
          (hg6.block b (Nat.lt_of_lt_of_le hb HB1.out.size) fun e => hl (HQB.out b e.symm)).trans (HB1.out.block b hb)
        have hlab : ∀ b, b < w.heap.size → (fun b => if b = g6 then [8, x, y] else lab b) b = lab b := fun b hb => by
          show (if b = g6 then [8, x, y] else lab b) = lab b
          by_cases e : b = g6
          · subst e
            rw [if_pos rfl]
            rcases hgl with h | h
            · exact h.symm
            · omega
          · rw [if_neg e]
        have hsw := HA.out.swap (lab' := fun b => if b = g6 then [8, x, y] else lab b) hx hy (fun b hb _ hl => hblk b hb hl) hsz hlab (fun b hb => by
            show (if b = g6 then [8, x, y] else lab b) = []
            rw [if_neg (by omega)]
            exact HA.out.free b (Nat.le_trans hsz hb)) (.slice (some ⟨g6, 0, none⟩) (l.length + 1) cap6) (l ++ [z]) ⟨by
            rw [List.length_append]
            refine OwnV.congr hV6 fun i hi => ?_
            unfold upd
            by_cases e : i = l.length
            · subst e; simp
            · rw [if_neg e]
              have : i < l.length := by simp at hi; omega
              simp [List.getD, List.getElem?_append_left this], fun g hg => by
            have : g6 = g := by simpa [Value.ownBlock] using hg
            subst this
            simp⟩
        refine ⟨_, { A with QV := fun p q => if p = x ∧ q = y then .slice (some ⟨g6, 0, none⟩) (l.length + 1) cap6 else A.QV p q }, rfl, (by rw [HP.out]; exact hsw), ⟨Touch.setCell ⟨hg6.os.trans HB1.out.os, hg6.tape.trans HB1.out.tape, hg6.output.trans HB1.out.output, hsz, fun b hb hl => hblk b hb fun e => hl (by rw [e]; simp)⟩ (.inl (by show lab (A.BW x) ≠ []; rw [HA.out.lw x hx]; simp)) _, hlab⟩⟩
      clear hV6 hb6 hg6 ho6 hs6 k5 k6 HS6 HS0 HS1 HB1 HK HQA HQB HLL HP HA
      go_wp2_with fail
      go_ret
      exact ⟨rfl, HN.out⟩
  · rcases near_cases n K a b with h1 | hk
    · exact absurd h1 h0
    obtain ⟨k, hk, hk0⟩ : ∃ k, nearE n K a b = k ∧ (k = 1 ∨ k = 2) := ⟨_, rfl, hk⟩
    have es : s.sendE n K a b = k := by
      unfold AS.sendE
      rw [if_neg (fun h => h0 h.1), hk]
    have en : s.send n K a b = s := by
      unfold AS.send
      rw [es, if_neg (by omega)]
    rw [es, en]
    have hcall := asyncNear_bad h h8 hk (by omega)
    have HC := Lib.hid hcall
    have HA := Lib.hid h
    have hev : errV k = errNo k := if_neg (by omega)
    rw [hev]
    clear h hcall h0 hk es en hk0 hev
    go_enter Tryd.func19, Tryd.ntmps19
    go_wp2_with fail
    refine HC.out.mono ?_
    rintro e w1 ⟨rfl, h1⟩
    subst w1
    clear HC
    go_wp2_with fail
    go_ret
    exact ⟨rfl, lab, A, rfl, HA.out, AF.refl _ _⟩

end Go.Proofs.YtminfghiejgieaaDoor

/- The net's Take. -/
namespace Go.Proofs.YtminfghiejgieaaDoor
open Go.RowKit
set_option linter.unusedVariables false

/-- What b has heard, node a's word anew; b's reckoning behind the first r nodes. -/
def takenA (s : AS) (a b : Nat) (d : Int) (l : List Int) : AS := ⟨s.f, fun p q => if p = b ∧ q = a then d else s.h p q, fun p q => if p = a ∧ q = b then l else s.q p q⟩
def reckA (s : AS) (K : Nat → Nat → Int) (b r : Nat) : AS := { s with f := upd s.f b (hearF K (s.h b) b r) }
theorem taken_come {s : AS} {a b : Nat} {d : Int} {l : List Int} (h : s.q a b = d :: l) : s.come a b = takenA s a b d l := by
  unfold AS.come takenA AS.first
  rw [h]
  rfl
theorem reck_think (s : AS) {n t b : Nat} (K : Nat → Nat → Int) (h : b ≠ t) : s.think n t K b = reckA s K b n := by
  unfold AS.think reckA upd
  congr 1
  funext i
  by_cases e : i = b
  · subst e
    rw [if_pos ⟨rfl, h⟩, if_pos rfl]
  · rw [if_neg fun h => e h.1, if_neg e]
theorem reck_self (s : AS) {n t : Nat} (K : Nat → Nat → Int) : s.think n t K t = s := by
  unfold AS.think
  obtain ⟨f, h, q⟩ := s
  congr 1
  funext i
  rw [if_neg fun h => h.2 rfl]
theorem AN.as {w : World} {lab : Nat → List Nat} {A : AAd} {n t : Nat} {K : Nat → Nat → Int} {s s' : AS} (h : AN w lab A n t K s) (e : s = s') : AN w lab A n t K s' := e ▸ h

set_option maxRecDepth 100000 in
set_option maxHeartbeats 1000000 in
theorem clone_own (ad : Addr) (n c : Nat) (f : Nat → Int) (w : World) (hA : Vec w (some ad) n f) (hn : n ≤ 1000000000000) :
    Calls Tryd.prog 48 #[.slice (some ad) n c] w fun e w' => ∃ v, e = .returned v ∧ OwnV w' w.heap.size v n f ∧ Below w.heap.size w w' := by
  have HW := Lib.hid (Vec.news (hA.keep ((Below.refl _ _).alloc (Nat.le_refl _) (.cells #[] 3))))
  clear hA
  obtain ⟨i0, hi0, hz0, hz1, hz2⟩ := info_parts infoIntV
  have HI := Lib.hid hi0
  have HZ := Lib.hid hz0
  have HZ1 := Lib.hid hz1
  have HZ2 := Lib.hid hz2
  clear hi0 hz0 hz1 hz2
  have HO : Hid ((w.alloc (.cells #[] 3)).ownsRow w.heap.size 3 1 (.slice (some ⟨w.heap.size, 0, none⟩) 0 0) 0 []) :=
    ⟨rfl, .inr ⟨w.heap.size, 0, #[], rfl, Nat.le_refl _, heap_alloc_new w _, Nat.le_refl _, Nat.zero_le _, rfl, rfl⟩⟩
  have hnil : ∀ w', (binOp .eql 24 (.slice (some ad) n c) (.slice none 0 0)).run Tryd.prog w' = .ok (.bool false) w' := fun w' => Lib.run_eql_slice_nil w' 24 3 (some ad) n c 0 0 Tryd.underlying24
  go_enter Tryd.func48, Tryd.ntmps48
  go_wp2_with (at_builtin; refine wpList_append_own_at _ rfl (.tmp 5) (.tmp 6) 24 rfl w.heap.size 3 i0 _ 1 8 Tryd.underlying24 HI.out HZ.out HZ1.out HZ2.out rfl (by decide) _ 0 [] rfl HO.out ad n c ((List.range n).map fun j => Value.int .i64 (f j)) rfl (by simp) HW.out (by simp [Value.oneCell']) (by unfold maxLen; omega) (by omega) (by simp) ?_)
  intro v1 w1 hown hgr hnz _
  have HB : Hid (Below w.heap.size w w1) := (Below.alloc (Below.refl _ _) (Nat.le_refl _) _).grown hgr (by simp) (fun k hk => by
    have : k = w.heap.size := by simpa [Value.ownBlock] using hk.symm
    omega)
  have HOW : Hid (OwnV w1 w.heap.size v1 n f) := by
    show OwnV w1 w.heap.size v1 n f
    unfold OwnV
    simpa using hown
  clear hown hgr hnz
  go_wp2_with fail
  go_ret
  exact ⟨v1, rfl, HOW.out, HB.out⟩

attribute [local go_sem high] run_min_pair run_max_pair

set_option maxRecDepth 100000 in
set_option maxHeartbeats 2000000 in
theorem asyncTake (lab : Nat → List Nat) (A : AAd) (n t : Nat) (K : Nat → Nat → Int) (s : AS) (a b : Int) (w : World) (h : AN w lab A n t K s) (h8 : n ≤ 8) (hK : ∀ i k, i < n → k < n → 0 ≤ K i k ∧ K i k ≤ 16) (hH : ∀ i k, i < n → k < n → 0 ≤ s.h i k ∧ s.h i k ≤ 16) (hQ : ∀ i k x, i < n → k < n → x ∈ s.q i k → 0 ≤ x ∧ x ≤ 16) (h20 : ∀ i k, i < n → k < n → (s.q i k).length ≤ 20) :
    Calls Tryd.prog 15 #[.pointer (some ⟨A.p, 0, none⟩), .int .i64 a, .int .i64 b] w fun e w' => e = .returned (.tuple #[.int .i64 (if s.takeE n K a b = 0 then s.first a.toNat b.toNat else 0), errV (s.takeE n K a b)]) ∧ ∃ lab' A', A'.p = A.p ∧ AN w' lab' A' n t K (s.take n t K a b) ∧ AF lab w lab' w' := by
  by_cases h0 : nearE n K a b = 0
  · have hcall := asyncNear_ok h h8 h0
    have HC := Lib.hid hcall
    clear hcall
    obtain ⟨x, y, rfl, rfl, hx, hy, hne, hk⟩ := near_zero h0
    have e1 : ((x : Int)).toNat = x := by omega
    have e2 : ((y : Int)).toNat = y := by omega
    have h8' : (n : Int) ≤ 8 := by omega
    have hx' : (x : Int) < n := by omega
    have hy' : (y : Int) < n := by omega
    have f2 := h.wayCell
    have r1 := h.way.cell hx
    have r2 := (h.wayr x hx).cell hy
    have hq := h.que x y hx hy
    obtain ⟨Aq, cq, hv⟩ := hq.len
    rw [hv] at r2
    by_cases hf : (s.q x y).length = 0
    · have es : s.takeE n K x y = 2 := by
        unfold AS.takeE
        rw [e1, e2, if_pos ⟨h0, hf⟩]
      have en : s.take n t K x y = s := by
        unfold AS.take
        rw [es, if_neg (by omega)]
      rw [es, en, if_neg (by omega)]
      rw [hf] at r2
      have HA := Lib.hid h
      clear h hq hv es en h0 e1 e2 hH hK hQ h20 hf
      go_enter Tryd.func15, Tryd.ntmps15
      go_wp2_with fail
      refine HC.out.mono ?_
      rintro e w1 ⟨rfl, h1⟩
      subst w1
      clear HC
      go_wp2_with fail
      go_ret2
      exact ⟨rfl, lab, A, rfl, HA.out, AF.refl _ _⟩
    · obtain ⟨d, l, hl⟩ : ∃ d l, s.q x y = d :: l := by
        cases hq : s.q x y with
        | nil => rw [hq] at hf; simp at hf
        | cons d l => exact ⟨d, l, rfl⟩
      have es : s.takeE n K x y = 0 := by
        unfold AS.takeE
        rw [e1, e2, if_neg (fun h => hf h.2)]
        exact h0
      have en : s.take n t K x y = (s.come x y).think n t K y := by
        unfold AS.take
        rw [es, if_pos rfl, e1, e2]
      have efi : s.first ((x : Int)).toNat ((y : Int)).toNat = d := by
        unfold AS.first
        rw [e1, e2, hl]
        rfl
      rw [es, en, if_pos rfl, efi]
      have hL20 := h20 x y hx hy
      have hd := hQ x y d hx hy (by rw [hl]; simp)
      rw [hl] at hq r2 hL20
      obtain ⟨L, hL⟩ : ∃ L, l.length = L := ⟨_, rfl⟩
      have hLL : (d :: l).length = L + 1 := by simp [hL]
      have hq' := hq
      unfold Que at hq'
      rw [hLL] at hq' r2 hL20
      rcases hq'.1.form with ⟨h0', -⟩ | ⟨g, c, hvv, -, hgl, hLc, hrow⟩
      · omega
      rw [hv] at hvv
      have hAq : Aq = some ⟨g, 0, none⟩ ∧ cq = c := by
        simp only [Value.slice.injEq] at hvv
        exact ⟨hvv.1, hvv.2.2⟩
      obtain ⟨rfl, rfl⟩ := hAq
      have d0 := hrow.cell (i := 0) (by omega)
      simp only [List.getD_cons_zero] at d0
      have hvec : Vec w (some ⟨g, 1, none⟩) L (fun i => l.getD i 0) := fun j hj => ⟨_, rfl, hgl, by
        have := hrow.cell (i := j + 1) (by omega)
        simp only [List.getD_cons_succ] at this
        rw [Addr.add_lit]
        show w.cell? ⟨g, 1 + j, none⟩ = _
        rw [Nat.add_comm]
        exact this⟩
      have HA := Lib.hid h
      have HV := Lib.hid hvec
      have HV0 : Hid (cq ≤ 1 → Vec w (some ⟨g, 0, none⟩) L (fun i => l.getD i 0)) := fun e j hj => absurd hj (by omega)
      have HHL := Lib.hid hl
      have HL := Lib.hid hL
      have hLi : (0 : Int) ≤ L := by omega
      have hLi' : ((0 : Nat) : Int) < ((L + 1 : Nat) : Int) := by omega
      have hcq1 : (1 : Int) ≤ cq := by omega
      have b0 : ((L : Int) + 1 == 0) = false := beq_false_of_ne (by omega)
      have b1 : (((L + 1 : Nat) : Int) == 0) = false := beq_false_of_ne (by omega)
      clear h hq hq' hv hvv hL hLL es en efi h0 e1 e2 hrow hvec hl hf
      go_enter Tryd.func15, Tryd.ntmps15
      go_wp2_with fail
      refine HC.out.mono ?_
      rintro e w1 ⟨rfl, h1⟩
      subst w1
      clear HC
      go_wp2_with fail
      all_goals
        first
          | (with_reducible refine (clone_own ⟨g, 1, none⟩ L _ _ w HV.out (by omega)).mono ?_)
          | (with_reducible refine (clone_own ⟨g, 0, none⟩ L 0 (fun i => l.getD i 0) w (HV0.out (by omega)) (by omega)).mono ?_)
        rintro e w1 ⟨v, rfl, hV, hb⟩
        obtain ⟨B, c', hvB⟩ : ∃ B c', v = .slice B L c' := by
          rcases OwnV.form hV with ⟨h1, h2⟩ | ⟨g', c', h2, -⟩
          · exact ⟨none, 0, by rw [h2, h1]⟩
          · exact ⟨_, c', h2⟩
        subst hvB
        obtain ⟨lab2, hlab2⟩ : ∃ lab2 : Nat → List Nat, lab2 = fun b => if (Value.slice B L c').ownBlock = some b then [8, x, y] else lab b := ⟨_, rfl⟩
        obtain ⟨A2, hA2⟩ : ∃ A2 : AAd, A2 = { A with QV := fun p q => if p = x ∧ q = y then (.slice B L c') else A.QV p q } := ⟨_, rfl⟩
        have hN : AN (w1.setCell ⟨A.BW x, y, none⟩ (.slice B L c')) lab2 A2 n t K { s with q := fun p q => if p = x ∧ q = y then l else s.q p q } ∧ AF lab w lab2 (w1.setCell ⟨A.BW x, y, none⟩ (.slice B L c')) := by
          rw [hlab2, hA2]
          have hlt := ownsRow_lt hV
          have hge : ∀ g, (Value.slice B L c').ownBlock = some g → w.heap.size ≤ g := fun g hg => by
            have := World.ownsRow.lt hV g hg
            exact this.1
          have hlab : ∀ b, b < w.heap.size → (fun b => if (Value.slice B L c').ownBlock = some b then [8, x, y] else lab b) b = lab b := fun b hb' => by
            show (if (Value.slice B L c').ownBlock = some b then [8, x, y] else lab b) = lab b
            rw [if_neg fun e => by have := hge b e; omega]
          refine ⟨HA.out.swap (lab' := fun b => if (Value.slice B L c').ownBlock = some b then [8, x, y] else lab b) hx hy (fun b hb' _ _ => hb.block b hb') hb.size hlab (fun b hb' => by
            show (if (Value.slice B L c').ownBlock = some b then [8, x, y] else lab b) = []
            rw [if_neg fun e => by have := hlt b e; omega]
            exact HA.out.free b (Nat.le_trans hb.size hb')) (.slice B L c') l ⟨by rw [HL.out]; exact OwnV.lift hV (Nat.zero_le _), fun g hg => by
              show (if (Value.slice B L c').ownBlock = some g then [8, x, y] else lab g) = _
              rw [if_pos hg]⟩, (Touch.of_below hb).setCell (.inl (by show lab (A.BW x) ≠ []; rw [HA.out.lw x hx]; simp)) _, hlab⟩
        have hbl := (HA.out.wayr x hx).below hb (HA.out.wayr x hx).lt
        have q1 := hbl.cell hy
        have q2 := hbl.frozen y
        have ap : A2.p = A.p := by rw [hA2]
        have aw : A2.BW = A.BW := by rw [hA2]
        have HAP := Lib.hid ap
        clear hV hb hbl hlab2 hA2 d0 r1 r2 f2 HV HV0
        rw [← aw] at q1 q2 hN ⊢
        rw [← ap]
        clear ap aw
        obtain ⟨hN1, hN2⟩ := hN
        have f3 := hN1.heardCell
        have f5 := (hN1.hrd).cell hy
        have f6 := (hN1.hrdr y hy).cell hx
        have f7 := (hN1.hrdr y hy).frozen x
        have hN3 : AN ((w1.setCell ⟨A2.BW x, y, none⟩ (.slice B L c')).setCell ⟨A2.BH y, x, none⟩ (.int .i64 d)) lab2 A2 n t K (takenA s x y d l) := hN1.setHeard hy x d
        have hN4 : AF lab w lab2 ((w1.setCell ⟨A2.BW x, y, none⟩ (.slice B L c')).setCell ⟨A2.BH y, x, none⟩ (.int .i64 d)) := ⟨hN2.touch.setCell (by
          show lab (A2.BH y) ≠ [] ∨ w.heap.size ≤ A2.BH y
          rcases Nat.lt_or_ge (A2.BH y) w.heap.size with h | h
          · left; rw [← hN2.same _ h, hN1.lh y hy]; simp
          · exact .inr h) _, hN2.same⟩
        have f8 := hN3.toCell
        have f9 := hN3.farCell
        have f10 := hN3.costCell
        have f11 := hN3.cst.cell hy
        have f12 := hN3.far.cell hy
        have f13 := hN3.far.frozen y
        have HN3 := Lib.hid hN3
        have HN4 := Lib.hid hN4
        clear hN1 hN2 hN3 hN4
        have HTC := Lib.hid (taken_come HHL.out)
        by_cases hyt : y = t
        · have hb1 : (y == t) = true := by simp [hyt]
          have hb2 : ((y : Int) == (t : Int)) = true := by simp [hyt]
          have hb3 : ((y : Int) != (t : Int)) = false := by simp [hyt]
          have HYT := Lib.hid hyt
          clear hyt
          go_wp2_with fail
          go_ret2
          refine ⟨rfl, lab2, A2, HAP.out, HN3.out.as ?_, HN4.out⟩
          rw [HTC.out, ← HYT.out, reck_self]
        · have hb1 : (y == t) = false := beq_false_of_ne hyt
          have hb2 : ((y : Int) == (t : Int)) = false := beq_false_of_ne (by omega)
          have hb3 : ((y : Int) != (t : Int)) = true := by simp; omega
          have HYT := Lib.hid hyt
          obtain ⟨w3, hw3⟩ : ∃ w3, ((w1.setCell ⟨A2.BW x, y, none⟩ (.slice B L c')).setCell ⟨A2.BH y, x, none⟩ (.int .i64 d)) = w3 := ⟨_, rfl⟩
          have hN5 : AN (w3.setCell ⟨A2.gF, y, none⟩ (.int .i64 16)) lab2 A2 n t K (reckA (takenA s x y d l) K y 0) := by
            rw [← hw3]; exact HN3.out.setFar y 16
          have hN6 : AF lab w lab2 (w3.setCell ⟨A2.gF, y, none⟩ (.int .i64 16)) := by
            rw [← hw3]
            exact ⟨HN4.out.touch.setCell (by
              show lab A2.gF ≠ [] ∨ w.heap.size ≤ A2.gF
              rcases Nat.lt_or_ge A2.gF w.heap.size with h | h
              · left; rw [← HN4.out.same _ h, HN3.out.lF]; simp
              · exact .inr h) _, HN4.out.same⟩
          rw [← hw3] at hN5 hN6
          have f14 := hN5.costCell
          have f15 := hN5.cst.cell hy
          have HN5 := Lib.hid hN5
          have HN6 := Lib.hid hN6
          clear hyt hw3 hN5 hN6
          go_wp2_with fail
          obtain ⟨w4, hw4⟩ : ∃ w4, (((w1.setCell ⟨A2.BW x, y, none⟩ (.slice B L c')).setCell ⟨A2.BH y, x, none⟩ (.int .i64 d)).setCell ⟨A2.gF, y, none⟩ (.int .i64 16)) = w4 := ⟨_, rfl⟩
          rw [hw4] at HN5 HN6 ⊢
          clear hw4 f3 f5 f6 f7 f8 f9 f10 f11 f12 f13 f14 f15 q1 q2
          go_loopw [77] (fun q wr => ∃ k : Nat, k ≤ n ∧ q = .int .i64 k ∧ AN wr lab2 A2 n t K (reckA (takenA s x y d l) K y k) ∧ AF lab w lab2 wr) (fun q _ => n - (intOf q).toNat)
          case atStart => exact ⟨0, by omega, rfl, HN5.out, HN6.out⟩
          case round =>
            obtain ⟨k, hkn, rfl, hA, hF⟩ := hrel
            have HAR := Lib.hid hA
            have HFR := Lib.hid hF
            by_cases hlt : k < n
            · have hlt' : (k : Int) < n := by omega
              have g1 := (hA.cstr y hy).cell hlt
              obtain ⟨c, hc⟩ : ∃ c, K y k = c := ⟨_, rfl⟩
              rw [hc] at g1
              have hcr := hK y k hy hlt
              rw [hc] at hcr
              by_cases hky : k = y
              · have b2 : ((k : Int) == (y : Int)) = true := by simp [hky]
                have b3 : (k == y) = true := by simp [hky]
                have b4 : ((k : Int) != (y : Int)) = false := by simp [hky]
                have HSK : Hid (reckA (takenA s x y d l) K y k = reckA (takenA s x y d l) K y (k + 1)) := by
                  show reckA (takenA s x y d l) K y k = reckA (takenA s x y d l) K y (k + 1)
                  unfold reckA
                  conv => rhs; unfold hearF
                  rw [if_neg fun h => h.1 hky]
                clear hA hF hc hcr hky
                go_wp2_with fail
                go_roundw
                case rel => exact ⟨k + 1, by omega, by go_num, HAR.out.as HSK.out, HFR.out⟩
                case measure => simp [intOf]; omega
              · have b2 : ((k : Int) == (y : Int)) = false := beq_false_of_ne (by omega)
                have b3 : (k == y) = false := beq_false_of_ne hky
                have b4 : ((k : Int) != (y : Int)) = true := by simp; omega
                by_cases hc16 : c < 16
                · have b5 : decide (c < 16) = true := decide_eq_true hc16
                  obtain ⟨u, hu⟩ : ∃ u, hearF K ((takenA s x y d l).h y) y k = u := ⟨_, rfl⟩
                  obtain ⟨v, hv⟩ : ∃ v, (takenA s x y d l).h y k = v := ⟨_, rfl⟩
                  have m1 := hA.farCell
                  have m2 := hA.far.cell hy
                  have m3 := hA.heardCell
                  have m4 := hA.hrd.cell hy
                  have m5 := (hA.hrdr y hy).cell hlt
                  have m6 := hA.far.frozen y
                  have e1 : (reckA (takenA s x y d l) K y k).f y = u := by
                    show upd _ y _ y = u
                    rw [upd_same, hu]
                  have e2 : (reckA (takenA s x y d l) K y k).h y k = v := hv
                  rw [e1] at m2
                  rw [e2] at m5
                  have hvr : 0 ≤ v ∧ v ≤ 16 := by
                    rw [← hv]
                    show 0 ≤ (if y = y ∧ k = x then d else s.h y k) ∧ (if y = y ∧ k = x then d else s.h y k) ≤ 16
                    split
                    · exact hd
                    · exact hH y k hy hlt
                  have hur : u ≤ 16 := by rw [← hu]; exact hear_le y k
                  obtain ⟨hv0, hv1⟩ := hvr
                  obtain ⟨hc0, hc1⟩ := hcr
                  have HX : Hid (AN (wr.setCell ⟨A2.gF, y, none⟩ (.int .i64 (min u (c + v)))) lab2 A2 n t K (reckA (takenA s x y d l) K y (k + 1))) := by
                    refine AN.as (hA.setFar y (min u (c + v))) ?_
                    unfold reckA
                    conv => rhs; unfold hearF
                    rw [if_pos ⟨hky, by rw [hc]; exact hc16⟩, hu, hv, hc]
                    simp only [upd_upd]
                  have HY : Hid (AF lab w lab2 (wr.setCell ⟨A2.gF, y, none⟩ (.int .i64 (min u (c + v))))) := ⟨hF.touch.setCell (by
                    show lab A2.gF ≠ [] ∨ w.heap.size ≤ A2.gF
                    rcases Nat.lt_or_ge A2.gF w.heap.size with h | h
                    · left; rw [← hF.same _ h, hA.lF]; simp
                    · exact .inr h) _, hF.same⟩
                  clear hA hF hc hky e1 e2 hu hv
                  go_wp2_with fail
                  refine wp_region_quiet_tail 26 (by kernel_rfl) (by kernel_rfl) ?_
                  simp only [List.take_succ_cons, List.take_zero, List.drop_succ_cons, List.drop_zero]
                  repeat (go_big_quiet_step (fail))
                  refine wpQuiet_nil ?_
                  go_wp2_with fail
                  go_roundw
                  case rel => exact ⟨k + 1, by omega, by go_num, HX.out.drewN 1, HY.out.trans ⟨(Touch.refl _ _).drew, fun _ _ => rfl⟩⟩
                  case measure => simp [intOf]; omega
                · have b5 : decide (c < 16) = false := decide_eq_false hc16
                  have HSK : Hid (reckA (takenA s x y d l) K y k = reckA (takenA s x y d l) K y (k + 1)) := by
                    show reckA (takenA s x y d l) K y k = reckA (takenA s x y d l) K y (k + 1)
                    unfold reckA
                    conv => rhs; unfold hearF
                    rw [if_neg fun h => hc16 (by rw [← hc]; exact h.2)]
                  clear hA hF hc hcr hky
                  go_wp2_with fail
                  go_roundw
                  case rel => exact ⟨k + 1, by omega, by go_num, HAR.out.as HSK.out, HFR.out⟩
                  case measure => simp [intOf]; omega
            · have ek : k = n := by omega
              subst ek
              clear hA hF
              go_wp2_with fail
              go_ret2
              refine ⟨rfl, lab2, A2, HAP.out, HAR.out.as ?_, HFR.out⟩
              rw [HTC.out, reck_think _ _ HYT.out]
  · rcases near_cases n K a b with h1 | hk
    · exact absurd h1 h0
    obtain ⟨k, hk, hk0⟩ : ∃ k, nearE n K a b = k ∧ (k = 1 ∨ k = 2) := ⟨_, rfl, hk⟩
    have es : s.takeE n K a b = k := by
      unfold AS.takeE
      rw [if_neg (fun h => h0 h.1), hk]
    have en : s.take n t K a b = s := by
      unfold AS.take
      rw [es, if_neg (by omega)]
    rw [es, en]
    have hcall := asyncNear_bad h h8 hk (by omega)
    have HC := Lib.hid hcall
    have HA := Lib.hid h
    have hev : errV k = errNo k := if_neg (by omega)
    rw [hev, if_neg (by omega)]
    clear h hcall h0 hk es en hk0 hev hH hK hQ h20
    go_enter Tryd.func15, Tryd.ntmps15
    go_wp2_with fail
    refine HC.out.mono ?_
    rintro e w1 ⟨rfl, h1⟩
    subst w1
    clear HC
    go_wp2_with fail
    go_ret2
    exact ⟨rfl, lab, A, rfl, HA.out, AF.refl _ _⟩

end Go.Proofs.YtminfghiejgieaaDoor

/- The net in the middle of New: its ways and what is heard grow row by row. -/
namespace Go.Proofs.YtminfghiejgieaaDoor
open Go.RowKit
set_option linter.unusedVariables false

theorem infoRowRow : (Tryd.prog.info? 34).map (fun i => (i.zero, i.size, i.bytes)) = some (some (.slice none 0 0), 1, 24) := by kernel_rfl

/-- A slice of i rows, n elements each, of the call's own. -/
def OwnT (w : World) (e : TypeId) (v : Value) (i n : Nat) (B C : Nat → Nat) : Prop := w.ownsRow 0 e 1 v i ((List.range i).map fun r => .slice (some ⟨B r, 0, none⟩) n (C r))

section
variable {w w' : World} {e : TypeId} {v : Value} {i n : Nat} {B C B' C' : Nat → Nat}
theorem OwnT.nil (w : World) (e : TypeId) (n : Nat) (B C : Nat → Nat) : OwnT w e (.slice none 0 0) 0 n B C := World.ownsRow_nil _ _ _ _
theorem OwnT.same (h : OwnT w e v i n B C) (hs : ∀ g, v.ownBlock = some g → w'.heap[g]? = w.heap[g]?) : OwnT w' e v i n B C := by
  refine ⟨h.1, ?_⟩
  rcases h.2 with h' | ⟨g, cap, cur, hv, hb, hg, hrest⟩
  · exact .inl h'
  · exact .inr ⟨g, cap, cur, hv, hb, (hs g (by rw [hv]; rfl)).trans hg, hrest⟩
theorem OwnT.snoc {b c : Nat} (h : w.ownsRow 0 e 1 v (i + 1) (((List.range i).map fun r => Value.slice (some ⟨B r, 0, none⟩) n (C r)) ++ [.slice (some ⟨b, 0, none⟩) n c])) : OwnT w e v (i + 1) n (upd B i b) (upd C i c) := by
  unfold OwnT
  rw [map_range_succ] at h
  have e1 : (List.range (i + 1)).map (upd (fun r => Value.slice (some ⟨B r, 0, none⟩) n (C r)) i (.slice (some ⟨b, 0, none⟩) n c)) = (List.range (i + 1)).map fun r => Value.slice (some ⟨upd B i b r, 0, none⟩) n (upd C i c r) := by
    apply List.map_congr_left
    intro j hj
    unfold upd
    split <;> rfl
  rw [← e1]
  exact h
end

/-- The net at block p, i ways' rows, j rows of what was heard. -/
structure AP (w : World) (lab : Nat → List Nat) (A : AAd) (n t i j : Nat) (vW vH : Value) (K : Nat → Nat → Int) (f : Nat → Int) : Prop where
  blk : Blk w A.p 75 #[.int .i64 t, .slice (some ⟨A.gC, 0, none⟩) n A.cC, vW, vH, .slice (some ⟨A.gF, 0, none⟩) n A.cF]
  cst : RowP w A.gC 24 n fun r => .slice (some ⟨A.BC r, 0, none⟩) n (A.CC r)
  cstr : ∀ r, r < n → RowP w (A.BC r) 3 n fun k => .int .i64 (K r k)
  way : OwnT w 34 vW i n A.BW A.CW
  wayr : ∀ r, r < i → RowP w (A.BW r) 24 n fun _ => .slice none 0 0
  hrd : OwnT w 24 vH j n A.BH A.CH
  hrdr : ∀ r, r < j → RowP w (A.BH r) 3 n fun _ => .int .i64 16
  far : RowP w A.gF 3 n fun k => .int .i64 (f k)
  lp : lab A.p = [0]
  lC : lab A.gC = [1]
  lc : ∀ r, r < n → lab (A.BC r) = [2, r]
  lW : ∀ g, vW.ownBlock = some g → lab g = [3]
  lw : ∀ r, r < i → lab (A.BW r) = [4, r]
  lH : ∀ g, vH.ownBlock = some g → lab g = [5]
  lh : ∀ r, r < j → lab (A.BH r) = [6, r]
  lF : lab A.gF = [7]
  free : ∀ b, w.heap.size ≤ b → lab b = []

section
variable {w wa w' : World} {lab lab' : Nat → List Nat} {A : AAd} {n t i j : Nat} {vW vH : Value} {K : Nat → Nat → Int} {f : Nat → Int}
theorem AP.same (h : AP w lab A n t i j vW vH K f) (hs : ∀ b, b < w.heap.size → lab b ≠ [] → w'.heap[b]? = w.heap[b]?) (hz : w.heap.size ≤ w'.heap.size) : AP w' lab A n t i j vW vH K f := by
  have hh : ∀ {b : Nat} {l : List Nat}, lab b = l → l ≠ [] → b < w.heap.size → w'.heap[b]? = w.heap[b]? := fun e hl hb => hs _ hb (by rw [e]; exact hl)
  exact ⟨(hh h.lp (by simp) h.blk.lt).trans h.blk, h.cst.of_block (hh h.lC (by simp) h.cst.lt), fun r hr => (h.cstr r hr).of_block (hh (h.lc r hr) (by simp) (h.cstr r hr).lt), h.way.same fun g hg => hh (h.lW g hg) (by simp) (ownsRow_lt h.way g hg), fun r hr => (h.wayr r hr).of_block (hh (h.lw r hr) (by simp) (h.wayr r hr).lt), h.hrd.same fun g hg => hh (h.lH g hg) (by simp) (ownsRow_lt h.hrd g hg), fun r hr => (h.hrdr r hr).of_block (hh (h.lh r hr) (by simp) (h.hrdr r hr).lt), h.far.of_block (hh h.lF (by simp) h.far.lt), h.lp, h.lC, h.lc, h.lW, h.lw, h.lH, h.lh, h.lF, fun b hb => h.free b (Nat.le_trans hz hb)⟩
theorem AP.below (h : AP w lab A n t i j vW vH K f) (hb : Below w.heap.size w w') : AP w' lab A n t i j vW vH K f := h.same (fun b hlt _ => hb.block b hlt) hb.size

/-- One row of ways more: the append, then the store into the net. -/
theorem AP.growW (h : AP w lab A n t i j vW vH K f) (hb : Below w.heap.size w wa) {b c g cap : Nat} (hbn : w.heap.size ≤ b) (hrow : RowP wa b 24 n fun _ => .slice none 0 0)
    (ho : OwnT w' 34 (.slice (some ⟨g, 0, none⟩) (i + 1) cap) (i + 1) n (upd A.BW i b) (upd A.CW i c)) (hg : wa.grownBy w' vW.ownBlock) (hor : vW.ownBlock = some g ∨ g = wa.heap.size) :
    ∃ lab', AP (w'.setCell ⟨A.p, 2, none⟩ (.slice (some ⟨g, 0, none⟩) (i + 1) cap)) lab' { A with BW := upd A.BW i b, CW := upd A.CW i c } n t (i + 1) j (.slice (some ⟨g, 0, none⟩) (i + 1) cap) vH K f ∧ (∀ k, k < w.heap.size → lab' k = lab k) := by
  have hsz : w.heap.size ≤ w'.heap.size := Nat.le_trans hb.size hg.size
  have hblk : ∀ k, k < w.heap.size → lab k ≠ [3] → w'.heap[k]? = w.heap[k]? := fun k hk hl => (hg.block k (Nat.lt_of_lt_of_le hk hb.size) fun e => hl (h.lW k e.symm)).trans (hb.block k hk)
  have hbl : b < wa.heap.size := hrow.lt
  have hgb : g ≠ b := by
    rcases hor with e | e
    · have := ownsRow_lt h.way g e
      omega
    · omega
  have hgl : lab g = [3] ∨ w.heap.size ≤ g := by
    rcases hor with e | e
    · exact .inl (h.lW g e)
    · right; rw [e]; exact hb.size
  have hlt := ownsRow_lt ho g rfl
  obtain ⟨L, hL⟩ : ∃ L : Nat → List Nat, L = fun k => if k = g then [3] else if k = b then [4, i] else lab k := ⟨_, rfl⟩
  have hlab : ∀ k, k < w.heap.size → L k = lab k := fun k hk => by
    rw [hL]
    show (if k = g then [3] else if k = b then [4, i] else lab k) = lab k
    by_cases e : k = g
    · subst e
      rw [if_pos rfl]
      rcases hgl with h' | h'
      · exact h'.symm
      · omega
    · rw [if_neg e, if_neg (by omega)]
  have hLg : L g = [3] := by rw [hL]; simp
  have hLb : L b = [4, i] := by
    rw [hL]
    show (if b = g then [3] else if b = b then [4, i] else lab b) = _
    rw [if_neg (Ne.symm hgb), if_pos rfl]
  have hpl := h.blk.lt
  have hh : ∀ {k : Nat} {l : List Nat}, lab k = l → l ≠ [3] → l ≠ [0] → k < w.heap.size → (w'.setCell ⟨A.p, 2, none⟩ (.slice (some ⟨g, 0, none⟩) (i + 1) cap)).heap[k]? = w.heap[k]? := fun e h1 h2 hk =>
    (Below.heap_setCell _ _ _ _ (lab_ne e h.lp h2)).trans (hblk _ hk (by rw [e]; exact h1))
  have hL2 : ∀ {k : Nat} {l : List Nat}, lab k = l → k < w.heap.size → L k = l := fun e hk => (hlab _ hk).trans e
  have hbp : b ≠ A.p := by omega
  have hgp : g ≠ A.p := fun e => by
    rcases hgl with h' | h'
    · rw [e, h.lp] at h'; simp at h'
    · omega
  refine ⟨L, ⟨?_, h.cst.of_block (hh h.lC (by simp) (by simp) h.cst.lt), fun r hr => (h.cstr r hr).of_block (hh (h.lc r hr) (by simp) (by simp) (h.cstr r hr).lt), ho.same fun g' hg' => ?_, fun r hr => ?_, h.hrd.same fun g' hg' => hh (h.lH g' hg') (by simp) (by simp) (ownsRow_lt h.hrd g' hg'), fun r hr => (h.hrdr r hr).of_block (hh (h.lh r hr) (by simp) (by simp) (h.hrdr r hr).lt), h.far.of_block (hh h.lF (by simp) (by simp) h.far.lt), hL2 h.lp hpl, hL2 h.lC h.cst.lt, fun r hr => hL2 (h.lc r hr) (h.cstr r hr).lt, fun g' hg' => ?_, fun r hr => ?_, fun g' hg' => hL2 (h.lH g' hg') (ownsRow_lt h.hrd g' hg'), fun r hr => hL2 (h.lh r hr) (h.hrdr r hr).lt, hL2 h.lF h.far.lt, fun k hk => ?_⟩, hlab⟩
  · have h1 : Blk w' A.p _ _ := (hblk A.p hpl (by rw [h.lp]; simp)).trans h.blk
    have := h1.set_ 2 (.slice (some ⟨g, 0, none⟩) (i + 1) cap)
    simpa using this
  · have : g = g' := by simpa [Value.ownBlock] using hg'
    subst this
    exact Below.heap_setCell _ _ _ _ hgp
  · show RowP _ (upd A.BW i b r) _ n _
    unfold upd
    by_cases e : r = i
    · rw [if_pos e]
      refine (hrow.of_block (hg.block b hbl fun e' => ?_)).setOther hbp _
      have := ownsRow_lt h.way b e'.symm
      omega
    · rw [if_neg e]
      have hr' := h.wayr r (by omega)
      exact hr'.of_block (hh (h.lw r (by omega)) (by simp) (by simp) hr'.lt)
  · have : g = g' := by simpa [Value.ownBlock] using hg'
    subst this
    exact hLg
  · show L (upd A.BW i b r) = [4, r]
    unfold upd
    by_cases e : r = i
    · rw [if_pos e, hLb, e]
    · rw [if_neg e]
      exact hL2 (h.lw r (by omega)) (h.wayr r (by omega)).lt
  · rw [size_setCell] at hk
    have e1 : ¬ k = g := by omega
    have e2 : ¬ k = b := by have := hg.size; omega
    rw [hL]
    show (if k = g then [3] else if k = b then [4, i] else lab k) = []
    rw [if_neg e1, if_neg e2]
    exact h.free k (Nat.le_trans hsz hk)
/-- One row of what was heard more: the append, then the store into the net. -/
theorem AP.growH (h : AP w lab A n t i j vW vH K f) (hb : Below w.heap.size w wa) {b c g cap : Nat} (hbn : w.heap.size ≤ b) (hrow : RowP wa b 3 n fun _ => .int .i64 16)
    (ho : OwnT w' 24 (.slice (some ⟨g, 0, none⟩) (j + 1) cap) (j + 1) n (upd A.BH j b) (upd A.CH j c)) (hg : wa.grownBy w' vH.ownBlock) (hor : vH.ownBlock = some g ∨ g = wa.heap.size) :
    ∃ lab', AP (w'.setCell ⟨A.p, 3, none⟩ (.slice (some ⟨g, 0, none⟩) (j + 1) cap)) lab' { A with BH := upd A.BH j b, CH := upd A.CH j c } n t i (j + 1) vW (.slice (some ⟨g, 0, none⟩) (j + 1) cap) K f ∧ (∀ k, k < w.heap.size → lab' k = lab k) := by
  have hsz : w.heap.size ≤ w'.heap.size := Nat.le_trans hb.size hg.size
  have hblk : ∀ k, k < w.heap.size → lab k ≠ [5] → w'.heap[k]? = w.heap[k]? := fun k hk hl => (hg.block k (Nat.lt_of_lt_of_le hk hb.size) fun e => hl (h.lH k e.symm)).trans (hb.block k hk)
  have hbl : b < wa.heap.size := hrow.lt
  have hgb : g ≠ b := by
    rcases hor with e | e
    · have := ownsRow_lt h.hrd g e
      omega
    · omega
  have hgl : lab g = [5] ∨ w.heap.size ≤ g := by
    rcases hor with e | e
    · exact .inl (h.lH g e)
    · right; rw [e]; exact hb.size
  have hlt := ownsRow_lt ho g rfl
  obtain ⟨L, hL⟩ : ∃ L : Nat → List Nat, L = fun k => if k = g then [5] else if k = b then [6, j] else lab k := ⟨_, rfl⟩
  have hlab : ∀ k, k < w.heap.size → L k = lab k := fun k hk => by
    rw [hL]
    show (if k = g then [5] else if k = b then [6, j] else lab k) = lab k
    by_cases e : k = g
    · subst e
      rw [if_pos rfl]
      rcases hgl with h' | h'
      · exact h'.symm
      · omega
    · rw [if_neg e, if_neg (by omega)]
  have hLg : L g = [5] := by rw [hL]; simp
  have hLb : L b = [6, j] := by
    rw [hL]
    show (if b = g then [5] else if b = b then [6, j] else lab b) = _
    rw [if_neg (Ne.symm hgb), if_pos rfl]
  have hpl := h.blk.lt
  have hh : ∀ {k : Nat} {l : List Nat}, lab k = l → l ≠ [5] → l ≠ [0] → k < w.heap.size → (w'.setCell ⟨A.p, 3, none⟩ (.slice (some ⟨g, 0, none⟩) (j + 1) cap)).heap[k]? = w.heap[k]? := fun e h1 h2 hk =>
    (Below.heap_setCell _ _ _ _ (lab_ne e h.lp h2)).trans (hblk _ hk (by rw [e]; exact h1))
  have hL2 : ∀ {k : Nat} {l : List Nat}, lab k = l → k < w.heap.size → L k = l := fun e hk => (hlab _ hk).trans e
  have hbp : b ≠ A.p := by omega
  have hgp : g ≠ A.p := fun e => by
    rcases hgl with h' | h'
    · rw [e, h.lp] at h'; simp at h'
    · omega
  refine ⟨L, ⟨?_, h.cst.of_block (hh h.lC (by simp) (by simp) h.cst.lt), fun r hr => (h.cstr r hr).of_block (hh (h.lc r hr) (by simp) (by simp) (h.cstr r hr).lt), h.way.same fun g' hg' => hh (h.lW g' hg') (by simp) (by simp) (ownsRow_lt h.way g' hg'), fun r hr => (h.wayr r hr).of_block (hh (h.lw r hr) (by simp) (by simp) (h.wayr r hr).lt), ho.same fun g' hg' => ?_, fun r hr => ?_, h.far.of_block (hh h.lF (by simp) (by simp) h.far.lt), hL2 h.lp hpl, hL2 h.lC h.cst.lt, fun r hr => hL2 (h.lc r hr) (h.cstr r hr).lt, fun g' hg' => hL2 (h.lW g' hg') (ownsRow_lt h.way g' hg'), fun r hr => hL2 (h.lw r hr) (h.wayr r hr).lt, fun g' hg' => ?_, fun r hr => ?_, hL2 h.lF h.far.lt, fun k hk => ?_⟩, hlab⟩
  · have h1 : Blk w' A.p _ _ := (hblk A.p hpl (by rw [h.lp]; simp)).trans h.blk
    have := h1.set_ 3 (.slice (some ⟨g, 0, none⟩) (j + 1) cap)
    simpa using this
  · have : g = g' := by simpa [Value.ownBlock] using hg'
    subst this
    exact Below.heap_setCell _ _ _ _ hgp
  · show RowP _ (upd A.BH j b r) _ n _
    unfold upd
    by_cases e : r = j
    · rw [if_pos e]
      refine (hrow.of_block (hg.block b hbl fun e' => ?_)).setOther hbp _
      have := ownsRow_lt h.hrd b e'.symm
      omega
    · rw [if_neg e]
      have hr' := h.hrdr r (by omega)
      exact hr'.of_block (hh (h.lh r (by omega)) (by simp) (by simp) hr'.lt)
  · have : g = g' := by simpa [Value.ownBlock] using hg'
    subst this
    exact hLg
  · show L (upd A.BH j b r) = [6, r]
    unfold upd
    by_cases e : r = j
    · rw [if_pos e, hLb, e]
    · rw [if_neg e]
      exact hL2 (h.lh r (by omega)) (h.hrdr r (by omega)).lt
  · rw [size_setCell] at hk
    have e1 : ¬ k = g := by omega
    have e2 : ¬ k = b := by have := hg.size; omega
    rw [hL]
    show (if k = g then [5] else if k = b then [6, j] else lab k) = []
    rw [if_neg e1, if_neg e2]
    exact h.free k (Nat.le_trans hsz hk)
open Classical in
/-- The net in the beginning: its costs, and what is thought. -/
theorem AP.start {base g cg p gF cF : Nat} {B C : Nat → Nat} (h1 : 1 ≤ n) (hT : TabAt w base (.slice (some ⟨g, 0, none⟩) n cg) B C n n K) (hb : Below w.heap.size w w')
    (hp : w.heap.size ≤ p) (hF : w.heap.size ≤ gF) (hne : p ≠ gF) (hblk : Blk w' p 75 #[.int .i64 t, .slice (some ⟨g, 0, none⟩) n cg, .slice none 0 0, .slice none 0 0, .slice (some ⟨gF, 0, none⟩) n cF])
    (hfar : RowP w' gF 3 n fun k => .int .i64 (f k)) (hbase : base ≤ w.heap.size) :
    ∃ lab, AP w' lab ⟨p, g, 0, 0, gF, cg, 0, 0, cF, B, fun _ => 0, fun _ => 0, C, fun _ => 0, fun _ => 0, fun _ _ => .slice none 0 0⟩ n t 0 0 (.slice none 0 0) (.slice none 0 0) K f ∧ ∀ b, b < base → lab b = [] := by
  obtain ⟨g', c', e, hgb, hgl, hcell, hgB⟩ := hT.cells h1
  have e' : g = g' ∧ cg = c' := by
    simp only [Value.slice.injEq, Option.some.injEq, Addr.mk.injEq] at e
    exact ⟨e.1.1, e.2.2⟩
  obtain ⟨rfl, rfl⟩ := e'
  have hown := hT.below hb
  obtain ⟨L, hL⟩ : ∃ L : Nat → List Nat, L = fun k => if k = p then [0] else if k = g then [1] else if k = gF then [7] else if h : ∃ r, r < n ∧ B r = k then [2, Classical.choose h] else [] := ⟨_, rfl⟩
  have hBl : ∀ r, r < n → B r < w.heap.size := fun r hr => (hT.row r hr).2.lt
  have l0 : L p = [0] := by rw [hL]; simp
  have l1 : L g = [1] := by
    rw [hL]
    show (if g = p then [0] else if g = g then [1] else _) = [1]
    rw [if_neg (by omega), if_pos rfl]
  have l7 : L gF = [7] := by
    rw [hL]
    show (if gF = p then [0] else if gF = g then [1] else if gF = gF then [7] else _) = [7]
    rw [if_neg (by omega), if_neg (by omega), if_pos rfl]
  have l2 : ∀ r, r < n → L (B r) = [2, r] := fun r hr => by
    have hx := hBl r hr
    have hy := hgB r hr
    have hex : ∃ q, q < n ∧ B q = B r := ⟨r, hr, rfl⟩
    rw [hL]
    show (if B r = p then [0] else if B r = g then [1] else if B r = gF then [7] else if h : ∃ q, q < n ∧ B q = B r then [2, Classical.choose h] else []) = [2, r]
    rw [if_neg (by omega), if_neg (by omega), if_neg (by omega), dif_pos hex]
    have hs := Classical.choose_spec hex
    rw [hT.inj _ _ hs.1 hr hs.2]
  have lno : ∀ k, k ≠ p → k ≠ g → k ≠ gF → (∀ r, r < n → B r ≠ k) → L k = [] := fun k h0 h1 h2 h3 => by
    rw [hL]
    show (if k = p then [0] else if k = g then [1] else if k = gF then [7] else if h : ∃ q, q < n ∧ B q = k then [2, Classical.choose h] else []) = []
    rw [if_neg h0, if_neg h1, if_neg h2, dif_neg fun ⟨r, hr, e⟩ => h3 r hr e]
  refine ⟨L, ⟨hblk, (RowP.of_own hT.own).below hb hgl, fun r hr => (hown.row r hr).2, OwnT.nil _ _ _ _ _, fun r hr => absurd hr (by omega), OwnT.nil _ _ _ _ _, fun r hr => absurd hr (by omega), hfar, l0, l1, l2, fun g hg => (by cases hg), fun r hr => absurd hr (by omega), fun g hg => (by cases hg), fun r hr => absurd hr (by omega), l7, fun k hk => ?_⟩, fun k hk => ?_⟩
  · have h1 := hblk.lt
    have h2 := hfar.lt
    have h3 := hb.size
    refine lno k (by omega) (by omega) (by omega) fun r hr => ?_
    have := hBl r hr
    omega
  · refine lno k (by omega) (by omega) (by omega) fun r hr => ?_
    have := (hT.row r hr).1
    omega

/-- All rows are there. -/
theorem AP.done {A : AAd} (h1 : 1 ≤ n) (h : AP w lab A n t n n vW vH K (startF t)) : ∃ A', A'.p = A.p ∧ AN w lab A' n t K (AS.new t) := by
  rcases h.way.2 with ⟨-, h0⟩ | ⟨gW, cW, curW, rfl, -⟩
  · omega
  rcases h.hrd.2 with ⟨-, h0⟩ | ⟨gH, cH, curH, rfl, -⟩
  · omega
  exact ⟨{ A with gW := gW, cW := cW, gH := gH, cH := cH, QV := fun _ _ => .slice none 0 0 }, rfl, h.blk, h.cst, h.cstr, RowP.of_own h.way, h.wayr, fun r k hr hk => Que.nil _ _ _ _, RowP.of_own h.hrd, h.hrdr, h.far, h.lp, h.lC, h.lc, h.lW gW rfl, h.lw, h.lH gH rfl, h.lh, h.lF, h.free⟩
end

end Go.Proofs.YtminfghiejgieaaDoor

/- The net's New. -/
namespace Go.Proofs.YtminfghiejgieaaDoor
open Go.RowKit
set_option linter.unusedVariables false

theorem AP.netCell {w : World} {lab : Nat → List Nat} {A : AAd} {n t i j : Nat} {vW vH : Value} {K : Nat → Nat → Int} {f : Nat → Int} (h : AP w lab A n t i j vW vH K f) : w.cell? ⟨A.p, 2, none⟩ = some vW ∧ w.cell? ⟨A.p, 3, none⟩ = some vH ∧ w.frozen? ⟨A.p, 2, none⟩ = false ∧ w.frozen? ⟨A.p, 3, none⟩ = false :=
  ⟨by simpa using h.blk.cell 2, by simpa using h.blk.cell 3, h.blk.frozen 2, h.blk.frozen 3⟩

set_option maxRecDepth 100000 in
set_option maxHeartbeats 1000000 in
theorem asyncNew_bad (x : Int) (A : Option Addr) (m cp : Nat) (to : Int) (a b c : Nat → Int) (w : World) (hl : Lnk w A m a b c) (hm : m ≤ 9223372036854775807) (k : Int) (hk : k = 1 ∨ k = 3 ∨ k = 5) (h : FaultG x m a b c k) :
    Calls Tryd.prog 7 #[.int .i64 x, .slice A m cp, .int .i64 to] w fun e w' => e = .returned (.tuple #[.pointer none, errNo k]) ∧ Below w.heap.size w w' := by
  have hcall := costs_bad x A m cp a b c w hl hm k h
  have HC := Lib.hid hcall
  clear hcall hl h hm
  go_enter Tryd.func7, Tryd.ntmps7
  go_wp2_with fail
  refine HC.out.mono ?_
  rintro e w1 ⟨rfl, hb⟩
  have HB := Lib.hid hb
  clear hb HC
  rcases hk with rfl | rfl | rfl
  all_goals
    go_wp2_with fail
    go_ret2
    exact ⟨rfl, HB.out⟩

set_option maxRecDepth 100000 in
set_option maxHeartbeats 1000000 in
theorem asyncNew_range (n : Nat) (x : Int) (hx : x = (n : Int)) (A : Option Addr) (m cp : Nat) (to : Int) (a b c : Nat → Int) (w : World) (hl : Lnk w A m a b c) (hm : m ≤ 9223372036854775807) (hg : GoodG x m a b c) (ht : to < 0 ∨ n ≤ to) :
    Calls Tryd.prog 7 #[.int .i64 x, .slice A m cp, .int .i64 to] w fun e w' => e = .returned (.tuple #[.pointer none, errNo 1]) ∧ Below w.heap.size w w' := by
  have hcall := costs_ok n x hx A m cp a b c w hl hm hg
  have h8 : (n : Int) ≤ 8 := by have := hg.2.1; omega
  subst hx
  have HC := Lib.hid hcall
  clear hcall hl hm hg
  by_cases h0 : to < 0
  · have d1 : decide (to < 0) = true := decide_eq_true h0
    clear ht
    go_enter Tryd.func7, Tryd.ntmps7
    go_wp2_with fail
    refine HC.out.mono ?_
    rintro e w1 ⟨g, cg, B, C, rfl, -, -, hb⟩
    have HB := Lib.hid hb
    clear hb HC
    go_wp2_with fail
    go_ret2
    exact ⟨rfl, HB.out⟩
  · have d1 : decide (to < 0) = false := decide_eq_false h0
    have hge : (n : Int) ≤ to := by omega
    have d2 : decide ((n : Int) ≤ to) = true := decide_eq_true hge
    clear ht
    go_enter Tryd.func7, Tryd.ntmps7
    go_wp2_with fail
    refine HC.out.mono ?_
    rintro e w1 ⟨g, cg, B, C, rfl, -, -, hb⟩
    have HB := Lib.hid hb
    clear hb HC
    go_wp2_with fail
    go_ret2
    exact ⟨rfl, HB.out⟩

set_option maxRecDepth 100000 in
set_option maxHeartbeats 2000000 in
theorem asyncNew_ok (n : Nat) (x : Int) (hx : x = (n : Int)) (A : Option Addr) (m cp : Nat) (t : Nat) (y : Int) (hy : y = (t : Int)) (a b c : Nat → Int) (w : World) (hl : Lnk w A m a b c) (hm : m ≤ 9223372036854775807) (hg : GoodG x m a b c) (ht : t < n) :
    Calls Tryd.prog 7 #[.int .i64 x, .slice A m cp, .int .i64 y] w fun e w' => ∃ lab Ad, e = .returned (.tuple #[.pointer (some ⟨Ad.p, 0, none⟩), .nilIface]) ∧ AN w' lab Ad n t (costF m a b c) (AS.new t) ∧ (∀ b, b < w.heap.size → lab b = []) ∧ Below w.heap.size w w' := by
  have hcall := costs_ok n x hx A m cp a b c w hl hm hg
  have h1 : 1 ≤ n := by have := hg.1; omega
  have h8 : n ≤ 8 := by have := hg.2.1; omega
  have h8' : (n : Int) ≤ 8 := by omega
  have h1' : (1 : Int) ≤ n := by omega
  subst hx
  subst hy
  have ht' : (t : Int) < n := by omega
  have d1 : decide ((t : Int) < 0) = false := decide_eq_false (by omega)
  have d2 : decide (n ≤ t) = false := decide_eq_false (by omega)
  have hmk := run_make_row' (P := Tryd.prog) 34 24 (.slice none 0 0) 24 Tryd.underlying34 infoRow rfl .i64 .i64 n (by omega) (by omega)
  have HMK := Lib.hid hmk
  have HC := Lib.hid hcall
  clear hcall hl hm hg hmk
  go_enter Tryd.func7, Tryd.ntmps7
  go_wp2_with fail
  refine HC.out.mono ?_
  rintro e w1 ⟨g, cg, B, C, rfl, -, hT, hb⟩
  have HT := Lib.hid hT
  have HB := Lib.hid hb
  clear hT hb HC
  go_wp2_with fail
  have hcall := repeat_ints w1.heap.size n n 16 (w1.alloc (.cells #[.int .i64 16] 3)) rfl h1 h8 ((Blk.new w1 3 #[.int .i64 16]).cell 0)
  refine hcall.mono ?_
  clear hcall
  rintro e w2 ⟨rfl, hblk, hb2⟩
  have hz : (w1.alloc (.cells #[.int .i64 16] 3)).heap.size = w1.heap.size + 1 := by simp
  rw [hz] at hblk hb2 ⊢
  have hb3 : Below w1.heap.size w1 w2 := ((Below.refl _ _).alloc (Nat.le_refl _) _).trans (hb2.mono (by omega))
  have hlt2 := hblk.lt
  have hrow : RowP w2 (w1.heap.size + 1) 3 n fun _ => .int .i64 16 := ⟨_, hblk, by simp, fun i hi => by simp [hi]⟩
  have HB3 := Lib.hid hb3
  have HR := Lib.hid hrow
  obtain ⟨gF, hgF⟩ : ∃ gF, w1.heap.size + 1 = gF := ⟨_, rfl⟩
  rw [hgF] at HR hlt2 ⊢
  have HGF := Lib.hid hgF
  have HL2 := Lib.hid hlt2
  clear hblk hb2 hb3 hz hrow hgF hlt2
  have q1 := (HR.out.alloc (.cells #[.int .i64 t, .slice (some ⟨g, 0, none⟩) n cg, .slice none 0 0, .slice none 0 0, .slice (some ⟨gF, 0, none⟩) n n] 75)).cell ht
  have q2 := (HR.out.alloc (.cells #[.int .i64 t, .slice (some ⟨g, 0, none⟩) n cg, .slice none 0 0, .slice none 0 0, .slice (some ⟨gF, 0, none⟩) n n] 75)).frozen t
  have hap : ∃ lab A0, A0.p = w2.heap.size ∧ AP ((w2.alloc (.cells #[.int .i64 t, .slice (some ⟨g, 0, none⟩) n cg, .slice none 0 0, .slice none 0 0, .slice (some ⟨gF, 0, none⟩) n n] 75)).setCell ⟨gF, t, none⟩ (.int .i64 0)) lab A0 n t 0 0 (.slice none 0 0) (.slice none 0 0) (costF m a b c) (startF t) ∧ ∀ b, b < w.heap.size → lab b = [] := by
    have hgf := HGF.out
    have hl2 := HL2.out
    have hs1 := HB3.out.size
    have hbb : Below w1.heap.size w1 ((w2.alloc (.cells #[.int .i64 t, .slice (some ⟨g, 0, none⟩) n cg, .slice none 0 0, .slice none 0 0, .slice (some ⟨gF, 0, none⟩) n n] 75)).setCell ⟨gF, t, none⟩ (.int .i64 0)) := (HB3.out.alloc hs1 _).setCell (by show w1.heap.size ≤ gF; omega) _
    obtain ⟨lab, h, hb⟩ := AP.start (f := startF t) h1 HT.out hbb (p := w2.heap.size) (gF := gF) (cF := n) (t := t) hs1 (by omega) (by omega) ((Blk.new w2 _ _).far (by show w2.heap.size ≠ gF; omega) _) (((HR.out.alloc _).set t (.int .i64 0)).congr fun k _ => by
      unfold upd startF
      by_cases e : k = t <;> simp [e]) HB.out.size
    exact ⟨lab, _, rfl, h, hb⟩
  have HAP := Lib.hid hap
  have HB4 : Hid (Below w.heap.size w ((w2.alloc (.cells #[.int .i64 t, .slice (some ⟨g, 0, none⟩) n cg, .slice none 0 0, .slice none 0 0, .slice (some ⟨gF, 0, none⟩) n n] 75)).setCell ⟨gF, t, none⟩ (.int .i64 0))) := by
    have h1 := HB.out.size
    have h2 := HB3.out.size
    have h3 := HGF.out
    exact ((HB.out.trans (HB3.out.mono h1)).alloc (by omega) _).setCell (by show w.heap.size ≤ gF; omega) _
  have HSZ : Hid (w.heap.size ≤ w2.heap.size) := by
    have h1 := HB.out.size
    have h2 := HB3.out.size
    show w.heap.size ≤ w2.heap.size
    omega
  clear hap
  go_wp2_with fail
  obtain ⟨w4, hw4⟩ : ∃ w4, ((w2.alloc (.cells #[.int .i64 t, .slice (some ⟨g, 0, none⟩) n cg, .slice none 0 0, .slice none 0 0, .slice (some ⟨gF, 0, none⟩) n n] 75)).setCell ⟨gF, t, none⟩ (.int .i64 0)) = w4 := ⟨_, rfl⟩
  rw [hw4] at HAP HB4 ⊢
  obtain ⟨p0, hp0⟩ : ∃ p0, w2.heap.size = p0 := ⟨_, rfl⟩
  rw [hp0] at HAP HSZ ⊢
  clear hw4 hp0 q1 q2 HB3 HR HGF HL2 HT HB
  go_loopw [42] (fun q wr => ∃ i : Nat, i ≤ n ∧ q = .int .i64 i ∧ (∃ lab A0 vW vH, A0.p = p0 ∧ AP wr lab A0 n t i i vW vH (costF m a b c) (startF t) ∧ ∀ b, b < w.heap.size → lab b = []) ∧ Below w.heap.size w wr) (fun q _ => n - (intOf q).toNat)
  case atStart =>
    obtain ⟨lab, A0, h1, h2, h3⟩ := HAP.out
    exact ⟨0, by omega, rfl, ⟨lab, A0, _, _, h1, h2, h3⟩, HB4.out⟩
  case round =>
    obtain ⟨i, hi, rfl, ⟨lab, A0, vW, vH, hp, hA, hlow⟩, hbw⟩ := hrel
    have HA := Lib.hid hA
    have HLO := Lib.hid hlow
    have HBW := Lib.hid hbw
    have HP := Lib.hid hp
    rw [← hp] at HSZ ⊢
    clear hlow hbw hp HAP HB4
    by_cases hin : i < n
    · have hin' : (i : Int) < n := by omega
      obtain ⟨c2, -, c4, -⟩ := hA.netCell
      have hpl := hA.blk.lt
      obtain ⟨i0, hi0, hz0, hz1, hz2⟩ := info_parts infoRowRow
      have HI := Lib.hid hi0
      have HZ := Lib.hid hz0
      have HZ1 := Lib.hid hz1
      have HZ2 := Lib.hid hz2
      have hbA : Below wr.heap.size wr ((wr.alloc (.cells (madeCells #[.slice none 0 0] n) 24)).alloc (.cells #[.slice (some ⟨wr.heap.size, 0, none⟩) n n] 34)).drew := (((Below.refl _ _).alloc (Nat.le_refl _) _).alloc (by simp) _).drew
      have HBA := Lib.hid hbA
      have hmk := HMK.out
      clear hA hi0 hz0 hz1 hz2 hbA
      go_wp2_with fail
      go_region_law (refine step_append_lies _ rfl (.tmp 48) (.tmp 51) 73 rfl 0 34 i0 _ 1 24 Tryd.underlying73 HI.out HZ.out HZ1.out HZ2.out rfl (by decide) vW i _ rfl (HA.out.way.same fun g hg => HBA.out.block g (ownsRow_lt HA.out.way g hg)) ⟨wr.heap.size + 1, 0, none⟩ 1 1 [.slice (some ⟨wr.heap.size, 0, none⟩) n n] rfl rfl (cell_new_at _ _ _ (by simp)) (by simp [Value.oneCell']) (by omega) (by unfold maxLen; omega) (by omega) (Nat.zero_le _) _ rfl ?_
                     intro g5 cap5 w5 hO5 hg5 ho5 hl5
                     have hp5 : some A0.p ≠ vW.ownBlock := fun e => by
                       have h1 := HA.out.lW A0.p e.symm
                       rw [HA.out.lp] at h1
                       simp at h1
                     have hc5 := ((hg5.cell_far ⟨A0.p, 2, none⟩ (Nat.lt_of_lt_of_le hpl HBA.out.size) hp5).trans (HBA.out.cell hpl (p := ⟨A0.p, 2, none⟩))).trans c2
                     have hf5 := ((hg5.frozen_far ⟨A0.p, 2, none⟩ (Nat.lt_of_lt_of_le hpl HBA.out.size) hp5).trans (HBA.out.frozen hpl (p := ⟨A0.p, 2, none⟩))).trans c4)
      all_goals
        have hgrow := HA.out.growW HBA.out (b := wr.heap.size) (c := n) (g := g5) (cap := cap5) (Nat.le_refl _) ((RowP.made wr (.slice none 0 0) n 24).alloc _) (OwnT.snoc hO5) hg5 (ho5.imp id (fun e => e.trans (by simp)))
        obtain ⟨lab6, hA6, hlab6⟩ := hgrow
        have HA6 := Lib.hid hA6
        have HLAB6 := Lib.hid hlab6
        have HB6 : Hid (Below w.heap.size w (w5.setCell ⟨A0.p, 2, none⟩ (.slice (some ⟨g5, 0, none⟩) (i + 1) cap5))) := by
          have h1 := HSZ.out
          refine ((HBW.out.trans (HBA.out.mono HBW.out.size)).trans ⟨hg5.os, hg5.tape, hg5.output, hg5.size, fun k hk => hg5.block k (by have := HBW.out.size; have := HBA.out.size; omega) fun e => ?_⟩).setCell h1 _
          have := HA.out.lW k e.symm
          rw [HLO.out k hk] at this
          cases this
        have HSZ6 : Hid (w.heap.size ≤ (w5.setCell ⟨A0.p, 2, none⟩ (.slice (some ⟨g5, 0, none⟩) (i + 1) cap5)).heap.size) := HB6.out.size
        have hwr6 : Hid (wr.heap.size ≤ (w5.setCell ⟨A0.p, 2, none⟩ (.slice (some ⟨g5, 0, none⟩) (i + 1) cap5)).heap.size) := by
          show wr.heap.size ≤ _
          rw [size_setCell]
          exact Nat.le_trans HBA.out.size hg5.size
        clear hO5 hg5 ho5 hl5 hp5 c2 c4 hA6 hlab6 hmk
        go_wp2_with fail
        obtain ⟨w6, hw6⟩ : ∃ w6, w5.setCell ⟨A0.p, 2, none⟩ (.slice (some ⟨g5, 0, none⟩) (i + 1) cap5) = w6 := ⟨_, rfl⟩
        rw [hw6] at HA6 HB6 HSZ6 hwr6 ⊢
        clear hw6 hc5 hf5
        obtain ⟨-, c3, -, c5⟩ := HA6.out.netCell
        have hpl6 := HA6.out.blk.lt
        have hcl := repeat_ints w6.heap.size n n 16 (w6.alloc (.cells #[.int .i64 16] 3)).drew rfl h1 h8 ((Blk.new w6 3 #[.int .i64 16]).cell 0)
        have hz6 : (w6.alloc (.cells #[.int .i64 16] 3)).drew.heap.size = w6.heap.size + 1 := by show (w6.alloc (.cells #[.int .i64 16] 3)).heap.size = _; simp
        rw [hz6] at hcl
        have HCL := Lib.hid hcl
        have hb61 : Below w6.heap.size w6 (w6.alloc (.cells #[.int .i64 16] 3)).drew := ((Below.refl _ _).alloc (Nat.le_refl _) _).drew
        have HB61 := Lib.hid hb61
        have hca : (w6.alloc (.cells #[.int .i64 16] 3)).cell? ⟨A0.p, 3, none⟩ = some vH := (((Below.refl w6.heap.size w6).alloc (Nat.le_refl _) _).cell hpl6 (p := ⟨A0.p, 3, none⟩)).trans c3
        obtain ⟨j0, hj0, hy0, hy1, hy2⟩ := info_parts infoRow
        have HJ := Lib.hid hj0
        have HY := Lib.hid hy0
        have HY1 := Lib.hid hy1
        have HY2 := Lib.hid hy2
        clear hcl hz6 hb61 hj0 hy0 hy1 hy2
        go_region_law (first
          | (go_simp
             refine HCL.out.mono ?_
             rintro e w7 ⟨rfl, hblk7, hb7⟩
             have hb67 : Below w6.heap.size w6 w7 := HB61.out.trans (hb7.mono (by omega))
             have hc7 := (hb67.cell hpl6 (p := ⟨A0.p, 3, none⟩)).trans c3
             have hc7a : (w7.alloc (.cells #[.slice (some ⟨w6.heap.size + 1, 0, none⟩) n n] 24)).cell? ⟨A0.p, 3, none⟩ = some vH := (((Below.refl w7.heap.size w7).alloc (Nat.le_refl _) _).cell (World.block_lt_of_cell? w7 _ hc7)).trans hc7
             have HB67 := Lib.hid hb67
             have HBK7 := Lib.hid hblk7
             clear hblk7 hb7 hb67)
          | (refine step_append_lies _ rfl (.tmp 59) (.tmp 63) 34 rfl 0 24 j0 _ 1 24 Tryd.underlying34 HJ.out HY.out HY1.out HY2.out rfl (by decide) vH i _ rfl (HA6.out.hrd.same fun g hg => (HB67.out.alloc HB67.out.size _).block g (ownsRow_lt HA6.out.hrd g hg)) ⟨w7.heap.size, 0, none⟩ 1 1 [.slice (some ⟨w6.heap.size + 1, 0, none⟩) n n] rfl rfl (cell_new_at _ _ _ rfl) (by simp [Value.oneCell']) (by omega) (by unfold maxLen; omega) (by omega) (Nat.zero_le _) _ rfl ?_
             intro g8 cap8 w8 hO8 hg8 ho8 hl8
             have hp8 : some A0.p ≠ vH.ownBlock := fun e => by
               have h1 := HA6.out.lH A0.p e.symm
               rw [HA6.out.lp] at h1
               simp at h1
             have hb68 : Below w6.heap.size w6 (w7.alloc (.cells #[.slice (some ⟨w6.heap.size + 1, 0, none⟩) n n] 24)) := HB67.out.alloc HB67.out.size _
             have hc8 := ((hg8.cell_far ⟨A0.p, 3, none⟩ (Nat.lt_of_lt_of_le hpl6 hb68.size) hp8).trans (hb68.cell hpl6 (p := ⟨A0.p, 3, none⟩))).trans c3
             have hf8 := ((hg8.frozen_far ⟨A0.p, 3, none⟩ (Nat.lt_of_lt_of_le hpl6 hb68.size) hp8).trans (hb68.frozen hpl6 (p := ⟨A0.p, 3, none⟩))).trans c5
             have HB68 := Lib.hid hb68
             clear hb68))
        all_goals
          have hrow8 : RowP (w7.alloc (.cells #[.slice (some ⟨w6.heap.size + 1, 0, none⟩) n n] 24)) (w6.heap.size + 1) 3 n fun _ => .int .i64 16 := RowP.alloc ⟨_, HBK7.out, by simp, fun i hi => by simp [hi]⟩ _
          obtain ⟨lab9, hA9, hlab9⟩ := HA6.out.growH HB68.out (b := w6.heap.size + 1) (c := n) (g := g8) (cap := cap8) (by omega) hrow8 (OwnT.snoc hO8) hg8 ho8
          have HA9 := Lib.hid hA9
          have HLAB9 := Lib.hid hlab9
          have HB9 : Hid (Below w.heap.size w (w8.setCell ⟨A0.p, 3, none⟩ (.slice (some ⟨g8, 0, none⟩) (i + 1) cap8))) := by
            have h1 := HSZ.out
            refine ((HB6.out.trans (HB68.out.mono HSZ6.out)).trans ⟨hg8.os, hg8.tape, hg8.output, hg8.size, fun k hk => hg8.block k (by have := HSZ6.out; have := HB68.out.size; omega) fun e => ?_⟩).setCell h1 _
            have h2 := HA6.out.lH k e.symm
            rw [HLAB6.out k (by have := HBW.out.size; omega), HLO.out k hk] at h2
            cases h2
          clear hO8 hg8 ho8 hl8 hp8 hA9 hlab9 hrow8 c3 c5
          go_wp2_with fail
          go_roundw
          case rel => exact ⟨i + 1, by omega, by go_num, ⟨lab9, _, _, _, (by rfl), HA9.out, fun b hb => by rw [HLAB9.out b (by have := HSZ6.out; omega), HLAB6.out b (by have := HBW.out.size; omega)]; exact HLO.out b hb⟩, HB9.out⟩
          case measure => simp [intOf]; omega
    · have ei : i = n := by omega
      subst ei
      clear hA
      go_wp2_with fail
      go_ret2
      obtain ⟨A1, hA1, hN⟩ := HA.out.done h1
      exact ⟨lab, A1, (by rw [hA1]; rfl), hN, HLO.out, HBW.out⟩

end Go.Proofs.YtminfghiejgieaaDoor

/- The fact of a net; what a net's owner sees of what it does. -/
namespace Go.Proofs.YtminfghiejgieaaDoor
open Go.RowKit
set_option linter.unusedVariables false

section
variable {w w' : World} {lab lab' : Nat → List Nat} {A : AAd} {n t : Nat} {K : Nat → Nat → Int} {D : Nat → Int} {s : AS}
/-- What Take asks. -/
theorem AInv.asks (hI : AInv n t K D s) (hD : ∀ i, i < n → 0 ≤ D i) : (∀ i k, i < n → k < n → 0 ≤ s.h i k ∧ s.h i k ≤ 16) ∧ (∀ i k x, i < n → k < n → x ∈ s.q i k → 0 ≤ x ∧ x ≤ 16) :=
  ⟨fun i k hi hk => ⟨by have := hI.heard hk hi; have := hI.low k hk; have := hD k hk; omega, hI.most k i hk hi⟩, fun i k x hi hk hx => by
    have h1 := hI.way hi hk hx
    have h2 := hI.low i hi
    have h3 := hD i hi
    have h4 := hI.most i k hi hk
    omega⟩

theorem netSend (a b : Int) (h : AN w lab A n t K s) (hI : AInv n t K D s) (h8 : n ≤ 8) :
    Calls Tryd.prog 19 #[.pointer (some ⟨A.p, 0, none⟩), .int .i64 a, .int .i64 b] w fun e w' => ∃ v, e = .returned v ∧ ∃ lab' A', A'.p = A.p ∧ AN w' lab' A' n t K (s.send n K a b) ∧ AInv n t K D (s.send n K a b) ∧ AF lab w lab' w' :=
  (asyncSend lab A n t K s a b w h h8).mono fun e w' ⟨he, lab', A', h1, h2, h3⟩ => ⟨_, he, lab', A', h1, h2, hI.send a b, h3⟩
theorem netTake (a b : Int) (h : AN w lab A n t K s) (hI : AInv n t K D s) (h8 : n ≤ 8) (hK : CostM n K) (hR : RoundK n t K D D) (hD : ∀ i, i < n → 0 ≤ D i) :
    Calls Tryd.prog 15 #[.pointer (some ⟨A.p, 0, none⟩), .int .i64 a, .int .i64 b] w fun e w' => ∃ v, e = .returned v ∧ ∃ lab' A', A'.p = A.p ∧ AN w' lab' A' n t K (s.take n t K a b) ∧ AInv n t K D (s.take n t K a b) ∧ (∀ i, i < n → (s.take n t K a b).f i ≤ s.f i) ∧ AF lab w lab' w' :=
  (asyncTake lab A n t K s a b w h h8 (fun i k hi hk => ⟨hK.nonneg hi hk, hK.high i k hi hk⟩) (hI.asks hD).1 (hI.asks hD).2 hI.few).mono fun e w' ⟨he, lab', A', h1, h2, h3⟩ => ⟨_, he, lab', A', h1, h2, (hI.take hK hR a b).1, (hI.take hK hR a b).2, h3⟩
theorem netDist (i : Nat) (z : Int) (hz : z = (i : Int)) (hi : i < n) (h : AN w lab A n t K s) (h8 : n ≤ 8) :
    Calls Tryd.prog 21 #[.pointer (some ⟨A.p, 0, none⟩), .int .i64 z] w fun e w' => e = .returned (.tuple #[.int .i64 (s.f i), .nilIface]) ∧ w' = w := by
  subst hz
  have := asyncDist lab A n t K s i w h h8
  rw [if_neg (by omega), show ((i : Int)).toNat = i by omega] at this
  exact this
end

theorem sent_e1 : (AS.new 0).sendE 2 (costF 1 (fun _ => 0) (fun _ => 1) (fun _ => 3)) 0 1 = 0 := by decide
theorem sent_e2 : ((AS.new 0).send 2 (costF 1 (fun _ => 0) (fun _ => 1) (fun _ => 3)) 0 1).takeE 2 (costF 1 (fun _ => 0) (fun _ => 1) (fun _ => 3)) 0 1 = 0 := by decide
theorem sent_e3 : ((AS.new 0).send 2 (costF 1 (fun _ => 0) (fun _ => 1) (fun _ => 3)) 0 1).first 0 1 = 0 := by decide
theorem sent_e4 : (((AS.new 0).send 2 (costF 1 (fun _ => 0) (fun _ => 1) (fun _ => 3)) 0 1).take 2 0 (costF 1 (fun _ => 0) (fun _ => 1) (fun _ => 3)) 0 1).f 1 = 3 := by decide

set_option maxRecDepth 100000 in
set_option maxHeartbeats 1000000 in
theorem sent_walk (w : World) : Calls Tryd.prog 6 #[] w fun e w' => e = .returned (.bool true) ∧ Below w.heap.size w w' := by
  go_enter Tryd.func6, Tryd.ntmps6
  go_wp2_with fail
  have hcall := asyncNew_ok 2 2 rfl (some ⟨w.heap.size, 0, none⟩) 1 1 0 0 rfl (fun _ => 0) (fun _ => 1) (fun _ => 3) _ (lnk_lit w) (by omega) good_lit (by omega)
  refine hcall.mono ?_
  clear hcall
  rintro e w1 ⟨lab, A, rfl, hA, hlow, hb⟩
  have HA := Lib.hid hA
  have HI : Hid (AInv 2 0 (costF 1 (fun _ => 0) (fun _ => 1) (fun _ => 3)) (endF 0 (fun _ => 0) (fun _ => 1) (fun _ => 3) 1) (AS.new 0)) := AInv.new (cost_m right_lit) (end_k right_lit)
  have HB := Lib.hid ((((Below.refl w.heap.size w).alloc (Nat.le_refl _) _).trans (hb.mono (by simp))))
  have HLO : Hid (∀ b, b < w.heap.size → lab b = []) := fun b hb' => hlow b (by simp; omega)
  clear hA hb hlow
  go_wp2_with fail
  have hcall := asyncSend lab A 2 0 _ _ 0 1 w1 HA.out (by omega)
  rw [sent_e1, errV_zero] at hcall
  refine hcall.mono ?_
  clear hcall
  rintro e w2 ⟨rfl, lab2, A2, hp2, hA2, hF2⟩
  obtain ⟨hb2, hl2⟩ := hF2.below HB.out.size HLO.out
  have HA2 := Lib.hid hA2
  have HI2 := Lib.hid (HI.out.send (0 : Int) 1)
  have HB2 := Lib.hid (HB.out.trans hb2)
  have HLO2 := Lib.hid hl2
  rw [← hp2]
  clear hA2 hF2 hb2 hl2 HA HI HB HLO hp2
  go_wp2_with fail
  have hD : ∀ i, i < 2 → 0 ≤ endF 0 (fun _ => 0) (fun _ => 1) (fun _ => 3) 1 i := fun i hi => (end_ranged right_lit i hi).1
  have hK := cost_m right_lit
  have hcall := asyncTake lab2 A2 2 0 _ _ 0 1 w2 HA2.out (by omega) (fun i k hi hk => ⟨hK.nonneg hi hk, hK.high i k hi hk⟩) (HI2.out.asks hD).1 (HI2.out.asks hD).2 HI2.out.few
  rw [sent_e2, if_pos rfl, errV_zero] at hcall
  rw [show ((0 : Int)).toNat = 0 from rfl, show ((1 : Int)).toNat = 1 from rfl, sent_e3] at hcall
  refine hcall.mono ?_
  clear hcall hD hK
  rintro e w3 ⟨rfl, lab3, A3, hp3, hA3, hF3⟩
  obtain ⟨hb3, hl3⟩ := hF3.below HB2.out.size HLO2.out
  have HA3 := Lib.hid hA3
  have HB3 := Lib.hid (HB2.out.trans hb3)
  rw [← hp3]
  clear hA3 hF3 hb3 hl3 HA2 HI2 HB2 HLO2 hp3
  go_wp2_with fail
  have hcall := netDist 1 1 rfl (by omega) HA3.out (by omega)
  rw [sent_e4] at hcall
  refine hcall.mono ?_
  clear hcall
  rintro e w4 ⟨rfl, h4⟩
  subst w4
  go_wp2_with fail
  go_ret
  exact ⟨rfl, HB3.out⟩

end Go.Proofs.YtminfghiejgieaaDoor

