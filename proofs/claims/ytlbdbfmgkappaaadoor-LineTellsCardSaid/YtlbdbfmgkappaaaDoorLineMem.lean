/- The memory of a line of nodes; what one node tells another one. -/
import Derived.Test.YtlbdbfmgkappaaaDoorLineMath
import Derived.Test.YtlbdbfmgkappaaaDoorPlaces
import Derived.Test.YtlbdbfmgkappaaaDoorRepeat2
import Derived.Test.YtlbdbfmgkappaaaDoorTab
import Derived.Test.YtlbdbfmgkappaaaDoorOwnLk
namespace Go.Proofs.YtlbdbfmgkappaaaDoor
open Go.RowKit
set_option linter.unusedVariables false

theorem RowP.ne_type {w : World} {g g' : Nat} {t t' : TypeId} {n n' : Nat} {f f' : Nat → Value} (h : RowP w g t n f) (h' : RowP w g' t' n' f') (ht : t ≠ t') : g ≠ g' := by
  rintro rfl
  obtain ⟨c, e, _⟩ := h
  obtain ⟨c', e', _⟩ := h'
  rw [e] at e'
  simp at e'
  exact ht e'.2

/-- v has i rows of n thoughts each: row r lies in block B r, and tells F r, G r of each. -/
structure Tht (w : World) (base : Nat) (v : Value) (B C : Nat → Nat) (i n : Nat) (F G : Nat → Nat → Int) : Prop where
  own : w.ownsRow base 91 1 v i ((List.range i).map fun r => .slice (some ⟨B r, 0, none⟩) n (C r))
  row : ∀ r, r < i → base ≤ B r ∧ RowP w (B r) 94 (n * 2) (placeC (F r) (G r))
  inj : ∀ r s, r < i → s < i → B r = B s → r = s

section
variable {w w' : World} {base base' : Nat} {v : Value} {B C : Nat → Nat} {i n : Nat} {F G F' G' : Nat → Nat → Int}
theorem Tht.nil (w : World) (base n : Nat) (F G : Nat → Nat → Int) : Tht w base (.slice none 0 0) (fun _ => 0) (fun _ => 0) 0 n F G :=
  ⟨World.ownsRow_nil _ _ _ _, fun r hr => absurd hr (by omega), fun r s hr => absurd hr (by omega)⟩
theorem Tht.drewN (h : Tht w base v B C i n F G) (k : Nat) : Tht (w.drewN k) base v B C i n F G := ⟨h.own, fun r hr => h.row r hr, h.inj⟩
theorem Tht.same (h : Tht w base v B C i n F G) (hs : ∀ b, base ≤ b → b < w.heap.size → w'.heap[b]? = w.heap[b]?) : Tht w' base v B C i n F G :=
  ⟨ownsRow_same h.own hs, fun r hlt => ⟨(h.row r hlt).1, (h.row r hlt).2.of_block (hs _ (h.row r hlt).1 (h.row r hlt).2.lt)⟩, h.inj⟩
theorem Tht.below (h : Tht w base v B C i n F G) (hb : Below w.heap.size w w') : Tht w' base v B C i n F G := h.same fun b _ hlt => hb.block b hlt
theorem Tht.alloc (h : Tht w base v B C i n F G) (o : Obj) : Tht (w.alloc o) base v B C i n F G := h.below ((Below.refl _ _).alloc (Nat.le_refl _) o)
theorem Tht.congr (h : Tht w base v B C i n F G) (e : ∀ r t, r < i → t < n → F r t = F' r t ∧ G r t = G' r t) : Tht w base v B C i n F' G' :=
  ⟨h.own, fun r hr => ⟨(h.row r hr).1, (h.row r hr).2.congr fun t ht => by
    unfold placeC
    rw [(e r (t / 2) hr (by omega)).1, (e r (t / 2) hr (by omega)).2]⟩, h.inj⟩
theorem Tht.lift (h : Tht w base v B C i n F G) (hb : base' ≤ base) : Tht w base' v B C i n F G := by
  refine ⟨⟨h.own.1, ?_⟩, fun r hr => ⟨Nat.le_trans hb (h.row r hr).1, (h.row r hr).2⟩, h.inj⟩
  rcases h.own.2 with h' | ⟨q, cap, cur, hv, hg, hrest⟩
  · exact .inl h'
  · exact .inr ⟨q, cap, cur, hv, Nat.le_trans hb hg, hrest⟩
/-- Where it lies, and what its cells are. -/
theorem Tht.cells (h1 : 1 ≤ i) (h : Tht w base v B C i n F G) : ∃ g c, v = .slice (some ⟨g, 0, none⟩) i c ∧ base ≤ g ∧ g < w.heap.size ∧ RowP w g 91 i (fun r => .slice (some ⟨B r, 0, none⟩) n (C r)) := by
  have h' := h.own
  rcases h'.2 with ⟨hv, h0⟩ | ⟨g, cap, cur, hv, hb, hg, _⟩
  · omega
  · subst hv
    exact ⟨g, cap, rfl, hb, (Array.getElem?_eq_some_iff.1 hg).1, RowP.of_own h'⟩
/-- A store in a row. -/
theorem Tht.set (h : Tht w base v B C i n F G) {r : Nat} (hr : r < i) (t : Nat) (x y : Int) :
    Tht ((w.setCell ⟨B r, t * 2, none⟩ (.int .i64 x)).setCell ⟨B r, t * 2 + 1, none⟩ (.int .i64 y)) base v B C i n (fun p q => if p = r ∧ q = t then x else F p q) (fun p q => if p = r ∧ q = t then y else G p q) := by
  have hrow := (h.row r hr).2
  refine ⟨?_, fun p hp => ⟨(h.row p hp).1, ?_⟩, h.inj⟩
  · have hne : ∀ g, v.ownBlock = some g → g ≠ B r := by
      intro g hg e
      rcases h.own.2 with ⟨hv, _⟩ | ⟨g', cap, cur, hv, _, hg', _⟩
      · rw [hv] at hg; cases hg
      · rw [hv] at hg
        have : g' = g := by simpa [Value.ownBlock] using hg
        subst this
        subst e
        obtain ⟨c, e, _⟩ := hrow
        rw [e] at hg'
        simp at hg'
    have k1 : w.grownBy ((w.setCell ⟨B r, t * 2, none⟩ (.int .i64 x)).setCell ⟨B r, t * 2 + 1, none⟩ (.int .i64 y)) (some (B r)) :=
      ⟨rfl, rfl, rfl, by simp [World.setCell], fun k hk hne => (Below.heap_setCell _ _ _ _ (fun e => hne (by rw [e]))).trans (Below.heap_setCell _ _ _ _ (fun e => hne (by rw [e])))⟩
    exact h.own.kept k1 (.inr fun e => hne _ e rfl)
  · by_cases hpr : p = r
    · subst hpr
      refine ((hrow.set (t * 2) (.int .i64 x)).set (t * 2 + 1) (.int .i64 y)).congr fun q hq => ?_
      rcases Nat.mod_two_eq_zero_or_one q with hm | hm
      · obtain ⟨k, rfl⟩ : ∃ k, q = k * 2 := ⟨q / 2, by omega⟩
        rw [upd_other _ _ (by omega), placeC0]
        by_cases e : k = t
        · subst e; rw [upd_same]; simp
        · rw [upd_other _ _ (by omega), placeC0]; simp [e]
      · obtain ⟨k, rfl⟩ : ∃ k, q = k * 2 + 1 := ⟨q / 2, by omega⟩
        rw [placeC1]
        by_cases e : k = t
        · subst e; rw [upd_same]; simp
        · rw [upd_other _ _ (by omega), upd_other _ _ (by omega), placeC1]; simp [e]
    · have hBne : B p ≠ B r := fun e => hpr (h.inj p r hp hr e)
      refine (((h.row p hp).2.setOther (a := ⟨B r, t * 2, none⟩) hBne _).setOther (a := ⟨B r, t * 2 + 1, none⟩) hBne _).congr fun q _ => ?_
      unfold placeC
      simp [hpr]
end

theorem infoThRow : (Tryd.prog.info? 91).map (fun i => (i.zero, i.size, i.bytes)) = some (some (.slice none 0 0), 1, 24) := by kernel_rfl

/-- An append of one row that is a block of its own. -/
theorem wpList_append_tht {w : World} {ops : Array Oper} {rest : List Oper} {o : Oper} {a : Act} {Q : Exit → Act → World → Prop} (hgd : o.guard = none) (s x : Operand)
    (ho : o.op = .call { callee := .builtin .append, args := #[s, x], argTypes := #[88, 88] })
    (w0 : World) (base : Nat) (v : Value) (B C : Nat → Nat) (i n : Nat) (F G : Nat → Nat → Int) (hs : a.eval s = v) (hT : Tht w0 base v B C i n F G) (hb0 : Below w0.heap.size w0 w)
    (b c : Nat) (hbn : w0.heap.size ≤ b) (hrow : RowP w b 94 (n * 2) (placeC (F i) (G i))) (ad : Addr) (hx : a.eval x = .slice (some ad) 1 1)
    (hnew : ∀ j u, [Value.slice (some ⟨b, 0, none⟩) n c][j]? = some u → w.cell? (ad.add j) = some u) (hi : i ≤ 1000) (hbase : base ≤ w0.heap.size)
    (h : ∀ v' B' C' w', Tht w' base v' B' C' (i + 1) n F G → Below base w w' → wpList Tryd.prog ops Q rest (a.put o.dst v') w') :
    wpList Tryd.prog ops Q (o :: rest) a w := by
  obtain ⟨hown, hr, hinj⟩ := hT
  obtain ⟨i0, hi0, hz0, hz1, hz2⟩ := info_parts infoThRow
  have hown' := ownsRow_same hown (fun b _ hlt => hb0.block b hlt)
  have hbase' : base ≤ w.heap.size := Nat.le_trans hbase hb0.size
  refine wpList_append_own_at w hgd s x 88 ho base 91 i0 _ 1 24 Tryd.underlying88 hi0 hz0 hz1 hz2 rfl (by decide) v i _ hs hown' ad 1 1 [Value.slice (some ⟨b, 0, none⟩) n c] hx rfl hnew (by simp [Value.oneCell']) (by unfold maxLen; omega) (by omega) hbase' ?_
  intro v' w' ho1 hg1 _ _
  have hne : ∀ k t0 m F, RowP w k t0 m F → t0 = 94 → w'.heap[k]? = w.heap[k]? := by
    rintro k t0 m F hk rfl
    refine hg1.block k hk.lt fun e => ?_
    obtain ⟨cs, hcs, _⟩ := hk
    rcases hown'.2 with ⟨hv, _⟩ | ⟨g, cap, cur, hv, hb, hg, hrest⟩
    · rw [hv] at e; cases e
    · rw [hv] at e
      have e' : k = g := by simpa [Value.ownBlock] using e
      subst e'
      rw [hcs] at hg
      simp at hg
  refine h v' (fun r => if r = i then b else B r) (fun r => if r = i then c else C r) w' ⟨?_, fun r hlt => ?_, fun r q hrl hq e => ?_⟩ ?_
  · rw [List.range_succ, List.map_append]
    have e1 : (List.range i).map (fun r => Value.slice (some ⟨if r = i then b else B r, 0, none⟩) n (if r = i then c else C r)) = (List.range i).map fun r => .slice (some ⟨B r, 0, none⟩) n (C r) := by
      apply List.map_congr_left
      intro j hj
      have := List.mem_range.1 hj
      rw [if_neg (by omega), if_neg (by omega)]
    rw [e1]
    simpa using ho1
  · by_cases hri : r = i
    · subst hri
      simp only [if_true]
      exact ⟨by omega, hrow.of_block (hne b _ _ _ hrow rfl)⟩
    · simp only [if_neg hri]
      obtain ⟨h1, h2⟩ := hr r (by omega)
      have h3 := h2.of_block (hb0.block _ h2.lt)
      exact ⟨h1, h3.of_block (hne _ _ _ _ h3 rfl)⟩
  · by_cases hri : r = i <;> by_cases hqi : q = i
    · omega
    · rw [if_pos hri, if_neg hqi] at e
      have := (hr q (by omega)).2.lt
      omega
    · rw [if_neg hri, if_pos hqi] at e
      have := (hr r (by omega)).2.lt
      omega
    · rw [if_neg hri, if_neg hqi] at e
      exact hinj r q (by omega) (by omega) e
  · refine ⟨hg1.os, hg1.tape, hg1.output, hg1.size, fun k hk => hg1.block k (by omega) fun e => ?_⟩
    rcases hown'.2 with ⟨hv, _⟩ | ⟨g, cap, cur, hv, hb, hg, hrest⟩
    · rw [hv] at e; cases e
    · rw [hv] at e
      have e' : k = g := by simpa [Value.ownBlock] using e
      omega

/-- Links in a block of their own; or none. -/
def LkB (w : World) (lo : Nat) (A : Option Addr) (m : Nat) (a b c : Nat → Int) : Prop := m = 0 ∨ ∃ g, A = some ⟨g, 0, none⟩ ∧ lo ≤ g ∧ RowP w g 31 (m * 3) (linkC a b c)
theorem LkB.lnk {w : World} {lo : Nat} {A : Option Addr} {m : Nat} {a b c : Nat → Int} (h : LkB w lo A m a b c) : Lnk w A m a b c := by
  rcases h with rfl | ⟨g, rfl, -, hr⟩
  · exact fun i hi => absurd hi (by omega)
  · exact hr.lnk

/-- The line of nodes at block s: its links, its poison, what its nodes think. -/
structure LineW (w : World) (lo s : Nat) (po : Bool) (lA : Option Addr) (lc gr gc : Nat) (B C : Nat → Nat) (n m : Nat) (a b c : Nat → Int) (F G : Nat → Nat → Int) : Prop where
  blk : Blk w s 90 #[.slice lA m lc, .bool po, .slice (some ⟨gr, 0, none⟩) n gc]
  lks : LkB w lo lA m a b c
  tht : Tht w lo (.slice (some ⟨gr, 0, none⟩) n gc) B C n n F G
  lo : lo ≤ s

/-- Somewhere. -/
def LineH (w : World) (lo s : Nat) (po : Bool) (n m : Nat) (a b c : Nat → Int) (F G : Nat → Nat → Int) : Prop := ∃ lA lc gr gc B C, LineW w lo s po lA lc gr gc B C n m a b c F G

section
variable {w w' : World} {lo s : Nat} {po : Bool} {lA : Option Addr} {lc gr gc : Nat} {B C : Nat → Nat} {n m : Nat} {a b c : Nat → Int} {F G F' G' : Nat → Nat → Int}
theorem LineW.below (h : LineW w lo s po lA lc gr gc B C n m a b c F G) (hb : Below w.heap.size w w') : LineW w' lo s po lA lc gr gc B C n m a b c F G := by
  refine ⟨h.blk.below hb h.blk.lt, ?_, h.tht.below hb, h.lo⟩
  rcases h.lks with e | ⟨g, e, h1, hr⟩
  · exact .inl e
  · exact .inr ⟨g, e, h1, hr.below hb hr.lt⟩
theorem LineH.below (h : LineH w lo s po n m a b c F G) (hb : Below w.heap.size w w') : LineH w' lo s po n m a b c F G := by
  obtain ⟨lA, lc, gr, gc, B, C, h⟩ := h
  exact ⟨lA, lc, gr, gc, B, C, h.below hb⟩
theorem LineH.congr (h : LineH w lo s po n m a b c F G) (e : ∀ r t, r < n → t < n → F r t = F' r t ∧ G r t = G' r t) : LineH w lo s po n m a b c F' G' := by
  obtain ⟨lA, lc, gr, gc, B, C, h⟩ := h
  exact ⟨lA, lc, gr, gc, B, C, h.blk, h.lks, h.tht.congr e, h.lo⟩
theorem LineW.outer (h1 : 1 ≤ n) (h : LineW w lo s po lA lc gr gc B C n m a b c F G) : RowP w gr 91 n (fun r => .slice (some ⟨B r, 0, none⟩) n (C r)) := by
  obtain ⟨g, c', e, -, -, hr⟩ := h.tht.cells h1
  have eg : gr = g := by
    simp only [Value.slice.injEq, Option.some.injEq, Addr.mk.injEq] at e
    exact e.1.1
  subst eg
  exact hr
end

/-- The variable nobody. -/
def NobT (w : World) : Prop := w.cell? ⟨0, 0, none⟩ = some (.int .i64 16) ∧ w.cell? ⟨0, 1, none⟩ = some (.int .i64 (-1))
theorem NobT.keep {w w' : World} (h : NobT w) (hb : Below w.heap.size w w') : NobT w' :=
  ⟨(hb.cell (World.block_lt_of_cell? w _ h.1)).trans h.1, (hb.cell (World.block_lt_of_cell? w _ h.2)).trans h.2⟩

set_option maxHeartbeats 2000000 in
theorem told_walk (s n m k i t : Nat) (lo : Nat) (po : Bool) (lA : Option Addr) (lc gr gc : Nat) (B C : Nat → Nat) (a b c : Nat → Int) (F G : Nat → Nat → Int) (w : World) (h : LineW w lo s po lA lc gr gc B C n m a b c F G) (hk : k < n) (ht : t < n) (z : Int) (hz : toldF po (fun k => F k t) (fun k => G k t) i k = z) :
    Calls Tryd.prog 72 #[.pointer (some ⟨s, 0, none⟩), .int .i64 k, .int .i64 i, .int .i64 t] w fun e w' => e = .returned (.int .i64 z) ∧ Below w.heap.size w w' := by
  have h1 : 1 ≤ n := by omega
  have c0 := h.blk.cell 1
  have c1 := h.blk.cell 2
  simp at c0 c1
  have cr := (h.outer h1).cell hk
  have hrow := (h.tht.row k hk).2
  have cf := hrow.cell (i := t * 2) (by omega)
  have cn := hrow.cell (i := t * 2 + 1) (by omega)
  rw [placeC0] at cf
  rw [placeC1] at cn
  have hk' : (k : Int) < n := by omega
  have ht' : (t : Int) < n := by omega
  have hls := h.blk.lt
  have HZ := Lib.hid hz
  have HF : Hid (Below w.heap.size w (w.alloc (.cells #[.int .i64 (F k t), .int .i64 (G k t)] 94))) := (Below.refl _ _).alloc (Nat.le_refl _) _
  clear h hrow hz
  cases po
  · have hz2 : F k t = z := by
      have := HZ.out
      unfold toldF at this
      simpa using this
    rw [hz2] at cf HF
    clear hz2 HZ
    go_enter Tryd.func72, Tryd.ntmps72
    go_wp2_with fail
    go_ret
    exact ⟨rfl, HF.out⟩
  · by_cases hg : G k t = (i : Int)
    · have hz2 : 16 = z := by
        have := HZ.out
        unfold toldF at this
        rw [if_pos ⟨rfl, hg⟩] at this
        exact this
      rw [hg] at cn HF
      subst hz2
      clear hg HZ
      go_enter Tryd.func72, Tryd.ntmps72
      go_wp2_with fail
      go_ret
      exact ⟨rfl, HF.out⟩
    · have hz2 : F k t = z := by
        have := HZ.out
        unfold toldF at this
        rw [if_neg fun h => hg h.2] at this
        exact this
      rw [hz2] at cf HF
      have hd : (G k t == (i : Int)) = false := beq_false_of_ne hg
      clear hz2 hg HZ
      go_enter Tryd.func72, Tryd.ntmps72
      go_wp2_with fail
      go_ret
      exact ⟨rfl, HF.out⟩

end Go.Proofs.YtlbdbfmgkappaaaDoor
