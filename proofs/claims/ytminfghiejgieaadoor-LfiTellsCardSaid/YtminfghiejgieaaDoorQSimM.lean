/- QSimM: in one text: QSnt, QNet, QFault, TailInv, QCopyA, QCopyB, QOps, QCopied, QCN, QSending, FarPlus, QThinks, QLaw, QCame, RefCosts, RefBell, QNew, AsyncWaits, QSim, VecB, RefGraph. -/
import Derived.Test.YtminfghiejgieaaDoorLinks
import Derived.Test.YtminfghiejgieaaDoorTabAt
import Derived.Deep.Upon
import Derived.Test.YtminfghiejgieaaDoorHear
import Derived.Test.YtminfghiejgieaaDoorComm
import Derived.Test.YtminfghiejgieaaDoorTab
import Derived.Test.YtminfghiejgieaaDoorRegTail
import Derived.Great.BuildSlice
import Derived.Laws.Tables
import Derived.Test.YtminfghiejgieaaDoorBase
import Derived.Laws.ResultCell
import Derived.Test.YtminfghiejgieaaDoorCosts
import Derived.Test.YtminfghiejgieaaDoorOwnV
import Derived.Test.YtminfghiejgieaaDoorBellRun
import Derived.Test.YtminfghiejgieaaDoorAsync
import Derived.Test.YtminfghiejgieaaDoorRow
import Derived.Test.YtminfghiejgieaaDoorMem
import Derived.Deep.Grids
import Derived.Test.YtminfghiejgieaaDoorCost
import Derived.BigQuiet
import Derived.Deep.QuietTactic
/- What is on the ways, in the reference: a slice of sent ones; copies of slices. -/
namespace Go.Proofs.YtminfghiejgieaaDoor
open Go.RowKit
set_option linter.unusedVariables false

theorem infoSent : (Tryd.prog.info? 80).map (fun i => (i.zero, i.size, i.bytes)) = some (some (.agg #[.int .i64 0, .int .i64 0, .int .i64 0]), 3, 24) := by kernel_rfl

/-- v has n sent ones; it is nil, or lies in a block of its own from base on. -/
def OwnS (w : World) (base : Nat) (v : Value) (n : Nat) (a b c : Nat → Int) : Prop := w.ownsRow base 80 3 v n ((List.range (n * 3)).map (linkC a b c))

/-- An own row of sent ones, told by the index. -/
theorem RowP.of_own_sents {w : World} {base g m cap : Nat} {f : Nat → Value} (h : w.ownsRow base 80 3 (.slice (some ⟨g, 0, none⟩) m cap) m ((List.range (m * 3)).map f)) : base ≤ g ∧ m ≤ cap ∧ RowP w g 80 (m * 3) f := by
  rcases h.2 with ⟨h', _⟩ | ⟨g', cap', cur, h', hb, hg, hnc, _, hcs, htake⟩
  · cases h'
  · simp only [Value.slice.injEq, Option.some.injEq, Addr.mk.injEq, and_true, true_and] at h'
    obtain ⟨rfl, rfl⟩ := h'
    refine ⟨hb, hnc, cur, hg, by rw [hcs]; exact Nat.mul_le_mul_right 3 hnc, fun i hi => ?_⟩
    have e : (cur.toList.take (m * 3))[i]? = ((List.range (m * 3)).map f)[i]? := by rw [htake]
    rw [List.getElem?_take, if_pos (by omega)] at e
    simpa [hi] using e

theorem RowP.lntS {w : World} {g m : Nat} {a b c : Nat → Int} (h : RowP w g 80 (m * 3) (linkC a b c)) : Lnk w (some ⟨g, 0, none⟩) m a b c := by
  intro i hi
  refine ⟨_, rfl, h.lt, ?_, ?_, ?_⟩
  · rw [Addr.add_lit, Nat.zero_add, h.cell (by omega), linkC0]
  · rw [Addr.add_lit, Nat.zero_add, h.cell (by omega), linkC1]
  · rw [Addr.add_lit, Nat.zero_add, h.cell (by omega), linkC2]

section
variable {w w' : World} {base n : Nat} {v : Value} {a b c a' b' c' : Nat → Int}
theorem OwnS.nil (w : World) (base : Nat) (a b c : Nat → Int) : OwnS w base (.slice none 0 0) 0 a b c := World.ownsRow_nil _ _ _ _
theorem OwnS.same (h : OwnS w base v n a b c) (hs : ∀ g, v.ownBlock = some g → w'.heap[g]? = w.heap[g]?) : OwnS w' base v n a b c := by
  refine ⟨h.1, ?_⟩
  rcases h.2 with h' | ⟨g, cap, cur, hv, hb, hg, hr⟩
  · exact .inl h'
  · exact .inr ⟨g, cap, cur, hv, hb, (hs g (by rw [hv]; rfl)).trans hg, hr⟩
theorem OwnS.lt (h : OwnS w base v n a b c) : ∀ g, v.ownBlock = some g → base ≤ g ∧ g < w.heap.size := fun g hg => World.ownsRow.lt h g hg
theorem OwnS.below (h : OwnS w base v n a b c) (hb : Below w.heap.size w w') : OwnS w' base v n a b c := h.same fun g hg => hb.block g (h.lt g hg).2
theorem OwnS.congr (h : OwnS w base v n a b c) (ha : ∀ i, i < n → a i = a' i) (hb : ∀ i, i < n → b i = b' i) (hc : ∀ i, i < n → c i = c' i) : OwnS w base v n a' b' c' := by
  unfold OwnS
  have : (List.range (n * 3)).map (linkC a' b' c') = (List.range (n * 3)).map (linkC a b c) := List.map_congr_left fun j hj => by
    have := List.mem_range.1 hj
    unfold linkC
    rw [ha _ (by omega), hb _ (by omega), hc _ (by omega)]
  rw [this]; exact h
theorem OwnS.form (h : OwnS w base v n a b c) : (n = 0 ∧ v = .slice none 0 0) ∨ ∃ g q, v = .slice (some ⟨g, 0, none⟩) n q ∧ base ≤ g ∧ RowP w g 80 (n * 3) (linkC a b c) := by
  have h' := h
  rcases h.2 with ⟨hv, hn⟩ | ⟨g, cap, cur, hv, hb, hg, hc, _⟩
  · exact .inl ⟨hn, hv⟩
  · subst hv
    exact .inr ⟨g, cap, rfl, hb, (RowP.of_own_sents h').2.2⟩
end

theorem sents_snoc (n : Nat) (a b c : Nat → Int) (x y z : Int) : (List.range (n * 3)).map (linkC a b c) ++ [.int .i64 x, .int .i64 y, .int .i64 z] = (List.range ((n + 1) * 3)).map (linkC (upd a n x) (upd b n y) (upd c n z)) := by
  rw [show (n + 1) * 3 = n * 3 + 1 + 1 + 1 by omega, List.range_succ, List.range_succ, List.range_succ]
  simp only [List.map_append, List.map_cons, List.map_nil, List.append_assoc, List.cons_append, List.nil_append]
  congr 1
  · apply List.map_congr_left
    intro j hj
    have := List.mem_range.1 hj
    unfold linkC
    rw [upd_other _ _ (by omega), upd_other _ _ (by omega), upd_other _ _ (by omega)]
  · rw [linkC0, linkC1, show n * 3 + 1 + 1 = n * 3 + 2 from rfl, linkC2, upd_same, upd_same, upd_same]

/-- Own sent ones, or an empty slice without room. -/
def WayO (w : World) (base : Nat) (v : Value) (n : Nat) (a b c : Nat → Int) : Prop := (n = 0 ∧ ∃ A, v = .slice A 0 0) ∨ (0 < n ∧ OwnS w base v n a b c)

section
variable {w w' : World} {base n : Nat} {v : Value} {a b c a' b' c' : Nat → Int}
theorem WayO.same (h : WayO w base v n a b c) (hs : ∀ g, base ≤ g → g < w.heap.size → w'.heap[g]? = w.heap[g]?) : WayO w' base v n a b c := by
  rcases h with h | ⟨h0, h⟩
  · exact .inl h
  · exact .inr ⟨h0, h.same fun g hg => hs g (h.lt g hg).1 (h.lt g hg).2⟩
theorem WayO.below (h : WayO w base v n a b c) (hb : Below w.heap.size w w') : WayO w' base v n a b c := h.same fun g _ hlt => hb.block g hlt
theorem WayO.lnk (h : WayO w base v n a b c) : ∃ A q, v = .slice A n q ∧ Lnk w A n a b c ∧ ((n = 0 ∧ q = 0) ∨ ∃ g, A = some ⟨g, 0, none⟩ ∧ base ≤ g ∧ g < w.heap.size ∧ RowP w g 80 (n * 3) (linkC a b c)) := by
  rcases h with ⟨rfl, A, rfl⟩ | ⟨h0, h⟩
  · exact ⟨A, 0, rfl, fun i hi => absurd hi (by omega), .inl ⟨rfl, rfl⟩⟩
  · rcases h.form with ⟨rfl, _⟩ | ⟨g, q, rfl, hb, hr⟩
    · omega
    · exact ⟨_, q, rfl, hr.lntS, .inr ⟨g, rfl, hb, hr.lt, hr⟩⟩
end

/-- The cells of a slice as what an append brings. -/
theorem src_ints {w : World} {A : Option Addr} {n c : Nat} {f : Nat → Int} (h1 : 1 ≤ n) (hv : Vec w A n f) : Src Tryd.prog 1 24 (.slice A n c) n ((List.range n).map fun j => .int .i64 (f j)) w := by
  obtain ⟨ad, rfl, -, -⟩ := hv 0 (by omega)
  exact Src.ofSlice w Tryd.underlying24 ad n c _ (by simp) (fun j u hu => by
    rw [List.getElem?_map] at hu
    have hj : j < n := by
      rcases Nat.lt_or_ge j n with h | h
      · exact h
      · rw [List.getElem?_eq_none (by simpa using h)] at hu; cases hu
    obtain ⟨ad', e, -, hc⟩ := hv j hj
    simp only [Option.some.injEq] at e
    subst e
    rw [List.getElem?_range hj] at hu
    simp at hu
    rw [hc, hu]) (by simp [Value.oneCell'])
theorem src_sents {w : World} {A : Option Addr} {n q : Nat} {a b c : Nat → Int} (hn : A = none → n = 0) (hv : Lnk w A n a b c) : Src Tryd.prog 3 35 (.slice A n q) n ((List.range (n * 3)).map (linkC a b c)) w := by
  cases A with
  | none =>
    obtain rfl := hn rfl
    exact Src.ofNil w Tryd.underlying35 q
  | some ad => exact Src.ofSlice w Tryd.underlying35 ad n q _ (by simp) hv.news (by simp [Value.oneCell', linkC])

/-- 'append([]int{}, x...)'. -/
theorem wp_copy_int {w : World} {oo : Oper} {ac : Act} {K : Act → World → Prop} {Q : Exit → Act → World → Prop} (s x : Operand)
    (ho : oo.op = .call { callee := .builtin .append, args := #[s, x], argTypes := #[24, 24] }) (hty : oo.type = 24) {A : Option Addr} {n c : Nat} {f : Nat → Int}
    (hs : ∃ g, ac.eval s = .slice (some ⟨g, 0, none⟩) 0 0) (hx : ac.eval x = .slice A n c) (h1 : 1 ≤ n) (hn : n ≤ 1000) (hv : Vec w A n f)
    (h : ∀ cap w', RowP w' w.heap.size 3 n (fun j => .int .i64 (f j)) → Below w.heap.size w w' → w.heap.size < w'.heap.size → K (ac.put oo.dst (.slice (some ⟨w.heap.size, 0, none⟩) n cap)) w') : Oper.wp Tryd.prog oo ac w K Q := by
  obtain ⟨g, hs⟩ := hs
  obtain ⟨i0, hi0, hz0, hz1, hz2⟩ := info_parts infoIntV
  have hrun := run_append_grow_src (P := Tryd.prog) w 24 24 24 3 i0 (.int .i64 0) Tryd.underlying24 hi0 hz0 (some ⟨g, 0, none⟩) 0 0 [] (by
    rw [hz1]
    exact (Src.ofSlice (P := Tryd.prog) (size := 1) w Tryd.underlying24 ⟨g, 0, none⟩ 0 0 [] rfl (fun j u hu => by simp at hu) (by simp)).cellsD) (.slice A n c) n ((List.range n).map fun j => .int .i64 (f j)) (by rw [hz1]; exact src_ints h1 hv) (by omega) (by omega) (growslice_fits (by omega) (by rw [hz2]; omega))
  have hge := grownCap_ge w (0 + n) 0 3
  unfold Oper.wp execOp
  simp only [ho, hty, resolve, invoke, builtin, Sem.run_bind, Sem.run_pure, Result.andThen_ok, List.map_toArray, List.map_cons, List.map_nil, hs, hx, hrun]
  rw [Nat.zero_add] at hge ⊢
  refine h _ _ ⟨_, heap_alloc_new w.drew _, ?_, fun j hj => ?_⟩ ⟨rfl, rfl, rfl, by show w.heap.size ≤ (w.heap.push _).size; simp, fun k hk => Below.heap_alloc w.drew _ k hk⟩ (by show w.heap.size < (w.heap.push _).size; simp)
  · simp
  · simp only [List.nil_append]
    rw [Array.getElem?_append_left (by simpa using hj)]
    simp [hj]

/-- 'append([]Sent{}, x...)'. -/
theorem wp_copy_snt {w : World} {oo : Oper} {ac : Act} {K : Act → World → Prop} {Q : Exit → Act → World → Prop} (s x : Operand)
    (ho : oo.op = .call { callee := .builtin .append, args := #[s, x], argTypes := #[35, 35] }) (hty : oo.type = 35) {A : Option Addr} {n q : Nat} {a b c : Nat → Int}
    (hs : ∃ g, ac.eval s = .slice (some ⟨g, 0, none⟩) 0 0) (hx : ac.eval x = .slice A n q) (hA : A = none → n = 0) (hn : n ≤ 1000000000000) (hv : Lnk w A n a b c)
    (h : ∀ v w', WayO w' w.heap.size v n a b c → Below w.heap.size w w' → K (ac.put oo.dst v) w') : Oper.wp Tryd.prog oo ac w K Q := by
  obtain ⟨g, hs⟩ := hs
  obtain ⟨i0, hi0, hz0, hz1, hz2⟩ := info_parts infoSent
  have hsrc := src_sents (q := q) hA hv
  rcases Nat.eq_zero_or_pos n with rfl | hpos
  · have hrun := run_append_nothing (P := Tryd.prog) w 35 35 35 80 i0 Tryd.underlying35 hi0 (some ⟨g, 0, none⟩) 0 0 (Nat.le_refl _) (.slice A 0 q) (by rw [hz1]; exact hsrc)
    unfold Oper.wp execOp
    simp only [ho, hty, resolve, invoke, builtin, Sem.run_bind, Sem.run_pure, Result.andThen_ok, List.map_toArray, List.map_cons, List.map_nil, hs, hx, hrun]
    exact h _ _ (.inl ⟨rfl, _, rfl⟩) (Below.refl _ _)
  · have hrun := run_append_grow_src (P := Tryd.prog) w 35 35 35 80 i0 _ Tryd.underlying35 hi0 hz0 (some ⟨g, 0, none⟩) 0 0 [] (by
      rw [hz1]
      exact (Src.ofSlice (P := Tryd.prog) (size := 3) w Tryd.underlying35 ⟨g, 0, none⟩ 0 0 [] rfl (fun j u hu => by simp at hu) (by simp)).cellsD) (.slice A n q) n ((List.range (n * 3)).map (linkC a b c)) (by rw [hz1]; exact hsrc) (by omega) (by omega) (growslice_fits (by omega) (by rw [hz2]; omega))
    have hge := grownCap_ge w (0 + n) 0 80
    have hle := grownCap_le_maxLen w (0 + n) 0 80 (by unfold maxLen; omega)
    unfold Oper.wp execOp
    simp only [ho, hty, resolve, invoke, builtin, Sem.run_bind, Sem.run_pure, Result.andThen_ok, List.map_toArray, List.map_cons, List.map_nil, hs, hx, hrun]
    rw [Nat.zero_add] at hge hle ⊢
    refine h _ _ (.inr ⟨hpos, by simp, .inr ⟨w.heap.size, _, _, rfl, Nat.le_refl _, heap_alloc_new w.drew _, hge, hle, ?_, ?_⟩⟩) ⟨rfl, rfl, rfl, by show w.heap.size ≤ (w.heap.push _).size; simp, fun k hk => Below.heap_alloc w.drew _ k hk⟩
    · simp [size_zeroCells, Value.cells]
      omega
    · simp

/-- One sent one more. -/
theorem wp_append_way {w : World} {oo : Oper} {ac : Act} {K : Act → World → Prop} {Q : Exit → Act → World → Prop} (s x : Operand)
    (ho : oo.op = .call { callee := .builtin .append, args := #[s, x], argTypes := #[35, 35] }) (hty : oo.type = 35) (base : Nat) (v : Value) (n : Nat) (a b c : Nat → Int)
    (hs : ac.eval s = v) (hT : WayO w base v n a b c) (p q r : Int) (ad : Addr) (hx : ac.eval x = .slice (some ad) 1 1)
    (hnew : ∀ j u, [Value.int .i64 p, .int .i64 q, .int .i64 r][j]? = some u → w.cell? (ad.add j) = some u) (hn : n ≤ 1000000000000) (hbase : base ≤ w.heap.size)
    (h : ∀ g cap w', OwnS w' base (.slice (some ⟨g, 0, none⟩) (n + 1) cap) (n + 1) (upd a n p) (upd b n q) (upd c n r) → Below base w w' → w.grownBy w' (if n = 0 then none else v.ownBlock) → ((n ≠ 0 ∧ v.ownBlock = some g) ∨ g = w.heap.size) → K (ac.put oo.dst (.slice (some ⟨g, 0, none⟩) (n + 1) cap)) w') : Oper.wp Tryd.prog oo ac w K Q := by
  obtain ⟨i0, hi0, hz0, hz1, hz2⟩ := info_parts infoSent
  rcases hT with ⟨rfl, A, rfl⟩ | ⟨hpos, hT⟩
  · have hsrc : Src Tryd.prog i0.size 35 (.slice (some ad) 1 1) 1 [.int .i64 p, .int .i64 q, .int .i64 r] w := by
      rw [hz1]
      exact Src.ofSlice w Tryd.underlying35 ad 1 1 _ rfl hnew (by simp [Value.oneCell'])
    have hrun := run_append_grow_src (P := Tryd.prog) w 35 35 35 80 i0 _ Tryd.underlying35 hi0 hz0 A 0 0 [] (by
      cases A with
      | none => exact (Src.ofNil (P := Tryd.prog) (size := i0.size) w Tryd.underlying35 0).cellsD
      | some ad' => exact (Src.ofSlice (P := Tryd.prog) (size := i0.size) w Tryd.underlying35 ad' 0 0 [] (by simp) (fun j u hu => by simp at hu) (by simp)).cellsD) (.slice (some ad) 1 1) 1 _ hsrc (by omega) (by omega) (growslice_fits (by omega) (by rw [hz2]; omega))
    have hge := grownCap_ge w (0 + 1) 0 80
    have hle := grownCap_le_maxLen w (0 + 1) 0 80 (by unfold maxLen; omega)
    unfold Oper.wp execOp
    simp only [ho, hty, resolve, invoke, builtin, Sem.run_bind, Sem.run_pure, Result.andThen_ok, List.map_toArray, List.map_cons, List.map_nil, hs, hx, hrun]
    have hB : ∀ B, B ≤ w.heap.size → Below B w (w.drew.alloc (.cells (([] ++ [Value.int .i64 p, .int .i64 q, .int .i64 r]).toArray ++ Builtin.zeroCells (Value.agg #[.int .i64 0, .int .i64 0, .int .i64 0]).cells (grownCap w (0 + 1) 0 80 - (0 + 1))) 80)) := fun B hB => ⟨rfl, rfl, rfl, by show w.heap.size ≤ (w.heap.push _).size; simp, fun k hk => Below.heap_alloc w.drew _ k (Nat.lt_of_lt_of_le hk hB)⟩
    refine h _ _ _ ⟨by simp, .inr ⟨w.heap.size, _, _, rfl, hbase, heap_alloc_new w.drew _, hge, hle, ?_, ?_⟩⟩ (hB base hbase) (only_of_below (hB _ (Nat.le_refl _)) _) (.inr rfl)
    · simp [size_zeroCells, Value.cells]
      have hge' : 1 ≤ grownCap w 1 0 80 := hge
      omega
    · have e := sents_snoc 0 a b c p q r
      simp only [Nat.zero_mul, List.range_zero, List.map_nil, List.nil_append] at e
      simp [← e]
  · refine wp_append_lies w s x 35 ho base 80 i0 _ 3 24 Tryd.underlying35 hi0 hz0 hz1 hz2 rfl (by decide) v n _ hs hT ad 1 1 [.int .i64 p, .int .i64 q, .int .i64 r] hx rfl hnew (by simp [Value.oneCell']) (by omega) (by unfold maxLen; omega) (by omega) hbase _ rfl ?_
    intro g cap w' h1 h2 h3 _
    rw [sents_snoc] at h1
    refine h g cap w' h1 ⟨h2.os, h2.tape, h2.output, h2.size, fun k hk => h2.block k (by omega) fun e => ?_⟩ (by rw [if_neg (by omega)]; exact h2) (h3.imp (fun e => ⟨by omega, e⟩) id)
    have := (hT.lt k e.symm).1
    omega

end Go.Proofs.YtminfghiejgieaaDoor

/- The reference's net: what it reads as; its small walks. -/
namespace Go.Proofs.YtminfghiejgieaaDoor
open Go.RowKit
set_option linter.unusedVariables false

/-- What is on the ways, in the order in which it was sent: from, to, what. -/
abbrev WayL := List (Nat × Nat × Int)
def wA (W : WayL) (i : Nat) : Int := ((W.getD i (0, 0, 0)).1 : Int)
def wB (W : WayL) (i : Nat) : Int := ((W.getD i (0, 0, 0)).2.1 : Int)
def wD (W : WayL) (i : Nat) : Int := (W.getD i (0, 0, 0)).2.2
/-- What is on one way. -/
def onWay (W : WayL) (a b : Nat) : List Int := (W.filter fun p => decide (p.1 = a ∧ p.2.1 = b)).map fun p => p.2.2

section
variable {w w' : World} {P P' : Nat → Prop} {A : Option Addr} {n : Nat} {f f' a b c : Nat → Int} {F F' : Nat → Nat → Int}
/-- A slice of numbers that lies in blocks of this kind. -/
def VecP (w : World) (P : Nat → Prop) (A : Option Addr) (n : Nat) (f : Nat → Int) : Prop := ∀ j, j < n → ∃ ad, A = some ad ∧ P ad.block ∧ ad.block < w.heap.size ∧ w.cell? (ad.add j) = some (.int .i64 (f j))
def MatP (w : World) (P : Nat → Prop) (A : Option Addr) (n : Nat) (F : Nat → Nat → Int) : Prop := ∀ i, i < n → ∃ ad Ai ci, A = some ad ∧ P ad.block ∧ ad.block < w.heap.size ∧ w.cell? (ad.add i) = some (.slice Ai n ci) ∧ VecP w P Ai n (F i)
def LnkP (w : World) (P : Nat → Prop) (A : Option Addr) (n : Nat) (a b c : Nat → Int) : Prop := ∀ i, i < n → ∃ ad, A = some ad ∧ P ad.block ∧ ad.block < w.heap.size ∧ w.cell? (ad.add (i * 3)) = some (.int .i64 (a i)) ∧ w.cell? (ad.add (i * 3 + 1)) = some (.int .i64 (b i)) ∧ w.cell? (ad.add (i * 3 + 2)) = some (.int .i64 (c i))

theorem VecP.vec (h : VecP w P A n f) : Vec w A n f := fun j hj => by
  obtain ⟨ad, h1, -, h2, h3⟩ := h j hj
  exact ⟨ad, h1, h2, h3⟩
theorem MatP.mat (h : MatP w P A n F) : Mat w A n (fun _ => n) F := fun i hi => by
  obtain ⟨ad, Ai, ci, h1, -, h2, h3, h4⟩ := h i hi
  exact ⟨ad, Ai, ci, h1, h2, h3, h4.vec⟩
theorem LnkP.lnk (h : LnkP w P A n a b c) : Lnk w A n a b c := fun i hi => by
  obtain ⟨ad, h1, -, h2, h3⟩ := h i hi
  exact ⟨ad, h1, h2, h3⟩
theorem VecP.same (h : VecP w P A n f) (hs : ∀ b, P b → b < w.heap.size → w'.heap[b]? = w.heap[b]?) (hz : w.heap.size ≤ w'.heap.size) (hP : ∀ b, P b → b < w.heap.size → P' b) : VecP w' P' A n f := fun j hj => by
  obtain ⟨ad, h1, h2, h3, h4⟩ := h j hj
  exact ⟨ad, h1, hP _ h2 h3, Nat.lt_of_lt_of_le h3 hz, (World.cell?_of_block (by rw [block_of_add]; exact hs _ h2 h3)).trans h4⟩
theorem MatP.same (h : MatP w P A n F) (hs : ∀ b, P b → b < w.heap.size → w'.heap[b]? = w.heap[b]?) (hz : w.heap.size ≤ w'.heap.size) (hP : ∀ b, P b → b < w.heap.size → P' b) : MatP w' P' A n F := fun i hi => by
  obtain ⟨ad, Ai, ci, h1, h2, h3, h4, h5⟩ := h i hi
  exact ⟨ad, Ai, ci, h1, hP _ h2 h3, Nat.lt_of_lt_of_le h3 hz, (World.cell?_of_block (by rw [block_of_add]; exact hs _ h2 h3)).trans h4, h5.same hs hz hP⟩
theorem LnkP.same (h : LnkP w P A n a b c) (hs : ∀ b, P b → b < w.heap.size → w'.heap[b]? = w.heap[b]?) (hz : w.heap.size ≤ w'.heap.size) (hP : ∀ b, P b → b < w.heap.size → P' b) : LnkP w' P' A n a b c := fun i hi => by
  obtain ⟨ad, h1, h2, h3, h4, h5, h6⟩ := h i hi
  exact ⟨ad, h1, hP _ h2 h3, Nat.lt_of_lt_of_le h3 hz, (World.cell?_of_block (by rw [block_of_add]; exact hs _ h2 h3)).trans h4, (World.cell?_of_block (by rw [block_of_add]; exact hs _ h2 h3)).trans h5, (World.cell?_of_block (by rw [block_of_add]; exact hs _ h2 h3)).trans h6⟩
end

/-- The net whose value is v reads as this; it lies in blocks of this kind. -/
def QR (P : Nat → Prop) (w : World) (v : Array Value) (n t : Nat) (K h : Nat → Nat → Int) (f e : Nat → Int) (W : WayL) : Prop :=
  ∃ AC cC AW cW AH cH AF cF AL cL, v = #[.int .i64 t, .slice (some AC) n cC, .slice AW W.length cW, .slice (some AH) n cH, .slice (some AF) n cF, .slice (some AL) n cL] ∧
    MatP w P (some AC) n K ∧ LnkP w P AW W.length (wA W) (wB W) (wD W) ∧ (AW = none → W.length = 0) ∧ MatP w P (some AH) n h ∧ VecP w P (some AF) n f ∧ VecP w P (some AL) n e

theorem QR.same {P P' : Nat → Prop} {w w' : World} {v : Array Value} {n t : Nat} {K h : Nat → Nat → Int} {f e : Nat → Int} {W : WayL} (q : QR P w v n t K h f e W) (hs : ∀ b, P b → b < w.heap.size → w'.heap[b]? = w.heap[b]?) (hz : w.heap.size ≤ w'.heap.size) (hP : ∀ b, P b → b < w.heap.size → P' b) : QR P' w' v n t K h f e W := by
  obtain ⟨AC, cC, AW, cW, AH, cH, AF, cF, AL, cL, h0, h1, h2, h3, h4, h5, h6⟩ := q
  exact ⟨AC, cC, AW, cW, AH, cH, AF, cF, AL, cL, h0, h1.same hs hz hP, h2.same hs hz hP, h3, h4.same hs hz hP, h5.same hs hz hP, h6.same hs hz hP⟩
theorem QR.below {P : Nat → Prop} {w w' : World} {v : Array Value} {n t : Nat} {K h : Nat → Nat → Int} {f e : Nat → Int} {W : WayL} (q : QR P w v n t K h f e W) (hb : Below w.heap.size w w') : QR P w' v n t K h f e W :=
  q.same (fun b _ hlt => hb.block b hlt) hb.size (fun _ h _ => h)

set_option maxRecDepth 100000 in
set_option maxHeartbeats 1000000 in
theorem qNear (P : Nat → Prop) (v : Array Value) (n t : Nat) (K h : Nat → Nat → Int) (f e : Nat → Int) (W : WayL) (a b : Int) (w : World) (q : QR P w v n t K h f e W) (h8 : n ≤ 8) :
    Calls Tryd.prog 12 #[.agg v, .int .i64 a, .int .i64 b] w fun e w' => e = .returned (.int .i64 (nearE n K a b)) ∧ Below w.heap.size w w' := by
  obtain ⟨AC, cC, AW, cW, AH, cH, AF, cF, AL, cL, rfl, hK, hW, hWn, hH, hF, hE⟩ := q
  have h8' : (n : Int) ≤ 8 := by omega
  have hb1 : Below w.heap.size w (w.alloc (.cells #[.int .i64 t, .slice (some AC) n cC, .slice AW W.length cW, .slice (some AH) n cH, .slice (some AF) n cF, .slice (some AL) n cL] 37)) := (Below.refl _ _).alloc (Nat.le_refl _) _
  have HB := Lib.hid hb1
  by_cases h1 : a < 0
  · have en : nearE n K a b = 1 := if_pos (by omega)
    rw [en]
    have d1 : decide (a < 0) = true := decide_eq_true h1
    clear hK hW hH hF hE en hb1
    go_enter Tryd.func12, Tryd.ntmps12
    go_wp2_with fail
    go_ret
    exact ⟨rfl, HB.out⟩
  · have d1 : decide (a < 0) = false := decide_eq_false h1
    obtain ⟨x, rfl⟩ : ∃ x : Nat, a = x := ⟨a.toNat, by omega⟩
    by_cases h2 : n ≤ x
    · have en : nearE n K x b = 1 := if_pos (by omega)
      rw [en]
      have d2 : decide (n ≤ x) = true := decide_eq_true h2
      clear hK hW hH hF hE en hb1
      go_enter Tryd.func12, Tryd.ntmps12
      go_wp2_with fail
      go_ret
      exact ⟨rfl, HB.out⟩
    · have d2 : decide (n ≤ x) = false := decide_eq_false h2
      by_cases h3 : b < 0
      · have en : nearE n K x b = 1 := if_pos (by omega)
        rw [en]
        have d3 : decide (b < 0) = true := decide_eq_true h3
        clear hK hW hH hF hE en hb1
        go_enter Tryd.func12, Tryd.ntmps12
        go_wp2_with fail
        go_ret
        exact ⟨rfl, HB.out⟩
      · have d3 : decide (b < 0) = false := decide_eq_false h3
        obtain ⟨y, rfl⟩ : ∃ y : Nat, b = y := ⟨b.toNat, by omega⟩
        by_cases h4 : n ≤ y
        · have en : nearE n K x y = 1 := if_pos (by omega)
          rw [en]
          have d4 : decide (n ≤ y) = true := decide_eq_true h4
          clear hK hW hH hF hE en hb1
          go_enter Tryd.func12, Tryd.ntmps12
          go_wp2_with fail
          go_ret
          exact ⟨rfl, HB.out⟩
        · have d4 : decide (n ≤ y) = false := decide_eq_false h4
          have hx : x < n := by omega
          have hy : y < n := by omega
          have hx' : (x : Int) < n := by omega
          have hy' : (y : Int) < n := by omega
          obtain ⟨ad, Ax, cx, e1, -, -, r1, hr⟩ := hK.same (P' := P) (fun b _ hlt => hb1.block b hlt) hb1.size (fun _ h _ => h) x hx
          simp only [Option.some.injEq] at e1
          subst e1
          obtain ⟨ax, rfl, -, -, r2⟩ := hr y hy
          obtain ⟨k, hk⟩ : ∃ k, K x y = k := ⟨_, rfl⟩
          rw [hk] at r2
          by_cases h5 : x = y
          · have en : nearE n K x y = 2 := by
              unfold nearE
              rw [if_neg (by omega), if_pos (.inl (by omega))]
            rw [en]
            have d5 : ((x : Int) == (y : Int)) = true := by simp [h5]
            have d5' : (x == y) = true := by simp [h5]
            clear hK hW hH hF hE en hb1 hr r1 r2 h5 hk
            go_enter Tryd.func12, Tryd.ntmps12
            go_wp2_with fail
            go_ret
            exact ⟨rfl, HB.out⟩
          · have d5 : ((x : Int) == (y : Int)) = false := beq_false_of_ne (by omega)
            have d5' : (x == y) = false := beq_false_of_ne h5
            have en : nearE n K x y = if k = 16 then 2 else 0 := by
              unfold nearE
              have e1 : ((x : Int)).toNat = x := by omega
              have e2 : ((y : Int)).toNat = y := by omega
              rw [if_neg (by omega), e1, e2, hk]
              by_cases h16 : k = 16
              · rw [if_pos (.inr h16), if_pos h16]
              · rw [if_neg (by omega), if_neg h16]
            rw [en]
            clear hK hW hH hF hE en hb1 hr hk
            by_cases h16 : k = 16
            · subst h16
              go_enter Tryd.func12, Tryd.ntmps12
              go_wp2_with fail
              go_ret
              exact ⟨rfl, HB.out⟩
            · have d6 : (k == 16) = false := beq_false_of_ne h16
              rw [if_neg h16]
              go_enter Tryd.func12, Tryd.ntmps12
              go_wp2_with fail
              go_ret
              exact ⟨rfl, HB.out⟩

theorem onWay_take_succ (W : WayL) (a b : Nat) {i : Nat} (hi : i < W.length) : (onWay (W.take (i + 1)) a b).length = (onWay (W.take i) a b).length + if wA W i = a ∧ wB W i = b then 1 else 0 := by
  unfold onWay wA wB
  rw [List.take_succ_eq_append_getElem hi, List.filter_append, List.map_append, List.length_append]
  rw [List.getD_eq_getElem?_getD, List.getElem?_eq_getElem hi]
  simp only [Option.getD_some, List.length_map]
  congr 1
  by_cases hc : (W[i]).1 = a ∧ (W[i]).2.1 = b
  · rw [if_pos (by omega)]
    simp [hc]
  · rw [if_neg (by omega)]
    simp [hc]

set_option maxRecDepth 100000 in
set_option maxHeartbeats 1000000 in
theorem qWaits (P : Nat → Prop) (v : Array Value) (n t : Nat) (K h : Nat → Nat → Int) (f e : Nat → Int) (W : WayL) (a b : Nat) (x y : Int) (hx : x = (a : Int)) (hy : y = (b : Int)) (w : World) (q : QR P w v n t K h f e W) (hWl : W.length ≤ 1000000) :
    Calls Tryd.prog 13 #[.agg v, .int .i64 x, .int .i64 y] w fun e w' => e = .returned (.int .i64 (onWay W a b).length) ∧ Below w.heap.size w w' := by
  subst hx
  subst hy
  obtain ⟨AC, cC, AW, cW, AH, cH, AF, cF, AL, cL, rfl, hK, hW, hWn, hH, hF, hE⟩ := q
  have hb1 : Below w.heap.size w (w.alloc (.cells #[.int .i64 t, .slice (some AC) n cC, .slice AW W.length cW, .slice (some AH) n cH, .slice (some AF) n cF, .slice (some AL) n cL] 37)) := (Below.refl _ _).alloc (Nat.le_refl _) _
  have HB := Lib.hid hb1
  have HW := Lib.hid (hW.same (P' := P) (fun b _ hlt => hb1.block b hlt) hb1.size (fun _ h _ => h))
  obtain ⟨L, hL⟩ : ∃ L, W.length = L := ⟨_, rfl⟩
  have HLE := Lib.hid hL
  rw [hL] at hWl HW HB ⊢
  clear hK hW hH hF hE hb1 hWn hL
  go_enter Tryd.func13, Tryd.ntmps13
  go_wp2_with fail
  obtain ⟨w1, hw1⟩ : ∃ w1, w.alloc (.cells #[.int .i64 t, .slice (some AC) n cC, .slice AW L cW, .slice (some AH) n cH, .slice (some AF) n cF, .slice (some AL) n cL] 37) = w1 := ⟨_, rfl⟩
  have HC : Hid (w1.cell? ⟨w.heap.size, 2, none⟩ = some (.slice AW L cW)) := by
    rw [← hw1]
    exact (Blk.new w _ _).cell 2
  rw [hw1] at HW HB ⊢
  clear hw1
  go_loopw [7, 8] (fun u q wr => ∃ i : Nat, i ≤ L ∧ q = .int .i64 i ∧ u = .int .i64 (onWay (W.take i) a b).length ∧ wr = w1) (fun _ q _ => L - (intOf q).toNat)
  case atStart => exact ⟨0, by omega, rfl, rfl, rfl⟩
  case round =>
    obtain ⟨i, hi, rfl, rfl, rfl⟩ := hrel
    have c0 := HC.out
    by_cases hlt : i < L
    · have hlt' : (i : Int) < L := by omega
      obtain ⟨ad, rfl, -, -, c1, c2, -⟩ := HW.out i hlt
      have c2' : wr.cell? ⟨(ad.add (i * 3)).block, (ad.add (i * 3)).off + 1, none⟩ = some (.int .i64 (wB W i)) := by
        rw [← add_lit1, add_of_add]
        exact c2
      have hlen := onWay_take_succ W a b (i := i) (by rw [HLE.out]; exact hlt)
      have hle : (onWay (W.take i) a b).length ≤ 1000000 := by
        unfold onWay
        rw [List.length_map]
        have h1 := List.length_filter_le (fun p : Nat × Nat × Int => decide (p.1 = a ∧ p.2.1 = b)) (W.take i)
        have h2 := List.length_take_le i W
        omega
      obtain ⟨z, hz⟩ : ∃ z, (onWay (W.take i) a b).length = z := ⟨_, rfl⟩
      obtain ⟨z2, hz2⟩ : ∃ z, (onWay (W.take (i + 1)) a b).length = z := ⟨_, rfl⟩
      have HZ2 := Lib.hid hz2
      rw [hz, hz2] at hlen
      rw [hz] at hle ⊢
      obtain ⟨p, hp⟩ : ∃ p, wA W i = p := ⟨_, rfl⟩
      obtain ⟨r, hr⟩ : ∃ p, wB W i = p := ⟨_, rfl⟩
      rw [hp] at c1 hlen
      rw [hr] at c2' hlen
      clear hz hz2 hp hr c2
      by_cases h1 : p = a
      · have e1 : (p == (a : Int)) = true := by simp [h1]
        by_cases h2 : r = b
        · have e2 : (r == (b : Int)) = true := by simp [h2]
          rw [if_pos ⟨h1, h2⟩] at hlen
          have HE := Lib.hid hlen
          clear h1 h2 hlen
          go_wp2_with fail
          go_roundw
          case rel => exact ⟨i + 1, by omega, by go_num, by rw [HZ2.out, HE.out]; go_num, trivial⟩
          case measure => simp [intOf]; omega
        · have e2 : (r == (b : Int)) = false := beq_false_of_ne h2
          rw [if_neg (fun h => h2 h.2)] at hlen
          have HE := Lib.hid hlen
          clear h1 h2 hlen
          go_wp2_with fail
          go_roundw
          case rel => exact ⟨i + 1, by omega, by go_num, by rw [HZ2.out, HE.out]; rfl, trivial⟩
          case measure => simp [intOf]; omega
      · have e1 : (p == (a : Int)) = false := beq_false_of_ne h1
        rw [if_neg (fun h => h1 h.1)] at hlen
        have HE := Lib.hid hlen
        clear h1 hlen
        go_wp2_with fail
        go_roundw
        case rel => exact ⟨i + 1, by omega, by go_num, by rw [HZ2.out, HE.out]; rfl, trivial⟩
        case measure => simp [intOf]; omega
    · have ei : i = L := by omega
      have HT : Hid (W.take i = W) := by
        rw [ei, ← HLE.out]
        exact List.take_length
      have d1 : decide (i < L) = false := decide_eq_false hlt
      rw [HT.out]
      clear ei
      go_wp2_with fail
      go_ret
      exact ⟨rfl, HB.out⟩


end Go.Proofs.YtminfghiejgieaaDoor

/- The reference's net: what is wrong with sending, with taking; rows copied. -/
namespace Go.Proofs.YtminfghiejgieaaDoor
open Go.RowKit
set_option linter.unusedVariables false

def qSendE (n : Nat) (K : Nat → Nat → Int) (W : WayL) (a b : Int) : Int := if nearE n K a b = 0 ∧ 20 ≤ (onWay W a.toNat b.toNat).length then 4 else nearE n K a b
def qTakeE (n : Nat) (K : Nat → Nat → Int) (W : WayL) (a b : Int) : Int := if nearE n K a b = 0 ∧ (onWay W a.toNat b.toNat).length = 0 then 2 else nearE n K a b

set_option maxRecDepth 100000 in
set_option maxHeartbeats 1000000 in
theorem qSend (P : Nat → Prop) (v : Array Value) (n t : Nat) (K h : Nat → Nat → Int) (f e : Nat → Int) (W : WayL) (a b : Int) (w : World) (q : QR P w v n t K h f e W) (h8 : n ≤ 8) (hWl : W.length ≤ 1000000) :
    Calls Tryd.prog 18 #[.agg v, .int .i64 a, .int .i64 b] w fun e w' => e = .returned (.int .i64 (qSendE n K W a b)) ∧ Below w.heap.size w w' := by
  have HQ := Lib.hid q
  obtain ⟨AC, cC, AW, cW, AH, cH, AF, cF, AL, cL, rfl, -⟩ := q
  have hb1 : Below w.heap.size w (w.alloc (.cells #[.int .i64 t, .slice (some AC) n cC, .slice AW W.length cW, .slice (some AH) n cH, .slice (some AF) n cF, .slice (some AL) n cL] 37)) := (Below.refl _ _).alloc (Nat.le_refl _) _
  have HB := Lib.hid hb1
  have HC := Lib.hid (qNear P _ n t K h f e W a b _ (HQ.out.below hb1) h8)
  obtain ⟨k, hk⟩ : ∃ k, nearE n K a b = k := ⟨_, rfl⟩
  rw [hk] at HC
  by_cases h0 : k = 0
  · subst h0
    obtain ⟨x, y, rfl, rfl, hx, hy, hne, h16⟩ := near_zero hk
    obtain ⟨z, hz⟩ : ∃ z, (onWay W x y).length = z := ⟨_, rfl⟩
    have HCW : Hid (∀ w', Below w.heap.size w w' → Calls Tryd.prog 13 #[.agg #[.int .i64 t, .slice (some AC) n cC, .slice AW W.length cW, .slice (some AH) n cH, .slice (some AF) n cF, .slice (some AL) n cL], .int .i64 x, .int .i64 y] w' fun e w'' => e = .returned (.int .i64 z) ∧ Below w'.heap.size w' w'') := fun w' hb => by
      rw [← hz]
      exact qWaits P _ n t K h f e W x y x y rfl rfl w' (HQ.out.below hb) hWl
    have en : qSendE n K W x y = if 20 ≤ z then 4 else 0 := by
      unfold qSendE
      rw [show ((x : Int)).toNat = x by omega, show ((y : Int)).toNat = y by omega, hz, hk]
      by_cases hc : 20 ≤ z
      · rw [if_pos ⟨rfl, hc⟩, if_pos hc]
      · rw [if_neg (fun h => hc h.2), if_neg hc]
    rw [en]
    clear en hk hz hb1 hx hy hne h16
    by_cases hc : 20 ≤ z
    · rw [if_pos hc]
      have d1 : decide ((20 : Int) ≤ z) = true := decide_eq_true (by omega)
      have d2 : decide (20 ≤ z) = true := decide_eq_true hc
      clear hc
      go_enter Tryd.func18, Tryd.ntmps18
      go_wp2_with fail
      refine HC.out.mono ?_
      rintro e w1 ⟨rfl, hw1⟩
      have HB1 := Lib.hid (keep HB.out hw1)
      have hbx : Blk w1 w.heap.size 37 #[.int .i64 t, .slice (some AC) n cC, .slice AW W.length cW, .slice (some AH) n cH, .slice (some AF) n cF, .slice (some AL) n cL] := (Blk.new w _ _).below hw1 (by simp)
      have k0 : w1.cell? ⟨w.heap.size, 0, none⟩ = some (.int .i64 t) := hbx.cell 0
      have k1 : w1.cell? ⟨w.heap.size, 1, none⟩ = some (.slice (some AC) n cC) := hbx.cell 1
      have k2 : w1.cell? ⟨w.heap.size, 2, none⟩ = some (.slice AW W.length cW) := hbx.cell 2
      have k3 : w1.cell? ⟨w.heap.size, 3, none⟩ = some (.slice (some AH) n cH) := hbx.cell 3
      have k4 : w1.cell? ⟨w.heap.size, 4, none⟩ = some (.slice (some AF) n cF) := hbx.cell 4
      have k5 : w1.cell? ⟨w.heap.size, 5, none⟩ = some (.slice (some AL) n cL) := hbx.cell 5
      clear hbx hw1
      go_wp2_with fail
      refine (HCW.out _ HB1.out).mono ?_
      rintro e w2 ⟨rfl, hw2⟩
      have HB2 := Lib.hid (keep HB1.out hw2)
      clear hw2
      go_wp2_with fail
      go_ret
      exact ⟨rfl, HB2.out⟩
    · rw [if_neg hc]
      have d1 : decide ((20 : Int) ≤ z) = false := decide_eq_false (by omega)
      have d2 : decide (20 ≤ z) = false := decide_eq_false hc
      clear hc
      go_enter Tryd.func18, Tryd.ntmps18
      go_wp2_with fail
      refine HC.out.mono ?_
      rintro e w1 ⟨rfl, hw1⟩
      have HB1 := Lib.hid (keep HB.out hw1)
      have hbx : Blk w1 w.heap.size 37 #[.int .i64 t, .slice (some AC) n cC, .slice AW W.length cW, .slice (some AH) n cH, .slice (some AF) n cF, .slice (some AL) n cL] := (Blk.new w _ _).below hw1 (by simp)
      have k0 : w1.cell? ⟨w.heap.size, 0, none⟩ = some (.int .i64 t) := hbx.cell 0
      have k1 : w1.cell? ⟨w.heap.size, 1, none⟩ = some (.slice (some AC) n cC) := hbx.cell 1
      have k2 : w1.cell? ⟨w.heap.size, 2, none⟩ = some (.slice AW W.length cW) := hbx.cell 2
      have k3 : w1.cell? ⟨w.heap.size, 3, none⟩ = some (.slice (some AH) n cH) := hbx.cell 3
      have k4 : w1.cell? ⟨w.heap.size, 4, none⟩ = some (.slice (some AF) n cF) := hbx.cell 4
      have k5 : w1.cell? ⟨w.heap.size, 5, none⟩ = some (.slice (some AL) n cL) := hbx.cell 5
      clear hbx hw1
      go_wp2_with fail
      refine (HCW.out _ HB1.out).mono ?_
      rintro e w2 ⟨rfl, hw2⟩
      have HB2 := Lib.hid (keep HB1.out hw2)
      clear hw2
      go_wp2_with fail
      go_ret
      exact ⟨rfl, HB2.out⟩
  · have en : qSendE n K W a b = k := by
      unfold qSendE
      rw [if_neg (fun h => h0 (hk ▸ h.1)), hk]
    rw [en]
    have HCN : Hid (∀ w', Below w.heap.size w w' → Calls Tryd.prog 12 #[.agg #[.int .i64 t, .slice (some AC) n cC, .slice AW W.length cW, .slice (some AH) n cH, .slice (some AF) n cF, .slice (some AL) n cL], .int .i64 a, .int .i64 b] w' fun e w'' => e = .returned (.int .i64 k) ∧ Below w'.heap.size w' w'') := fun w' hb => by
      rw [← hk]
      exact qNear P _ n t K h f e W a b w' (HQ.out.below hb) h8
    have d0 : (k == 0) = false := beq_false_of_ne h0
    have d1 : (k != 0) = true := bne_iff_ne.2 h0
    clear en hk hb1 h0
    go_enter Tryd.func18, Tryd.ntmps18
    go_wp2_with fail
    refine HC.out.mono ?_
    rintro e w1 ⟨rfl, hw1⟩
    have HB1 := Lib.hid (keep HB.out hw1)
    have hbx : Blk w1 w.heap.size 37 #[.int .i64 t, .slice (some AC) n cC, .slice AW W.length cW, .slice (some AH) n cH, .slice (some AF) n cF, .slice (some AL) n cL] := (Blk.new w _ _).below hw1 (by simp)
    have k0 : w1.cell? ⟨w.heap.size, 0, none⟩ = some (.int .i64 t) := hbx.cell 0
    have k1 : w1.cell? ⟨w.heap.size, 1, none⟩ = some (.slice (some AC) n cC) := hbx.cell 1
    have k2 : w1.cell? ⟨w.heap.size, 2, none⟩ = some (.slice AW W.length cW) := hbx.cell 2
    have k3 : w1.cell? ⟨w.heap.size, 3, none⟩ = some (.slice (some AH) n cH) := hbx.cell 3
    have k4 : w1.cell? ⟨w.heap.size, 4, none⟩ = some (.slice (some AF) n cF) := hbx.cell 4
    have k5 : w1.cell? ⟨w.heap.size, 5, none⟩ = some (.slice (some AL) n cL) := hbx.cell 5
    clear hbx hw1
    go_wp2_with fail
    refine (HCN.out _ HB1.out).mono ?_
    rintro e w2 ⟨rfl, hw2⟩
    have HB2 := Lib.hid (keep HB1.out hw2)
    clear hw2
    go_wp2_with fail
    go_ret
    exact ⟨rfl, HB2.out⟩

set_option maxRecDepth 100000 in
set_option maxHeartbeats 1000000 in
theorem qTake (P : Nat → Prop) (v : Array Value) (n t : Nat) (K h : Nat → Nat → Int) (f e : Nat → Int) (W : WayL) (a b : Int) (w : World) (q : QR P w v n t K h f e W) (h8 : n ≤ 8) (hWl : W.length ≤ 1000000) :
    Calls Tryd.prog 14 #[.agg v, .int .i64 a, .int .i64 b] w fun e w' => e = .returned (.int .i64 (qTakeE n K W a b)) ∧ Below w.heap.size w w' := by
  have HQ := Lib.hid q
  obtain ⟨AC, cC, AW, cW, AH, cH, AF, cF, AL, cL, rfl, -⟩ := q
  have hb1 : Below w.heap.size w (w.alloc (.cells #[.int .i64 t, .slice (some AC) n cC, .slice AW W.length cW, .slice (some AH) n cH, .slice (some AF) n cF, .slice (some AL) n cL] 37)) := (Below.refl _ _).alloc (Nat.le_refl _) _
  have HB := Lib.hid hb1
  have HC := Lib.hid (qNear P _ n t K h f e W a b _ (HQ.out.below hb1) h8)
  obtain ⟨k, hk⟩ : ∃ k, nearE n K a b = k := ⟨_, rfl⟩
  rw [hk] at HC
  by_cases h0 : k = 0
  · subst h0
    obtain ⟨x, y, rfl, rfl, hx, hy, hne, h16⟩ := near_zero hk
    obtain ⟨z, hz⟩ : ∃ z, (onWay W x y).length = z := ⟨_, rfl⟩
    have HCW : Hid (∀ w', Below w.heap.size w w' → Calls Tryd.prog 13 #[.agg #[.int .i64 t, .slice (some AC) n cC, .slice AW W.length cW, .slice (some AH) n cH, .slice (some AF) n cF, .slice (some AL) n cL], .int .i64 x, .int .i64 y] w' fun e w'' => e = .returned (.int .i64 z) ∧ Below w'.heap.size w' w'') := fun w' hb => by
      rw [← hz]
      exact qWaits P _ n t K h f e W x y x y rfl rfl w' (HQ.out.below hb) hWl
    have en : qTakeE n K W x y = if z = 0 then 2 else 0 := by
      unfold qTakeE
      rw [show ((x : Int)).toNat = x by omega, show ((y : Int)).toNat = y by omega, hz, hk]
      by_cases hc : z = 0
      · rw [if_pos ⟨rfl, hc⟩, if_pos hc]
      · rw [if_neg (fun h => hc h.2), if_neg hc]
    rw [en]
    clear en hk hz hb1 hx hy hne h16
    by_cases hc : z = 0
    · rw [if_pos hc]
      have d1 : ((z : Int) == 0) = true := by simp [hc]
      have d2 : (z == 0) = true := by simp [hc]
      clear hc
      go_enter Tryd.func14, Tryd.ntmps14
      go_wp2_with fail
      refine HC.out.mono ?_
      rintro e w1 ⟨rfl, hw1⟩
      have HB1 := Lib.hid (keep HB.out hw1)
      have hbx : Blk w1 w.heap.size 37 #[.int .i64 t, .slice (some AC) n cC, .slice AW W.length cW, .slice (some AH) n cH, .slice (some AF) n cF, .slice (some AL) n cL] := (Blk.new w _ _).below hw1 (by simp)
      have k0 : w1.cell? ⟨w.heap.size, 0, none⟩ = some (.int .i64 t) := hbx.cell 0
      have k1 : w1.cell? ⟨w.heap.size, 1, none⟩ = some (.slice (some AC) n cC) := hbx.cell 1
      have k2 : w1.cell? ⟨w.heap.size, 2, none⟩ = some (.slice AW W.length cW) := hbx.cell 2
      have k3 : w1.cell? ⟨w.heap.size, 3, none⟩ = some (.slice (some AH) n cH) := hbx.cell 3
      have k4 : w1.cell? ⟨w.heap.size, 4, none⟩ = some (.slice (some AF) n cF) := hbx.cell 4
      have k5 : w1.cell? ⟨w.heap.size, 5, none⟩ = some (.slice (some AL) n cL) := hbx.cell 5
      clear hbx hw1
      go_wp2_with fail
      refine (HCW.out _ HB1.out).mono ?_
      rintro e w2 ⟨rfl, hw2⟩
      have HB2 := Lib.hid (keep HB1.out hw2)
      clear hw2
      go_wp2_with fail
      go_ret
      exact ⟨rfl, HB2.out⟩
    · rw [if_neg hc]
      have d1 : ((z : Int) == 0) = false := beq_false_of_ne (by omega)
      have d2 : (z == 0) = false := beq_false_of_ne hc
      clear hc
      go_enter Tryd.func14, Tryd.ntmps14
      go_wp2_with fail
      refine HC.out.mono ?_
      rintro e w1 ⟨rfl, hw1⟩
      have HB1 := Lib.hid (keep HB.out hw1)
      have hbx : Blk w1 w.heap.size 37 #[.int .i64 t, .slice (some AC) n cC, .slice AW W.length cW, .slice (some AH) n cH, .slice (some AF) n cF, .slice (some AL) n cL] := (Blk.new w _ _).below hw1 (by simp)
      have k0 : w1.cell? ⟨w.heap.size, 0, none⟩ = some (.int .i64 t) := hbx.cell 0
      have k1 : w1.cell? ⟨w.heap.size, 1, none⟩ = some (.slice (some AC) n cC) := hbx.cell 1
      have k2 : w1.cell? ⟨w.heap.size, 2, none⟩ = some (.slice AW W.length cW) := hbx.cell 2
      have k3 : w1.cell? ⟨w.heap.size, 3, none⟩ = some (.slice (some AH) n cH) := hbx.cell 3
      have k4 : w1.cell? ⟨w.heap.size, 4, none⟩ = some (.slice (some AF) n cF) := hbx.cell 4
      have k5 : w1.cell? ⟨w.heap.size, 5, none⟩ = some (.slice (some AL) n cL) := hbx.cell 5
      clear hbx hw1
      go_wp2_with fail
      refine (HCW.out _ HB1.out).mono ?_
      rintro e w2 ⟨rfl, hw2⟩
      have HB2 := Lib.hid (keep HB1.out hw2)
      clear hw2
      go_wp2_with fail
      go_ret
      exact ⟨rfl, HB2.out⟩
  · have en : qTakeE n K W a b = k := by
      unfold qTakeE
      rw [if_neg (fun h => h0 (hk ▸ h.1)), hk]
    rw [en]
    have HCN : Hid (∀ w', Below w.heap.size w w' → Calls Tryd.prog 12 #[.agg #[.int .i64 t, .slice (some AC) n cC, .slice AW W.length cW, .slice (some AH) n cH, .slice (some AF) n cF, .slice (some AL) n cL], .int .i64 a, .int .i64 b] w' fun e w'' => e = .returned (.int .i64 k) ∧ Below w'.heap.size w' w'') := fun w' hb => by
      rw [← hk]
      exact qNear P _ n t K h f e W a b w' (HQ.out.below hb) h8
    have d0 : (k == 0) = false := beq_false_of_ne h0
    have d1 : (k != 0) = true := bne_iff_ne.2 h0
    clear en hk hb1 h0
    go_enter Tryd.func14, Tryd.ntmps14
    go_wp2_with fail
    refine HC.out.mono ?_
    rintro e w1 ⟨rfl, hw1⟩
    have HB1 := Lib.hid (keep HB.out hw1)
    have hbx : Blk w1 w.heap.size 37 #[.int .i64 t, .slice (some AC) n cC, .slice AW W.length cW, .slice (some AH) n cH, .slice (some AF) n cF, .slice (some AL) n cL] := (Blk.new w _ _).below hw1 (by simp)
    have k0 : w1.cell? ⟨w.heap.size, 0, none⟩ = some (.int .i64 t) := hbx.cell 0
    have k1 : w1.cell? ⟨w.heap.size, 1, none⟩ = some (.slice (some AC) n cC) := hbx.cell 1
    have k2 : w1.cell? ⟨w.heap.size, 2, none⟩ = some (.slice AW W.length cW) := hbx.cell 2
    have k3 : w1.cell? ⟨w.heap.size, 3, none⟩ = some (.slice (some AH) n cH) := hbx.cell 3
    have k4 : w1.cell? ⟨w.heap.size, 4, none⟩ = some (.slice (some AF) n cF) := hbx.cell 4
    have k5 : w1.cell? ⟨w.heap.size, 5, none⟩ = some (.slice (some AL) n cL) := hbx.cell 5
    clear hbx hw1
    go_wp2_with fail
    refine (HCN.out _ HB1.out).mono ?_
    rintro e w2 ⟨rfl, hw2⟩
    have HB2 := Lib.hid (keep HB1.out hw2)
    clear hw2
    go_wp2_with fail
    go_ret
    exact ⟨rfl, HB2.out⟩

set_option maxRecDepth 100000 in
set_option maxHeartbeats 1000000 in
theorem rowed_walk (A : Option Addr) (n c : Nat) (F : Nat → Nat → Int) (w : World) (hM : Mat w A n (fun _ => n) F) (h1 : 1 ≤ n) (h8 : n ≤ 8) :
    Calls Tryd.prog 52 #[.slice A n c] w fun e w' => ∃ v, e = .returned v ∧ Tab w' w.heap.size v n n F ∧ Below w.heap.size w w' := by
  have h1' : (1 : Int) ≤ n := by omega
  have h8' : (n : Int) ≤ 8 := by omega
  have HM := Lib.hid hM
  clear hM
  go_enter Tryd.func52, Tryd.ntmps52
  go_wp2_with fail
  go_loopw [3, 4] (fun v q wr => ∃ i : Nat, i ≤ n ∧ q = .int .i64 i ∧ Tab wr w.heap.size v i n F ∧ Below w.heap.size w wr) (fun _ q _ => n - (intOf q).toNat)
  case atStart => exact ⟨0, by omega, rfl, Tab.nil _ _ _ _, Below.refl _ _⟩
  case round =>
    obtain ⟨i, hi, rfl, hT, hb⟩ := hrel
    have HT := Lib.hid hT
    have HB := Lib.hid hb
    clear hT hb
    by_cases hlt : i < n
    · have hlt' : (i : Int) < n := by omega
      have hb1 : Below wr.heap.size wr (wr.alloc (.cells #[] 3)) := (Below.refl _ _).alloc (Nat.le_refl _) _
      obtain ⟨ad, Ai, ci, rfl, -, c1, hv⟩ := (HM.out.keep HB.out).keep hb1 i hlt
      have HV := Lib.hid hv
      have HB1 := Lib.hid hb1
      clear hv hb1
      go_wp2_with (at_builtin; refine wpList_plain rfl fun K hK => wp_copy_int (.tmp 12) (.tmp 16) rfl rfl ⟨wr.heap.size, rfl⟩ rfl h1 (by omega) HV.out ?_)
      intro cap w3 hrow hb3 hlt3
      have HROW := Lib.hid hrow
      have HB3 := Lib.hid (HB1.out.trans (hb3.mono (by simp)))
      have HSW := Lib.hid HB.out.size
      clear hrow hb3 hlt3
      refine hK _ _ ?_
      clear hK K
      try simp only [Act.put]
      go_wp2_with (at_builtin; refine wpList_append_tab rfl (.tmp 11) (.tmp 18) rfl wr w.heap.size _ i n F rfl HT.out (HB3.out.alloc HB3.out.size _) (wr.heap.size + 1) cap (by omega) (HROW.out.alloc _) _ rfl (cell_new_at _ _ _ rfl) (by omega) HSW.out ?_)
      intro v4 w4 hT4 hb4
      have HT4 := Lib.hid hT4
      have HB4 : Hid (Below w.heap.size w w4) := (HB.out.trans ((HB3.out.alloc HB3.out.size _).mono HSW.out)).trans hb4
      clear hT4 hb4
      go_wp2_with fail
      go_roundw
      case rel => exact ⟨i + 1, by omega, by go_num, HT4.out, HB4.out⟩
      case measure => simp [intOf]; omega
    · have ei : i = n := by omega
      subst ei
      go_wp2_with fail
      go_ret
      exact ⟨_, rfl, HT.out, HB.out⟩

end Go.Proofs.YtminfghiejgieaaDoor

/- A region that draws its order, told by what holds between its operations, whichever are done. -/
namespace Go.Proofs.YtminfghiejgieaaDoor
open Go.RowKit
set_option linter.unusedVariables false

/-- How many are not listed yet. -/
def leftN (listed : Array Bool) : Nat := listed.toList.count false

theorem left_set {listed : Array Bool} {i : Nat} (h : listed.getD i true = false) : leftN (listed.setIfInBounds i true) + 1 = leftN listed := by
  have hi : i < listed.size := by
    rcases Nat.lt_or_ge i listed.size with h' | h'
    · exact h'
    · simp [Array.getD, Nat.not_lt.2 h'] at h
  have he : listed[i] = false := by
    simpa [Array.getD, hi] using h
  unfold leftN
  rw [Array.toList_setIfInBounds]
  have hl : i < listed.toList.length := by simpa using hi
  have he' : listed.toList[i] = false := by simpa using he
  have hpos : 0 < listed.toList.count false := List.count_pos_iff.2 (by rw [← he']; exact List.getElem_mem _)
  rw [List.count_set hl, he']
  show listed.toList.count false - 1 + 0 + 1 = listed.toList.count false
  omega

section
variable {P : Program} {ops : Array Oper} {Q : Exit → Act → World → Prop} {md : Region.Mode} {S : World → Prop} {l : Nat}

theorem wpTail_inv (I : Array Bool → Act → World → Prop)
    (hstep : ∀ listed a w i, I listed a w → i ∈ Region.ready md ops listed → wpOp P ops Q i (fun a' w' => (i = l ∨ S w') ∧ I (listed.setIfInBounds i true) a' w') a w)
    (hend : ∀ listed a w, I listed a w → Region.ready md ops listed = [] → Q .normal a w) :
    ∀ n listed a w, leftN listed ≤ n → I listed a w → wpTail P md ops Q S l n listed a w
  | 0, listed, a, w, hn, hI => by
    have h0 : Region.ready md ops listed = [] := by
      rw [List.eq_nil_iff_forall_not_mem]
      intro i hi
      have := left_set (mem_ready.1 hi).1
      omega
    exact ⟨h0, hend _ _ _ hI h0⟩
  | n + 1, listed, a, w, hn, hI => ⟨fun h0 => hend _ _ _ hI h0, fun i hi => by
    have hl := left_set (mem_ready.1 hi).1
    exact wpOp_mono (fun a' w' h => ⟨h.1, wpTail_inv I hstep hend n _ a' w' (by omega) h.2⟩) (hstep _ _ _ i hI hi)⟩
end

end Go.Proofs.YtminfghiejgieaaDoor

/- A copy of the reference's net: what it is made of. -/
namespace Go.Proofs.YtminfghiejgieaaDoor
open Go.RowKit
set_option linter.unusedVariables false

section
variable {a : Act} {d i : Nat} {v : Value}
theorem put_here (hd : d < a.tmps.size) : (a.put (some d) v).tmps[d]? = some v := by
  show (a.tmps.setIfInBounds d v)[d]? = some v
  simp [hd]
theorem put_there (h : i ≠ d) : (a.put (some d) v).tmps[i]? = a.tmps[i]? := by
  show (a.tmps.setIfInBounds d v)[i]? = a.tmps[i]?
  rw [Array.getElem?_setIfInBounds_ne (Ne.symm h)]
theorem put_len : (a.put (some d) v).tmps.size = a.tmps.size := by
  show (a.tmps.setIfInBounds d v).size = _
  simp
theorem put_dfr : (a.put (some d) v).defers = a.defers := rfl
theorem eval_of (h : a.tmps[i]? = some v) : a.eval (.tmp i) = v := by
  show a.tmps.getD i undef = v
  rw [Array.getD_eq_getD_getElem?, h]
  rfl
end

/-- A table in blocks from lo on, below hi. -/
structure TabX (w : World) (lo hi g : Nat) (B C : Nat → Nat) (n : Nat) (F : Nat → Nat → Int) : Prop where
  ge : lo ≤ g
  lt : g < hi
  row : RowP w g 24 n fun r => .slice (some ⟨B r, 0, none⟩) n (C r)
  rows : ∀ r, r < n → lo ≤ B r ∧ B r < hi ∧ RowP w (B r) 3 n fun k => .int .i64 (F r k)
  inj : ∀ r s, r < n → s < n → B r = B s → r = s
  ne : ∀ r, r < n → g ≠ B r

section
variable {w w' : World} {lo hi g n : Nat} {B C : Nat → Nat} {F : Nat → Nat → Int}
theorem TabX.same (h : TabX w lo hi g B C n F) (hs : ∀ b, lo ≤ b → b < hi → w'.heap[b]? = w.heap[b]?) : TabX w' lo hi g B C n F :=
  ⟨h.ge, h.lt, h.row.of_block (hs g h.ge h.lt), fun r hr => ⟨(h.rows r hr).1, (h.rows r hr).2.1, (h.rows r hr).2.2.of_block (hs _ (h.rows r hr).1 (h.rows r hr).2.1)⟩, h.inj, h.ne⟩
theorem TabX.below (h : TabX w lo hi g B C n F) (hb : Below w.heap.size w w') (hz : hi ≤ w.heap.size) : TabX w' lo hi g B C n F := h.same fun b _ hlt => hb.block b (by omega)
theorem TabX.of_tab {v : Value} (h1 : 1 ≤ n) (h : Tab w lo v n n F) : ∃ g c B C, v = .slice (some ⟨g, 0, none⟩) n c ∧ TabX w lo w.heap.size g B C n F := by
  obtain ⟨B, C, hA⟩ := h.at_
  obtain ⟨g, c, rfl, h2, h3, -, h4⟩ := hA.cells h1
  exact ⟨g, c, B, C, rfl, h2, h3, RowP.of_own hA.own, fun r hr => ⟨(hA.row r hr).1, (hA.row r hr).2.lt, (hA.row r hr).2⟩, hA.inj, h4⟩
theorem TabX.set (h : TabX w lo hi g B C n F) {r : Nat} (hr : r < n) (k : Nat) (x : Int) : TabX (w.setCell ⟨B r, k, none⟩ (.int .i64 x)) lo hi g B C n (fun p q => if p = r ∧ q = k then x else F p q) := by
  refine ⟨h.ge, h.lt, h.row.setOther (h.ne r hr) _, fun p hp => ⟨(h.rows p hp).1, (h.rows p hp).2.1, ?_⟩, h.inj, h.ne⟩
  by_cases e : p = r
  · subst e
    refine ((h.rows p hp).2.2.set k _).congr fun j _ => ?_
    unfold upd
    by_cases e : j = k <;> simp [e]
  · refine ((h.rows p hp).2.2.setOther (a := ⟨B r, k, none⟩) (fun e' => e (h.inj p r hp hr e')) _).congr fun j _ => ?_
    simp [e]
theorem TabX.matP {P : Nat → Prop} (h : TabX w lo hi g B C n F) (hP : ∀ b, lo ≤ b → b < hi → P b) : MatP w P (some ⟨g, 0, none⟩) n F := fun i hi' =>
  ⟨_, _, C i, rfl, hP g h.ge h.lt, h.row.lt, by rw [Addr.add_lit, Nat.zero_add]; exact h.row.cell hi', fun j hj => ⟨_, rfl, hP _ (h.rows i hi').1 (h.rows i hi').2.1, (h.rows i hi').2.2.lt, by rw [Addr.add_lit, Nat.zero_add]; exact (h.rows i hi').2.2.cell hj⟩⟩
theorem RowP.vecP {P : Nat → Prop} {f : Nat → Int} (h : RowP w g 3 n fun i => .int .i64 (f i)) (hP : P g) : VecP w P (some ⟨g, 0, none⟩) n f := fun j hj => ⟨_, rfl, hP, h.lt, by rw [Addr.add_lit, Nat.zero_add]; exact h.cell hj⟩
end

/-- Where a copy lies. -/
structure CD where
  gC : Nat
  cC : Nat
  BC : Nat → Nat
  CC : Nat → Nat
  vW : Value
  gH : Nat
  cH : Nat
  BH : Nat → Nat
  CH : Nat → Nat
  gF : Nat
  cF : Nat
  gL : Nat
  cL : Nat
  m1 : Nat
  m2 : Nat
  m3 : Nat

def CD.val (d : CD) (n t : Nat) : Array Value := #[.int .i64 t, .slice (some ⟨d.gC, 0, none⟩) n d.cC, d.vW, .slice (some ⟨d.gH, 0, none⟩) n d.cH, .slice (some ⟨d.gF, 0, none⟩) n d.cF, .slice (some ⟨d.gL, 0, none⟩) n d.cL]

/-- The first k parts of a copy. -/
structure CP (k m0 n t : Nat) (K h : Nat → Nat → Int) (f e : Nat → Int) (W : WayL) (d : CD) (w : World) : Prop where
  p1 : 1 ≤ k → TabX w m0 d.m1 d.gC d.BC d.CC n K ∧ d.m1 ≤ w.heap.size
  p2 : 2 ≤ k → WayO w d.m1 d.vW W.length (wA W) (wB W) (wD W) ∧ (∀ g, W.length ≠ 0 → d.vW.ownBlock = some g → g < d.m2) ∧ d.m1 ≤ d.m2 ∧ d.m2 ≤ w.heap.size
  p3 : 3 ≤ k → TabX w d.m2 d.m3 d.gH d.BH d.CH n h ∧ d.m3 ≤ w.heap.size ∧ d.m2 ≤ d.m3
  p4 : 4 ≤ k → RowP w d.gF 3 n (fun i => .int .i64 (f i)) ∧ d.m3 ≤ d.gF
  p5 : 5 ≤ k → RowP w d.gL 3 n (fun i => .int .i64 (e i)) ∧ d.gF < d.gL

section
variable {k m0 n t : Nat} {K h : Nat → Nat → Int} {f e : Nat → Int} {W : WayL} {d : CD} {w w' : World}
theorem CP.below (c : CP k m0 n t K h f e W d w) (hb : Below w.heap.size w w') : CP k m0 n t K h f e W d w' := by
  refine ⟨fun hk => ?_, fun hk => ?_, fun hk => ?_, fun hk => ?_, fun hk => ?_⟩
  · obtain ⟨h1, h2⟩ := c.p1 hk
    exact ⟨h1.below hb h2, Nat.le_trans h2 hb.size⟩
  · obtain ⟨h1, h2, h3, h4⟩ := c.p2 hk
    exact ⟨h1.below hb, h2, h3, Nat.le_trans h4 hb.size⟩
  · obtain ⟨h1, h2, h3⟩ := c.p3 hk
    exact ⟨h1.below hb h2, Nat.le_trans h2 hb.size, h3⟩
  · obtain ⟨h1, h2⟩ := c.p4 hk
    exact ⟨h1.below hb h1.lt, h2⟩
  · obtain ⟨h1, h2⟩ := c.p5 hk
    exact ⟨h1.below hb h1.lt, h2⟩
theorem CP.none : CP 0 m0 n t K h f e W d w := ⟨fun h => absurd h (by omega), fun h => absurd h (by omega), fun h => absurd h (by omega), fun h => absurd h (by omega), fun h => absurd h (by omega)⟩
theorem CP.one {g c : Nat} {B C : Nat → Nat} (hT : TabX w m0 w.heap.size g B C n K) : CP 1 m0 n t K h f e W { d with gC := g, cC := c, BC := B, CC := C, m1 := w.heap.size } w :=
  ⟨fun _ => ⟨hT, Nat.le_refl _⟩, fun h => absurd h (by omega), fun h => absurd h (by omega), fun h => absurd h (by omega), fun h => absurd h (by omega)⟩
theorem CP.two (c : CP 1 m0 n t K h f e W d w) (hb : Below w.heap.size w w') {v : Value} (hv : WayO w' w.heap.size v W.length (wA W) (wB W) (wD W)) : CP 2 m0 n t K h f e W { d with vW := v, m2 := w'.heap.size } w' := by
  have c' := c.below hb
  obtain ⟨h1, h2⟩ := c.p1 (by omega)
  refine ⟨fun _ => c'.p1 (by omega), fun _ => ⟨?_, fun g h0 hg => ?_, Nat.le_trans h2 hb.size, Nat.le_refl _⟩, fun h => absurd h (by omega), fun h => absurd h (by omega), fun h => absurd h (by omega)⟩
  · rcases hv with h | ⟨h0, h⟩
    · exact .inl h
    · refine .inr ⟨h0, h.1, ?_⟩
      rcases h.2 with h' | ⟨g, cap, cur, e1, hb', hr⟩
      · exact .inl h'
      · exact .inr ⟨g, cap, cur, e1, Nat.le_trans h2 hb', hr⟩
  · rcases hv with ⟨h, -⟩ | ⟨-, h⟩
    · exact absurd h h0
    · exact (h.lt g hg).2
theorem CP.three (c : CP 2 m0 n t K h f e W d w) {v : Value} (hb : Below w.heap.size w w') {g q : Nat} {B C : Nat → Nat} (hT : TabX w' w.heap.size w'.heap.size g B C n h) : CP 3 m0 n t K h f e W { d with gH := g, cH := q, BH := B, CH := C, m3 := w'.heap.size } w' := by
  have c' := c.below hb
  obtain ⟨-, -, -, h2⟩ := c.p2 (by omega)
  refine ⟨fun _ => c'.p1 (by omega), fun _ => c'.p2 (by omega), fun _ => ⟨⟨Nat.le_trans h2 hT.ge, hT.lt, hT.row, fun r hr => ⟨Nat.le_trans h2 (hT.rows r hr).1, (hT.rows r hr).2⟩, hT.inj, hT.ne⟩, Nat.le_refl _, Nat.le_trans h2 hb.size⟩, fun h => absurd h (by omega), fun h => absurd h (by omega)⟩
theorem CP.four (c : CP 3 m0 n t K h f e W d w) (hb : Below w.heap.size w w') {q : Nat} (hr : RowP w' w.heap.size 3 n fun i => .int .i64 (f i)) : CP 4 m0 n t K h f e W { d with gF := w.heap.size, cF := q } w' := by
  have c' := c.below hb
  obtain ⟨-, h2, -⟩ := c.p3 (by omega)
  exact ⟨fun _ => c'.p1 (by omega), fun _ => c'.p2 (by omega), fun _ => c'.p3 (by omega), fun _ => ⟨hr, h2⟩, fun h => absurd h (by omega)⟩
theorem CP.five (c : CP 4 m0 n t K h f e W d w) (hb : Below w.heap.size w w') {q : Nat} (hr : RowP w' w.heap.size 3 n fun i => .int .i64 (e i)) : CP 5 m0 n t K h f e W { d with gL := w.heap.size, cL := q } w' := by
  have c' := c.below hb
  obtain ⟨h2, -⟩ := c.p4 (by omega)
  exact ⟨fun _ => c'.p1 (by omega), fun _ => c'.p2 (by omega), fun _ => c'.p3 (by omega), fun _ => c'.p4 (by omega), fun _ => ⟨hr, h2.lt⟩⟩

/-- What a whole copy reads as. -/
theorem CP.reads (c : CP 5 m0 n t K h f e W d w) : QR (fun b => m0 ≤ b) w (d.val n t) n t K h f e W := by
  obtain ⟨h1, h1'⟩ := c.p1 (by omega)
  obtain ⟨h2, h2', h2'', h2s⟩ := c.p2 (by omega)
  obtain ⟨h3, h3', h3''⟩ := c.p3 (by omega)
  obtain ⟨h4, h4'⟩ := c.p4 (by omega)
  obtain ⟨h5, h5'⟩ := c.p5 (by omega)
  have hm : m0 ≤ d.m1 := Nat.le_trans h1.ge (Nat.le_of_lt h1.lt)
  obtain ⟨AW, cW, e, hl, hx⟩ := h2.lnk
  refine ⟨_, d.cC, AW, cW, _, d.cH, _, d.cF, _, d.cL, by unfold CD.val; rw [e], h1.matP fun b h _ => h, fun i hi => ?_, fun hA => ?_, h3.matP fun b h _ => by show m0 ≤ b; omega, h4.vecP (by show m0 ≤ d.gF; omega), h5.vecP (by show m0 ≤ d.gL; omega)⟩
  · obtain ⟨ad, hA, hlt, hrest⟩ := hl i hi
    refine ⟨ad, hA, ?_, hlt, hrest⟩
    rcases hx with ⟨h0, -⟩ | ⟨g, hg, hb, -, -⟩
    · omega
    · rw [hA] at hg
      simp only [Option.some.injEq] at hg
      subst hg
      show m0 ≤ g
      omega
  · rcases hx with ⟨h0, -⟩ | ⟨g, hg, -⟩
    · exact h0
    · rw [hA] at hg; cases hg
end

end Go.Proofs.YtminfghiejgieaaDoor

/- The reference's Copied, whatever order its parts are made in. -/
namespace Go.Proofs.YtminfghiejgieaaDoor
open Go.RowKit
set_option linter.unusedVariables false

theorem CP.far {k m0 n t : Nat} {K h : Nat → Nat → Int} {f e : Nat → Int} {W : WayL} {d : CD} {w w' : World} (c : CP k m0 n t K h f e W d w) (hk : k ≤ 5) (hs : ∀ b, m0 ≤ b → w'.heap[b]? = w.heap[b]?) (hz : w'.heap.size = w.heap.size) : CP k m0 n t K h f e W d w' := by
  have hm1 : 1 ≤ k → m0 ≤ d.m1 := fun hk => by
    obtain ⟨h1, -⟩ := c.p1 hk
    exact Nat.le_trans h1.ge (Nat.le_of_lt h1.lt)
  refine ⟨fun hk => ?_, fun hk => ?_, fun hk => ?_, fun hk => ?_, fun hk => ?_⟩
  · obtain ⟨h1, h2⟩ := c.p1 hk
    exact ⟨h1.same fun b hb _ => hs b hb, by omega⟩
  · obtain ⟨h1, h2, h3, h4⟩ := c.p2 hk
    have := hm1 (by omega)
    exact ⟨h1.same fun b hb _ => hs b (by omega), h2, h3, by omega⟩
  · obtain ⟨h1, h2, h3⟩ := c.p3 hk
    obtain ⟨-, -, h5, -⟩ := c.p2 (by omega)
    have := hm1 (by omega)
    exact ⟨h1.same fun b hb _ => hs b (by omega), by omega, h3⟩
  · obtain ⟨h1, h2⟩ := c.p4 hk
    obtain ⟨-, -, h5⟩ := c.p3 (by omega)
    obtain ⟨-, -, h6, -⟩ := c.p2 (by omega)
    have := hm1 (by omega)
    exact ⟨h1.of_block (hs _ (by omega)), h2⟩
  · obtain ⟨h1, h2⟩ := c.p5 hk
    obtain ⟨-, h4⟩ := c.p4 (by omega)
    obtain ⟨-, -, h5⟩ := c.p3 (by omega)
    obtain ⟨-, -, h6, -⟩ := c.p2 (by omega)
    have := hm1 (by omega)
    exact ⟨h1.of_block (hs _ (by omega)), h2⟩

/-- What the copying region reads. -/
def CopyS (b : Nat) (v : Array Value) (w : World) : Prop := w.cell? ⟨b, 0, none⟩ = some (v.getD 0 undef) ∧ w.cell? ⟨b, 1, none⟩ = some (v.getD 1 undef) ∧ w.cell? ⟨b, 2, none⟩ = some (v.getD 2 undef) ∧ w.cell? ⟨b, 3, none⟩ = some (v.getD 3 undef) ∧ w.cell? ⟨b, 4, none⟩ = some (v.getD 4 undef) ∧ w.cell? ⟨b, 5, none⟩ = some (v.getD 5 undef)

theorem CopyS.below {b : Nat} {v : Array Value} {w w' : World} (h : CopyS b v w) (hb : Below w.heap.size w w') : CopyS b v w' := by
  have hk : ∀ i x, w.cell? ⟨b, i, none⟩ = some x → w'.cell? ⟨b, i, none⟩ = some x := fun i x hx => (hb.cell (World.block_lt_of_cell? w _ hx)).trans hx
  exact ⟨hk _ _ h.1, hk _ _ h.2.1, hk _ _ h.2.2.1, hk _ _ h.2.2.2.1, hk _ _ h.2.2.2.2.1, hk _ _ h.2.2.2.2.2⟩

/-- Between two operations of a copy: so many parts are made. -/
structure CI (wb : World) (m0 M p2 n t : Nat) (K h : Nat → Nat → Int) (f e : Nat → Int) (W : WayL) (v : Array Value) (k : Nat) (d : CD) (listed : Array Bool) (a : Act) (w : World) : Prop where
  k7 : k ≤ 7
  sz : listed.size = 22
  tsz : a.tmps.size = 24
  dfr : a.defers = []
  bel : Below m0 wb w
  sS : k < 7 → CopyS m0 v w
  rd : ∀ i, i ∈ [0, 1, 2, 3, 6, 7, 9, 10, 13, 14, 17, 18] → listed[i]? = some true
  b4 : listed[4]? = some (decide (1 ≤ k))
  b8 : listed[8]? = some (decide (2 ≤ k))
  b11 : listed[11]? = some (decide (3 ≤ k))
  b15 : listed[15]? = some (decide (4 ≤ k))
  b19 : listed[19]? = some (decide (5 ≤ k))
  b20 : listed[20]? = some (decide (6 ≤ k))
  b21 : listed[21]? = some (decide (7 ≤ k))
  e5 : ∃ b, listed[5]? = some b ∧ (b = true → ∃ g, a.tmps[8]? = some (.slice (some ⟨g, 0, none⟩) 0 0)) ∧ (2 ≤ k → b = true)
  e12 : ∃ b, listed[12]? = some b ∧ (b = true → ∃ g, a.tmps[15]? = some (.slice (some ⟨g, 0, none⟩) 0 0)) ∧ (4 ≤ k → b = true)
  e16 : ∃ b, listed[16]? = some b ∧ (b = true → ∃ g, a.tmps[19]? = some (.slice (some ⟨g, 0, none⟩) 0 0)) ∧ (5 ≤ k → b = true)
  t2 : a.tmps[2]? = some (.pointer (some ⟨p2, 0, none⟩))
  t4 : a.tmps[4]? = some (v.getD 0 undef)
  t6 : a.tmps[6]? = some (v.getD 1 undef)
  t10 : a.tmps[10]? = some (v.getD 2 undef)
  t13 : a.tmps[13]? = some (v.getD 3 undef)
  t17 : a.tmps[17]? = some (v.getD 4 undef)
  t21 : a.tmps[21]? = some (v.getD 5 undef)
  o7 : 1 ≤ k → a.tmps[7]? = some (.slice (some ⟨d.gC, 0, none⟩) n d.cC)
  o11 : 2 ≤ k → a.tmps[11]? = some d.vW
  o14 : 3 ≤ k → a.tmps[14]? = some (.slice (some ⟨d.gH, 0, none⟩) n d.cH)
  o18 : 4 ≤ k → a.tmps[18]? = some (.slice (some ⟨d.gF, 0, none⟩) n d.cF)
  o22 : 5 ≤ k → a.tmps[22]? = some (.slice (some ⟨d.gL, 0, none⟩) n d.cL)
  o23 : 6 ≤ k → a.tmps[23]? = some (.agg (d.val n t))
  cp : CP (min k 5) M n t K h f e W d w
  mle : M ≤ w.heap.size
  blk : k < 7 → Blk w p2 37 #[.int .i64 0, .slice none 0 0, .slice none 0 0, .slice none 0 0, .slice none 0 0, .slice none 0 0]
  fin : 7 ≤ k → Blk w p2 37 (d.val n t)

section
variable {wb : World} {m0 M p2 n t : Nat} {K h : Nat → Nat → Int} {f e : Nat → Int} {W : WayL} {v : Array Value} {k : Nat} {d d' : CD} {listed : Array Bool} {a : Act} {w w' : World}
theorem set_bit {l : Array Bool} {i j : Nat} (hne : j ≠ i) : (l.setIfInBounds i true)[j]? = l[j]? := by
  rw [Array.getElem?_setIfInBounds_ne (Ne.symm hne)]
theorem set_bit_at {l : Array Bool} {i : Nat} (hi : i < l.size) : (l.setIfInBounds i true)[i]? = some true := by
  simp [hi]

theorem CI.empty_e5 (c : CI wb m0 M p2 n t K h f e W v k d listed a w) (hM : m0 ≤ M) (hb : Below w.heap.size w w') (g : Nat) : CI wb m0 M p2 n t K h f e W v k d (listed.setIfInBounds 5 true) (a.put (some 8) (.slice (some ⟨g, 0, none⟩) 0 0)) w' where
  k7 := c.k7
  sz := by simp [c.sz]
  tsz := by rw [put_len]; exact c.tsz
  dfr := c.dfr
  bel := c.bel.trans (hb.mono (Nat.le_trans hM c.mle))
  sS := fun h7 => (c.sS h7).below hb
  rd := fun j hj => by rw [set_bit (by simp at hj; omega)]; exact c.rd j hj
  b4 := by rw [set_bit (by omega)]; exact c.b4
  b8 := by rw [set_bit (by omega)]; exact c.b8
  b11 := by rw [set_bit (by omega)]; exact c.b11
  b15 := by rw [set_bit (by omega)]; exact c.b15
  b19 := by rw [set_bit (by omega)]; exact c.b19
  b20 := by rw [set_bit (by omega)]; exact c.b20
  b21 := by rw [set_bit (by omega)]; exact c.b21
  e5 := ⟨true, set_bit_at (by rw [c.sz]; omega), fun _ => ⟨g, put_here (by rw [c.tsz]; omega)⟩, fun _ => rfl⟩
  e12 := by rw [set_bit (by omega), put_there (by omega)]; exact c.e12
  e16 := by rw [set_bit (by omega), put_there (by omega)]; exact c.e16
  t2 := by rw [put_there (by omega)]; exact c.t2
  t4 := by rw [put_there (by omega)]; exact c.t4
  t6 := by rw [put_there (by omega)]; exact c.t6
  t10 := by rw [put_there (by omega)]; exact c.t10
  t13 := by rw [put_there (by omega)]; exact c.t13
  t17 := by rw [put_there (by omega)]; exact c.t17
  t21 := by rw [put_there (by omega)]; exact c.t21
  o7 := fun hk => by rw [put_there (by omega)]; exact c.o7 hk
  o11 := fun hk => by rw [put_there (by omega)]; exact c.o11 hk
  o14 := fun hk => by rw [put_there (by omega)]; exact c.o14 hk
  o18 := fun hk => by rw [put_there (by omega)]; exact c.o18 hk
  o22 := fun hk => by rw [put_there (by omega)]; exact c.o22 hk
  o23 := fun hk => by rw [put_there (by omega)]; exact c.o23 hk
  cp := c.cp.below hb
  mle := Nat.le_trans c.mle hb.size
  blk := fun h7 => (c.blk h7).below hb (c.blk h7).lt
  fin := fun h7 => (c.fin h7).below hb (c.fin h7).lt

theorem CI.empty_e12 (c : CI wb m0 M p2 n t K h f e W v k d listed a w) (hM : m0 ≤ M) (hb : Below w.heap.size w w') (g : Nat) : CI wb m0 M p2 n t K h f e W v k d (listed.setIfInBounds 12 true) (a.put (some 15) (.slice (some ⟨g, 0, none⟩) 0 0)) w' where
  k7 := c.k7
  sz := by simp [c.sz]
  tsz := by rw [put_len]; exact c.tsz
  dfr := c.dfr
  bel := c.bel.trans (hb.mono (Nat.le_trans hM c.mle))
  sS := fun h7 => (c.sS h7).below hb
  rd := fun j hj => by rw [set_bit (by simp at hj; omega)]; exact c.rd j hj
  b4 := by rw [set_bit (by omega)]; exact c.b4
  b8 := by rw [set_bit (by omega)]; exact c.b8
  b11 := by rw [set_bit (by omega)]; exact c.b11
  b15 := by rw [set_bit (by omega)]; exact c.b15
  b19 := by rw [set_bit (by omega)]; exact c.b19
  b20 := by rw [set_bit (by omega)]; exact c.b20
  b21 := by rw [set_bit (by omega)]; exact c.b21
  e5 := by rw [set_bit (by omega), put_there (by omega)]; exact c.e5
  e12 := ⟨true, set_bit_at (by rw [c.sz]; omega), fun _ => ⟨g, put_here (by rw [c.tsz]; omega)⟩, fun _ => rfl⟩
  e16 := by rw [set_bit (by omega), put_there (by omega)]; exact c.e16
  t2 := by rw [put_there (by omega)]; exact c.t2
  t4 := by rw [put_there (by omega)]; exact c.t4
  t6 := by rw [put_there (by omega)]; exact c.t6
  t10 := by rw [put_there (by omega)]; exact c.t10
  t13 := by rw [put_there (by omega)]; exact c.t13
  t17 := by rw [put_there (by omega)]; exact c.t17
  t21 := by rw [put_there (by omega)]; exact c.t21
  o7 := fun hk => by rw [put_there (by omega)]; exact c.o7 hk
  o11 := fun hk => by rw [put_there (by omega)]; exact c.o11 hk
  o14 := fun hk => by rw [put_there (by omega)]; exact c.o14 hk
  o18 := fun hk => by rw [put_there (by omega)]; exact c.o18 hk
  o22 := fun hk => by rw [put_there (by omega)]; exact c.o22 hk
  o23 := fun hk => by rw [put_there (by omega)]; exact c.o23 hk
  cp := c.cp.below hb
  mle := Nat.le_trans c.mle hb.size
  blk := fun h7 => (c.blk h7).below hb (c.blk h7).lt
  fin := fun h7 => (c.fin h7).below hb (c.fin h7).lt

theorem CI.empty_e16 (c : CI wb m0 M p2 n t K h f e W v k d listed a w) (hM : m0 ≤ M) (hb : Below w.heap.size w w') (g : Nat) : CI wb m0 M p2 n t K h f e W v k d (listed.setIfInBounds 16 true) (a.put (some 19) (.slice (some ⟨g, 0, none⟩) 0 0)) w' where
  k7 := c.k7
  sz := by simp [c.sz]
  tsz := by rw [put_len]; exact c.tsz
  dfr := c.dfr
  bel := c.bel.trans (hb.mono (Nat.le_trans hM c.mle))
  sS := fun h7 => (c.sS h7).below hb
  rd := fun j hj => by rw [set_bit (by simp at hj; omega)]; exact c.rd j hj
  b4 := by rw [set_bit (by omega)]; exact c.b4
  b8 := by rw [set_bit (by omega)]; exact c.b8
  b11 := by rw [set_bit (by omega)]; exact c.b11
  b15 := by rw [set_bit (by omega)]; exact c.b15
  b19 := by rw [set_bit (by omega)]; exact c.b19
  b20 := by rw [set_bit (by omega)]; exact c.b20
  b21 := by rw [set_bit (by omega)]; exact c.b21
  e5 := by rw [set_bit (by omega), put_there (by omega)]; exact c.e5
  e12 := by rw [set_bit (by omega), put_there (by omega)]; exact c.e12
  e16 := ⟨true, set_bit_at (by rw [c.sz]; omega), fun _ => ⟨g, put_here (by rw [c.tsz]; omega)⟩, fun _ => rfl⟩
  t2 := by rw [put_there (by omega)]; exact c.t2
  t4 := by rw [put_there (by omega)]; exact c.t4
  t6 := by rw [put_there (by omega)]; exact c.t6
  t10 := by rw [put_there (by omega)]; exact c.t10
  t13 := by rw [put_there (by omega)]; exact c.t13
  t17 := by rw [put_there (by omega)]; exact c.t17
  t21 := by rw [put_there (by omega)]; exact c.t21
  o7 := fun hk => by rw [put_there (by omega)]; exact c.o7 hk
  o11 := fun hk => by rw [put_there (by omega)]; exact c.o11 hk
  o14 := fun hk => by rw [put_there (by omega)]; exact c.o14 hk
  o18 := fun hk => by rw [put_there (by omega)]; exact c.o18 hk
  o22 := fun hk => by rw [put_there (by omega)]; exact c.o22 hk
  o23 := fun hk => by rw [put_there (by omega)]; exact c.o23 hk
  cp := c.cp.below hb
  mle := Nat.le_trans c.mle hb.size
  blk := fun h7 => (c.blk h7).below hb (c.blk h7).lt
  fin := fun h7 => (c.fin h7).below hb (c.fin h7).lt

theorem CI.chain_1 (c : CI wb m0 M p2 n t K h f e W v 0 d listed a w) (hM : m0 ≤ M) (hb : Below w.heap.size w w')  {x : Value} (hv : x = .slice (some ⟨d'.gC, 0, none⟩) n d'.cC) (hcp : CP 1 M n t K h f e W d' w') : CI wb m0 M p2 n t K h f e W v 1 d' (listed.setIfInBounds 4 true) (a.put (some 7) x) w' where
  k7 := by omega
  sz := by simp [c.sz]
  tsz := by rw [put_len]; exact c.tsz
  dfr := c.dfr
  bel := c.bel.trans (hb.mono (Nat.le_trans hM c.mle))
  sS := fun _ => (c.sS (by omega)).below hb
  rd := fun j hj => by rw [set_bit (by simp at hj; omega)]; exact c.rd j hj
  b4 := by rw [set_bit_at (by rw [c.sz]; omega)]; rfl
  b8 := by rw [set_bit (by omega)]; exact c.b8
  b11 := by rw [set_bit (by omega)]; exact c.b11
  b15 := by rw [set_bit (by omega)]; exact c.b15
  b19 := by rw [set_bit (by omega)]; exact c.b19
  b20 := by rw [set_bit (by omega)]; exact c.b20
  b21 := by rw [set_bit (by omega)]; exact c.b21
  e5 := by
    obtain ⟨b, h1, h2, h3⟩ := c.e5
    rw [set_bit (by omega), put_there (by omega)]
    exact ⟨b, h1, h2, fun hk => h3 (by omega)⟩
  e12 := by
    obtain ⟨b, h1, h2, h3⟩ := c.e12
    rw [set_bit (by omega), put_there (by omega)]
    exact ⟨b, h1, h2, fun hk => h3 (by omega)⟩
  e16 := by
    obtain ⟨b, h1, h2, h3⟩ := c.e16
    rw [set_bit (by omega), put_there (by omega)]
    exact ⟨b, h1, h2, fun hk => h3 (by omega)⟩
  t2 := by rw [put_there (by omega)]; exact c.t2
  t4 := by rw [put_there (by omega)]; exact c.t4
  t6 := by rw [put_there (by omega)]; exact c.t6
  t10 := by rw [put_there (by omega)]; exact c.t10
  t13 := by rw [put_there (by omega)]; exact c.t13
  t17 := by rw [put_there (by omega)]; exact c.t17
  t21 := by rw [put_there (by omega)]; exact c.t21
  o7 := fun _ => by rw [put_here (by rw [c.tsz]; omega), hv]
  o11 := fun hk => absurd hk (by omega)
  o14 := fun hk => absurd hk (by omega)
  o18 := fun hk => absurd hk (by omega)
  o22 := fun hk => absurd hk (by omega)
  o23 := fun hk => absurd hk (by omega)
  cp := hcp
  mle := Nat.le_trans c.mle hb.size
  blk := fun _ => (c.blk (by omega)).below hb (c.blk (by omega)).lt
  fin := fun h7 => absurd h7 (by omega)

theorem CI.chain_2 (c : CI wb m0 M p2 n t K h f e W v 1 d listed a w) (hM : m0 ≤ M) (hb : Below w.heap.size w w') (he : ∀ b, listed[5]? = some b → b = true) (e7 : d'.gC = d.gC ∧ d'.cC = d.cC) {x : Value} (hv : x = d'.vW) (hcp : CP 2 M n t K h f e W d' w') : CI wb m0 M p2 n t K h f e W v 2 d' (listed.setIfInBounds 8 true) (a.put (some 11) x) w' where
  k7 := by omega
  sz := by simp [c.sz]
  tsz := by rw [put_len]; exact c.tsz
  dfr := c.dfr
  bel := c.bel.trans (hb.mono (Nat.le_trans hM c.mle))
  sS := fun _ => (c.sS (by omega)).below hb
  rd := fun j hj => by rw [set_bit (by simp at hj; omega)]; exact c.rd j hj
  b4 := by rw [set_bit (by omega)]; exact c.b4
  b8 := by rw [set_bit_at (by rw [c.sz]; omega)]; rfl
  b11 := by rw [set_bit (by omega)]; exact c.b11
  b15 := by rw [set_bit (by omega)]; exact c.b15
  b19 := by rw [set_bit (by omega)]; exact c.b19
  b20 := by rw [set_bit (by omega)]; exact c.b20
  b21 := by rw [set_bit (by omega)]; exact c.b21
  e5 := by
    obtain ⟨b, h1, h2, h3⟩ := c.e5
    rw [set_bit (by omega), put_there (by omega)]
    exact ⟨b, h1, h2, fun _ => he b h1⟩
  e12 := by
    obtain ⟨b, h1, h2, h3⟩ := c.e12
    rw [set_bit (by omega), put_there (by omega)]
    exact ⟨b, h1, h2, fun hk => h3 (by omega)⟩
  e16 := by
    obtain ⟨b, h1, h2, h3⟩ := c.e16
    rw [set_bit (by omega), put_there (by omega)]
    exact ⟨b, h1, h2, fun hk => h3 (by omega)⟩
  t2 := by rw [put_there (by omega)]; exact c.t2
  t4 := by rw [put_there (by omega)]; exact c.t4
  t6 := by rw [put_there (by omega)]; exact c.t6
  t10 := by rw [put_there (by omega)]; exact c.t10
  t13 := by rw [put_there (by omega)]; exact c.t13
  t17 := by rw [put_there (by omega)]; exact c.t17
  t21 := by rw [put_there (by omega)]; exact c.t21
  o7 := fun _ => by rw [put_there (by omega), c.o7 (by omega), e7.1, e7.2]
  o11 := fun _ => by rw [put_here (by rw [c.tsz]; omega), hv]
  o14 := fun hk => absurd hk (by omega)
  o18 := fun hk => absurd hk (by omega)
  o22 := fun hk => absurd hk (by omega)
  o23 := fun hk => absurd hk (by omega)
  cp := hcp
  mle := Nat.le_trans c.mle hb.size
  blk := fun _ => (c.blk (by omega)).below hb (c.blk (by omega)).lt
  fin := fun h7 => absurd h7 (by omega)

theorem CI.chain_3 (c : CI wb m0 M p2 n t K h f e W v 2 d listed a w) (hM : m0 ≤ M) (hb : Below w.heap.size w w') (e7 : d'.gC = d.gC ∧ d'.cC = d.cC) (e11 : d'.vW = d.vW) {x : Value} (hv : x = .slice (some ⟨d'.gH, 0, none⟩) n d'.cH) (hcp : CP 3 M n t K h f e W d' w') : CI wb m0 M p2 n t K h f e W v 3 d' (listed.setIfInBounds 11 true) (a.put (some 14) x) w' where
  k7 := by omega
  sz := by simp [c.sz]
  tsz := by rw [put_len]; exact c.tsz
  dfr := c.dfr
  bel := c.bel.trans (hb.mono (Nat.le_trans hM c.mle))
  sS := fun _ => (c.sS (by omega)).below hb
  rd := fun j hj => by rw [set_bit (by simp at hj; omega)]; exact c.rd j hj
  b4 := by rw [set_bit (by omega)]; exact c.b4
  b8 := by rw [set_bit (by omega)]; exact c.b8
  b11 := by rw [set_bit_at (by rw [c.sz]; omega)]; rfl
  b15 := by rw [set_bit (by omega)]; exact c.b15
  b19 := by rw [set_bit (by omega)]; exact c.b19
  b20 := by rw [set_bit (by omega)]; exact c.b20
  b21 := by rw [set_bit (by omega)]; exact c.b21
  e5 := by
    obtain ⟨b, h1, h2, h3⟩ := c.e5
    rw [set_bit (by omega), put_there (by omega)]
    exact ⟨b, h1, h2, fun hk => h3 (by omega)⟩
  e12 := by
    obtain ⟨b, h1, h2, h3⟩ := c.e12
    rw [set_bit (by omega), put_there (by omega)]
    exact ⟨b, h1, h2, fun hk => h3 (by omega)⟩
  e16 := by
    obtain ⟨b, h1, h2, h3⟩ := c.e16
    rw [set_bit (by omega), put_there (by omega)]
    exact ⟨b, h1, h2, fun hk => h3 (by omega)⟩
  t2 := by rw [put_there (by omega)]; exact c.t2
  t4 := by rw [put_there (by omega)]; exact c.t4
  t6 := by rw [put_there (by omega)]; exact c.t6
  t10 := by rw [put_there (by omega)]; exact c.t10
  t13 := by rw [put_there (by omega)]; exact c.t13
  t17 := by rw [put_there (by omega)]; exact c.t17
  t21 := by rw [put_there (by omega)]; exact c.t21
  o7 := fun _ => by rw [put_there (by omega), c.o7 (by omega), e7.1, e7.2]
  o11 := fun _ => by rw [put_there (by omega), c.o11 (by omega), e11]
  o14 := fun _ => by rw [put_here (by rw [c.tsz]; omega), hv]
  o18 := fun hk => absurd hk (by omega)
  o22 := fun hk => absurd hk (by omega)
  o23 := fun hk => absurd hk (by omega)
  cp := hcp
  mle := Nat.le_trans c.mle hb.size
  blk := fun _ => (c.blk (by omega)).below hb (c.blk (by omega)).lt
  fin := fun h7 => absurd h7 (by omega)

theorem CI.chain_4 (c : CI wb m0 M p2 n t K h f e W v 3 d listed a w) (hM : m0 ≤ M) (hb : Below w.heap.size w w') (he : ∀ b, listed[12]? = some b → b = true) (e7 : d'.gC = d.gC ∧ d'.cC = d.cC) (e11 : d'.vW = d.vW) (e14 : d'.gH = d.gH ∧ d'.cH = d.cH) {x : Value} (hv : x = .slice (some ⟨d'.gF, 0, none⟩) n d'.cF) (hcp : CP 4 M n t K h f e W d' w') : CI wb m0 M p2 n t K h f e W v 4 d' (listed.setIfInBounds 15 true) (a.put (some 18) x) w' where
  k7 := by omega
  sz := by simp [c.sz]
  tsz := by rw [put_len]; exact c.tsz
  dfr := c.dfr
  bel := c.bel.trans (hb.mono (Nat.le_trans hM c.mle))
  sS := fun _ => (c.sS (by omega)).below hb
  rd := fun j hj => by rw [set_bit (by simp at hj; omega)]; exact c.rd j hj
  b4 := by rw [set_bit (by omega)]; exact c.b4
  b8 := by rw [set_bit (by omega)]; exact c.b8
  b11 := by rw [set_bit (by omega)]; exact c.b11
  b15 := by rw [set_bit_at (by rw [c.sz]; omega)]; rfl
  b19 := by rw [set_bit (by omega)]; exact c.b19
  b20 := by rw [set_bit (by omega)]; exact c.b20
  b21 := by rw [set_bit (by omega)]; exact c.b21
  e5 := by
    obtain ⟨b, h1, h2, h3⟩ := c.e5
    rw [set_bit (by omega), put_there (by omega)]
    exact ⟨b, h1, h2, fun hk => h3 (by omega)⟩
  e12 := by
    obtain ⟨b, h1, h2, h3⟩ := c.e12
    rw [set_bit (by omega), put_there (by omega)]
    exact ⟨b, h1, h2, fun _ => he b h1⟩
  e16 := by
    obtain ⟨b, h1, h2, h3⟩ := c.e16
    rw [set_bit (by omega), put_there (by omega)]
    exact ⟨b, h1, h2, fun hk => h3 (by omega)⟩
  t2 := by rw [put_there (by omega)]; exact c.t2
  t4 := by rw [put_there (by omega)]; exact c.t4
  t6 := by rw [put_there (by omega)]; exact c.t6
  t10 := by rw [put_there (by omega)]; exact c.t10
  t13 := by rw [put_there (by omega)]; exact c.t13
  t17 := by rw [put_there (by omega)]; exact c.t17
  t21 := by rw [put_there (by omega)]; exact c.t21
  o7 := fun _ => by rw [put_there (by omega), c.o7 (by omega), e7.1, e7.2]
  o11 := fun _ => by rw [put_there (by omega), c.o11 (by omega), e11]
  o14 := fun _ => by rw [put_there (by omega), c.o14 (by omega), e14.1, e14.2]
  o18 := fun _ => by rw [put_here (by rw [c.tsz]; omega), hv]
  o22 := fun hk => absurd hk (by omega)
  o23 := fun hk => absurd hk (by omega)
  cp := hcp
  mle := Nat.le_trans c.mle hb.size
  blk := fun _ => (c.blk (by omega)).below hb (c.blk (by omega)).lt
  fin := fun h7 => absurd h7 (by omega)

theorem CI.chain_5 (c : CI wb m0 M p2 n t K h f e W v 4 d listed a w) (hM : m0 ≤ M) (hb : Below w.heap.size w w') (he : ∀ b, listed[16]? = some b → b = true) (e7 : d'.gC = d.gC ∧ d'.cC = d.cC) (e11 : d'.vW = d.vW) (e14 : d'.gH = d.gH ∧ d'.cH = d.cH) (e18 : d'.gF = d.gF ∧ d'.cF = d.cF) {x : Value} (hv : x = .slice (some ⟨d'.gL, 0, none⟩) n d'.cL) (hcp : CP 5 M n t K h f e W d' w') : CI wb m0 M p2 n t K h f e W v 5 d' (listed.setIfInBounds 19 true) (a.put (some 22) x) w' where
  k7 := by omega
  sz := by simp [c.sz]
  tsz := by rw [put_len]; exact c.tsz
  dfr := c.dfr
  bel := c.bel.trans (hb.mono (Nat.le_trans hM c.mle))
  sS := fun _ => (c.sS (by omega)).below hb
  rd := fun j hj => by rw [set_bit (by simp at hj; omega)]; exact c.rd j hj
  b4 := by rw [set_bit (by omega)]; exact c.b4
  b8 := by rw [set_bit (by omega)]; exact c.b8
  b11 := by rw [set_bit (by omega)]; exact c.b11
  b15 := by rw [set_bit (by omega)]; exact c.b15
  b19 := by rw [set_bit_at (by rw [c.sz]; omega)]; rfl
  b20 := by rw [set_bit (by omega)]; exact c.b20
  b21 := by rw [set_bit (by omega)]; exact c.b21
  e5 := by
    obtain ⟨b, h1, h2, h3⟩ := c.e5
    rw [set_bit (by omega), put_there (by omega)]
    exact ⟨b, h1, h2, fun hk => h3 (by omega)⟩
  e12 := by
    obtain ⟨b, h1, h2, h3⟩ := c.e12
    rw [set_bit (by omega), put_there (by omega)]
    exact ⟨b, h1, h2, fun hk => h3 (by omega)⟩
  e16 := by
    obtain ⟨b, h1, h2, h3⟩ := c.e16
    rw [set_bit (by omega), put_there (by omega)]
    exact ⟨b, h1, h2, fun _ => he b h1⟩
  t2 := by rw [put_there (by omega)]; exact c.t2
  t4 := by rw [put_there (by omega)]; exact c.t4
  t6 := by rw [put_there (by omega)]; exact c.t6
  t10 := by rw [put_there (by omega)]; exact c.t10
  t13 := by rw [put_there (by omega)]; exact c.t13
  t17 := by rw [put_there (by omega)]; exact c.t17
  t21 := by rw [put_there (by omega)]; exact c.t21
  o7 := fun _ => by rw [put_there (by omega), c.o7 (by omega), e7.1, e7.2]
  o11 := fun _ => by rw [put_there (by omega), c.o11 (by omega), e11]
  o14 := fun _ => by rw [put_there (by omega), c.o14 (by omega), e14.1, e14.2]
  o18 := fun _ => by rw [put_there (by omega), c.o18 (by omega), e18.1, e18.2]
  o22 := fun _ => by rw [put_here (by rw [c.tsz]; omega), hv]
  o23 := fun hk => absurd hk (by omega)
  cp := hcp
  mle := Nat.le_trans c.mle hb.size
  blk := fun _ => (c.blk (by omega)).below hb (c.blk (by omega)).lt
  fin := fun h7 => absurd h7 (by omega)

theorem CI.chain_6 (c : CI wb m0 M p2 n t K h f e W v 5 d listed a w) (hM : m0 ≤ M) (hb : Below w.heap.size w w')  {x : Value} (hv : x = .agg (d.val n t)) (hcp : CP 5 M n t K h f e W d w') : CI wb m0 M p2 n t K h f e W v 6 d (listed.setIfInBounds 20 true) (a.put (some 23) x) w' where
  k7 := by omega
  sz := by simp [c.sz]
  tsz := by rw [put_len]; exact c.tsz
  dfr := c.dfr
  bel := c.bel.trans (hb.mono (Nat.le_trans hM c.mle))
  sS := fun _ => (c.sS (by omega)).below hb
  rd := fun j hj => by rw [set_bit (by simp at hj; omega)]; exact c.rd j hj
  b4 := by rw [set_bit (by omega)]; exact c.b4
  b8 := by rw [set_bit (by omega)]; exact c.b8
  b11 := by rw [set_bit (by omega)]; exact c.b11
  b15 := by rw [set_bit (by omega)]; exact c.b15
  b19 := by rw [set_bit (by omega)]; exact c.b19
  b20 := by rw [set_bit_at (by rw [c.sz]; omega)]; rfl
  b21 := by rw [set_bit (by omega)]; exact c.b21
  e5 := by
    obtain ⟨b, h1, h2, h3⟩ := c.e5
    rw [set_bit (by omega), put_there (by omega)]
    exact ⟨b, h1, h2, fun hk => h3 (by omega)⟩
  e12 := by
    obtain ⟨b, h1, h2, h3⟩ := c.e12
    rw [set_bit (by omega), put_there (by omega)]
    exact ⟨b, h1, h2, fun hk => h3 (by omega)⟩
  e16 := by
    obtain ⟨b, h1, h2, h3⟩ := c.e16
    rw [set_bit (by omega), put_there (by omega)]
    exact ⟨b, h1, h2, fun hk => h3 (by omega)⟩
  t2 := by rw [put_there (by omega)]; exact c.t2
  t4 := by rw [put_there (by omega)]; exact c.t4
  t6 := by rw [put_there (by omega)]; exact c.t6
  t10 := by rw [put_there (by omega)]; exact c.t10
  t13 := by rw [put_there (by omega)]; exact c.t13
  t17 := by rw [put_there (by omega)]; exact c.t17
  t21 := by rw [put_there (by omega)]; exact c.t21
  o7 := fun _ => by rw [put_there (by omega), c.o7 (by omega)]
  o11 := fun _ => by rw [put_there (by omega), c.o11 (by omega)]
  o14 := fun _ => by rw [put_there (by omega), c.o14 (by omega)]
  o18 := fun _ => by rw [put_there (by omega), c.o18 (by omega)]
  o22 := fun _ => by rw [put_there (by omega), c.o22 (by omega)]
  o23 := fun _ => by rw [put_here (by rw [c.tsz]; omega), hv]
  cp := hcp
  mle := Nat.le_trans c.mle hb.size
  blk := fun _ => (c.blk (by omega)).below hb (c.blk (by omega)).lt
  fin := fun h7 => absurd h7 (by omega)

end

end Go.Proofs.YtminfghiejgieaaDoor

/- Two operations of a region at a frame that is not written out: a call with one argument; an empty slice. -/
namespace Go.Proofs.YtminfghiejgieaaDoor
open Go.RowKit
set_option linter.unusedVariables false

theorem run_callFunc_go {P : Program} {f : FuncId} {fn : Func} (hf : P.funcs[f]? = some fn) (hname : (fn.name == "runtime.NumGoroutine") = false)
    (hb : fn.body.isNone = false) (args : Array Value) (w : World) : (callFunc f args).run P w = .ok (.enter f args) w := by
  have h1 : fn.name ≠ "runtime.NumGoroutine" := by simpa using hname
  have h2 : fn.body ≠ none := fun h => by rw [h] at hb; cases hb
  simp [callFunc, hf, h1, h2]

theorem wp_call_fn {oo : Oper} {ac : Act} {w : World} {K : Act → World → Prop} {Q : Exit → Act → World → Prop} {fn : FuncId} {F : Func} (x : Operand) {v : Value} {ts : Array TypeId}
    (ho : oo.op = .call { callee := .value (.func fn), args := #[x], argTypes := ts }) (hf : Tryd.prog.funcs[fn]? = some F) (hname : (F.name == "runtime.NumGoroutine") = false)
    (hb : F.body.isNone = false) (hx : ac.eval x = v) (h : Calls Tryd.prog fn #[v] w fun e w' => ∃ r, e = .returned r ∧ K (ac.put oo.dst r) w') : Oper.wp Tryd.prog oo ac w K Q := by
  have hrun : (execOp ac.eval oo).run Tryd.prog w = .ok (.enter fn #[v]) w := by
    have hfn : ac.eval (.func fn) = .func (.func fn) #[] #[] := rfl
    unfold execOp
    simp [ho, resolve, invoke, Deferred.ofValue, hfn, hx]
    exact run_callFunc_go hf hname hb _ w
  unfold Oper.wp
  rw [hrun, Oper.upon_enter]
  refine h.mono ?_
  rintro e w' ⟨r, rfl, hk⟩
  exact hk
theorem wp_empty {oo : Oper} {ac : Act} {w : World} {K : Act → World → Prop} {Q : Exit → Act → World → Prop} {T E : TypeId} {i : TypeInfo}
    (ho : oo.op = .buildSlice T 0 #[]) (hu : Tryd.prog.underlying T = some (.slice E)) (hi : Tryd.prog.info? E = some i) (h : K (ac.put oo.dst (.slice (some ⟨w.heap.size, 0, none⟩) 0 0)) (w.alloc (.cells #[] E))) : Oper.wp Tryd.prog oo ac w K Q := by
  have hrun : (Instr.buildSlice T 0 #[]).run Tryd.prog w = .ok (.slice (some ⟨w.heap.size, 0, none⟩) 0 0) (w.alloc (.cells #[] E)) := by
    have hz : ∀ g : Nat → Value, Array.map g (Array.range 0) = #[] := fun g => Array.eq_empty_of_size_eq_zero (by simp)
    simp [Instr.buildSlice, run_underlying hu, sizeOf, typeInfo, hi, newRow, Instr.fill, hz]
  unfold Oper.wp execOp
  simp only [ho, List.map_toArray, List.map_nil, Sem.run_bind, hrun, Result.andThen_ok]
  exact h

theorem wp_built {oo : Oper} {ac : Act} {w : World} {K : Act → World → Prop} {Q : Exit → Act → World → Prop} (T : TypeId) (parts : Array (Nat × Operand)) (ho : oo.op = .build T parts) (cells : Array Value)
    (hc : Tryd.prog.built T (parts.map fun (i, x) => (i, ac.eval x)).toList = some cells) (h : K (ac.put oo.dst (.agg cells)) w) : Oper.wp Tryd.prog oo ac w K Q := by
  refine wp_build T parts ho (by rw [hc]; rfl) ?_
  rw [hc]
  exact h

/-- The last operation: the copy is laid. -/
theorem CI.chain_7 {wb : World} {m0 M p2 n t : Nat} {K h : Nat → Nat → Int} {f e : Nat → Int} {W : WayL} {v : Array Value} {d : CD} {listed : Array Bool} {a : Act} {w : World}
    (c : CI wb m0 M p2 n t K h f e W v 6 d listed a w) (hp : m0 ≤ p2) (hpM : p2 < M) : CI wb m0 M p2 n t K h f e W v 7 d (listed.setIfInBounds 21 true) (a.put none undef) (w.setRow p2 (d.val n t)) where
  k7 := by omega
  sz := by simp [c.sz]
  tsz := c.tsz
  dfr := c.dfr
  bel := ⟨c.bel.os, c.bel.tape, c.bel.output, by rw [setRow_size]; exact c.bel.size, fun k hk => (setRow_other w p2 k _ (by omega)).trans (c.bel.block k hk)⟩
  sS := fun h => absurd h (by omega)
  rd := fun j hj => by rw [set_bit (by simp at hj; omega)]; exact c.rd j hj
  b4 := by rw [set_bit (by omega)]; exact c.b4
  b8 := by rw [set_bit (by omega)]; exact c.b8
  b11 := by rw [set_bit (by omega)]; exact c.b11
  b15 := by rw [set_bit (by omega)]; exact c.b15
  b19 := by rw [set_bit (by omega)]; exact c.b19
  b20 := by rw [set_bit (by omega)]; exact c.b20
  b21 := by rw [set_bit_at (by rw [c.sz]; omega)]; rfl
  e5 := by
    obtain ⟨b, h1, h2, h3⟩ := c.e5
    rw [set_bit (by omega)]
    exact ⟨b, h1, h2, fun _ => h3 (by omega)⟩
  e12 := by
    obtain ⟨b, h1, h2, h3⟩ := c.e12
    rw [set_bit (by omega)]
    exact ⟨b, h1, h2, fun _ => h3 (by omega)⟩
  e16 := by
    obtain ⟨b, h1, h2, h3⟩ := c.e16
    rw [set_bit (by omega)]
    exact ⟨b, h1, h2, fun _ => h3 (by omega)⟩
  t2 := c.t2
  t4 := c.t4
  t6 := c.t6
  t10 := c.t10
  t13 := c.t13
  t17 := c.t17
  t21 := c.t21
  o7 := fun _ => c.o7 (by omega)
  o11 := fun _ => c.o11 (by omega)
  o14 := fun _ => c.o14 (by omega)
  o18 := fun _ => c.o18 (by omega)
  o22 := fun _ => c.o22 (by omega)
  o23 := fun _ => c.o23 (by omega)
  cp := CP.far (c.cp) (by omega) (fun b hb => setRow_other w p2 b _ (by omega)) (setRow_size w p2 _)
  mle := by rw [setRow_size]; exact c.mle
  blk := fun h => absurd h (by omega)
  fin := fun _ => setRow_heap w p2 _ _ _ _ (c.blk (by omega))

/-- Where none is ready all are done: each waits for earlier ones alone. -/
theorem all_done {md : Region.Mode} {ops : Array Oper} {listed : Array Bool} (hw : (ops.toList.zipIdx.all fun x => x.1.after.all fun e => decide (e.on < x.2)) = true) (hs : listed.size = ops.size)
    (h : Region.ready md ops listed = []) : ∀ i, i < ops.size → listed[i]? = some true := by
  intro i
  induction i using Nat.strongRecOn with
  | _ i ih =>
    intro hi
    have hlt : i < listed.size := by omega
    cases hb : listed[i] with
    | true => rw [Array.getElem?_eq_getElem hlt, hb]
    | false =>
      exfalso
      have : i ∈ Region.ready md ops listed := mem_ready.2 ⟨by simp [Array.getD, hlt, hb], ops[i], Array.getElem?_eq_getElem hi, fun e he _ => by
        have hx : (ops[i], i) ∈ ops.toList.zipIdx := by
          rw [List.mem_zipIdx_iff_getElem?]
          simp [hi]
        have h1 := List.all_eq_true.1 hw _ hx
        have h2 := Array.all_eq_true'.1 h1 e he
        have h3 : e.on < i := of_decide_eq_true h2
        have h4 := ih e.on h3 (by omega)
        rw [Array.getD_eq_getD_getElem?, h4]; rfl⟩
      rw [h] at this
      cases this

end Go.Proofs.YtminfghiejgieaaDoor

/- The reference's Copied: the walk. -/
namespace Go.Proofs.YtminfghiejgieaaDoor
open Go.RowKit
set_option linter.unusedVariables false

set_option maxRecDepth 100000 in
set_option maxHeartbeats 4000000 in
theorem copied_walk (P : Nat → Prop) (v : Array Value) (n t : Nat) (K h : Nat → Nat → Int) (f e : Nat → Int) (W : WayL) (w : World) (q : QR P w v n t K h f e W) (h1 : 1 ≤ n) (h8 : n ≤ 8) (hWl : W.length ≤ 1000000) :
    Calls Tryd.prog 28 #[.agg v] w fun e' w' => ∃ d, e' = .returned (.agg (d.val n t)) ∧ CP 5 (w.heap.size + 2) n t K h f e W d w' ∧ Below w.heap.size w w' := by
  obtain ⟨AC, cC, AW, cW, AH, cH, AF, cF, AL, cL, rfl, hK, hW, hWn, hH, hF, hE⟩ := q
  have HK := Lib.hid hK.mat
  have HW := Lib.hid hW.lnk
  have HWN := Lib.hid hWn
  have HH := Lib.hid hH.mat
  have HF := Lib.hid hF.vec
  have HE := Lib.hid hE.vec
  clear hK hW hWn hH hF hE
  go_enter Tryd.func28, Tryd.ntmps28
  go_wp2_with fail
  rename_i KK hKK
  obtain ⟨m0, hm0⟩ : ∃ m0, w.heap.size = m0 := ⟨_, rfl⟩
  have hbx : Below m0 w ((w.alloc (.cells #[.int .i64 t, .slice (some AC) n cC, .slice AW W.length cW, .slice (some AH) n cH, .slice (some AF) n cF, .slice (some AL) n cL] 37)).alloc (.cells #[.int .i64 0, .slice none 0 0, .slice none 0 0, .slice none 0 0, .slice none 0 0, .slice none 0 0] 37)) := by
    rw [← hm0]
    exact ((Below.refl _ _).alloc (Nat.le_refl _) _).alloc (by simp) _
  have hS0 : CopyS m0 #[.int .i64 t, .slice (some AC) n cC, .slice AW W.length cW, .slice (some AH) n cH, .slice (some AF) n cF, .slice (some AL) n cL] ((w.alloc (.cells #[.int .i64 t, .slice (some AC) n cC, .slice AW W.length cW, .slice (some AH) n cH, .slice (some AF) n cF, .slice (some AL) n cL] 37)).alloc (.cells #[.int .i64 0, .slice none 0 0, .slice none 0 0, .slice none 0 0, .slice none 0 0, .slice none 0 0] 37)) := by
    have hb := (Blk.new w 37 #[.int .i64 t, .slice (some AC) n cC, .slice AW W.length cW, .slice (some AH) n cH, .slice (some AF) n cF, .slice (some AL) n cL]).alloc (.cells #[.int .i64 0, .slice none 0 0, .slice none 0 0, .slice none 0 0, .slice none 0 0, .slice none 0 0] 37)
    rw [hm0] at hb
    exact ⟨hb.cell 0, hb.cell 1, hb.cell 2, hb.cell 3, hb.cell 4, hb.cell 5⟩
  have hZ0 : Blk ((w.alloc (.cells #[.int .i64 t, .slice (some AC) n cC, .slice AW W.length cW, .slice (some AH) n cH, .slice (some AF) n cF, .slice (some AL) n cL] 37)).alloc (.cells #[.int .i64 0, .slice none 0 0, .slice none 0 0, .slice none 0 0, .slice none 0 0, .slice none 0 0] 37)) (m0 + 1) 37 #[.int .i64 0, .slice none 0 0, .slice none 0 0, .slice none 0 0, .slice none 0 0, .slice none 0 0] := by
    have := Blk.new (w.alloc (.cells #[.int .i64 t, .slice (some AC) n cC, .slice AW W.length cW, .slice (some AH) n cH, .slice (some AF) n cF, .slice (some AL) n cL] 37)) 37 #[.int .i64 0, .slice none 0 0, .slice none 0 0, .slice none 0 0, .slice none 0 0, .slice none 0 0]
    rw [show (w.alloc (.cells #[.int .i64 t, .slice (some AC) n cC, .slice AW W.length cW, .slice (some AH) n cH, .slice (some AF) n cF, .slice (some AL) n cL] 37)).heap.size = m0 + 1 by simp [hm0]] at this
    exact this
  have hz2 : ((w.alloc (.cells #[.int .i64 t, .slice (some AC) n cC, .slice AW W.length cW, .slice (some AH) n cH, .slice (some AF) n cF, .slice (some AL) n cL] 37)).alloc (.cells #[.int .i64 0, .slice none 0 0, .slice none 0 0, .slice none 0 0, .slice none 0 0, .slice none 0 0] 37)).heap.size = m0 + 2 := by simp [hm0]
  obtain ⟨w2, hw2⟩ : ∃ w2, ((w.alloc (.cells #[.int .i64 t, .slice (some AC) n cC, .slice AW W.length cW, .slice (some AH) n cH, .slice (some AF) n cF, .slice (some AL) n cL] 37)).alloc (.cells #[.int .i64 0, .slice none 0 0, .slice none 0 0, .slice none 0 0, .slice none 0 0, .slice none 0 0] 37)) = w2 := ⟨_, rfl⟩
  rw [hw2] at hbx hS0 hZ0 hz2 ⊢
  rw [hm0]
  have HM0 := Lib.hid hm0
  have HBX := Lib.hid hbx
  have HZ0 := Lib.hid hZ0
  have HZ2 := Lib.hid hz2
  have HS0 : Hid (CopyS m0 #[.int .i64 t, .slice (some AC) n cC, .slice AW W.length cW, .slice (some AH) n cH, .slice (some AF) n cF, .slice (some AL) n cL] w2.drew) := hS0
  clear hbx hS0 hZ0 hz2 hw2 hm0
  refine wp_region_tail (CopyS m0 #[.int .i64 t, .slice (some AC) n cC, .slice AW W.length cW, .slice (some AH) n cH, .slice (some AF) n cF, .slice (some AL) n cL]) 21 (by kernel_rfl) ?_
  refine wpTail_take (i := 0) (v := ?_) rfl (by kernel_rfl) (by kernel_rfl) (by kernel_rfl) (by kernel_rfl) (fun _ _ _ h => h) HS0.out ?_ rfl ?_
  rotate_left 1
  · intro w0 hS0
    obtain ⟨s0, s1, s2, s3, s4, s5⟩ := hS0
    go_simp
    try with_reducible rfl
  try simp only [Act.put, List.setIfInBounds_toArray]
  refine wpTail_take (i := 1) (v := ?_) rfl (by kernel_rfl) (by kernel_rfl) (by kernel_rfl) (by kernel_rfl) (fun _ _ _ h => h) HS0.out ?_ rfl ?_
  rotate_left 1
  · intro w0 hS0
    obtain ⟨s0, s1, s2, s3, s4, s5⟩ := hS0
    go_simp
    try with_reducible rfl
  try simp only [Act.put]
  refine wpTail_take (i := 2) (v := ?_) rfl (by kernel_rfl) (by kernel_rfl) (by kernel_rfl) (by kernel_rfl) (fun _ _ _ h => h) HS0.out ?_ rfl ?_
  rotate_left 1
  · intro w0 hS0
    obtain ⟨s0, s1, s2, s3, s4, s5⟩ := hS0
    go_simp
    try with_reducible rfl
  try simp only [Act.put]
  refine wpTail_take (i := 3) (v := ?_) rfl (by kernel_rfl) (by kernel_rfl) (by kernel_rfl) (by kernel_rfl) (fun _ _ _ h => h) HS0.out ?_ rfl ?_
  rotate_left 1
  · intro w0 hS0
    obtain ⟨s0, s1, s2, s3, s4, s5⟩ := hS0
    go_simp
    try with_reducible rfl
  try simp only [Act.put]
  refine wpTail_take (i := 6) (v := ?_) rfl (by kernel_rfl) (by kernel_rfl) (by kernel_rfl) (by kernel_rfl) (fun _ _ _ h => h) HS0.out ?_ rfl ?_
  rotate_left 1
  · intro w0 hS0
    obtain ⟨s0, s1, s2, s3, s4, s5⟩ := hS0
    go_simp
    try with_reducible rfl
  try simp only [Act.put]
  refine wpTail_take (i := 7) (v := ?_) rfl (by kernel_rfl) (by kernel_rfl) (by kernel_rfl) (by kernel_rfl) (fun _ _ _ h => h) HS0.out ?_ rfl ?_
  rotate_left 1
  · intro w0 hS0
    obtain ⟨s0, s1, s2, s3, s4, s5⟩ := hS0
    go_simp
    try with_reducible rfl
  try simp only [Act.put]
  refine wpTail_take (i := 9) (v := ?_) rfl (by kernel_rfl) (by kernel_rfl) (by kernel_rfl) (by kernel_rfl) (fun _ _ _ h => h) HS0.out ?_ rfl ?_
  rotate_left 1
  · intro w0 hS0
    obtain ⟨s0, s1, s2, s3, s4, s5⟩ := hS0
    go_simp
    try with_reducible rfl
  try simp only [Act.put]
  refine wpTail_take (i := 10) (v := ?_) rfl (by kernel_rfl) (by kernel_rfl) (by kernel_rfl) (by kernel_rfl) (fun _ _ _ h => h) HS0.out ?_ rfl ?_
  rotate_left 1
  · intro w0 hS0
    obtain ⟨s0, s1, s2, s3, s4, s5⟩ := hS0
    go_simp
    try with_reducible rfl
  try simp only [Act.put]
  refine wpTail_take (i := 13) (v := ?_) rfl (by kernel_rfl) (by kernel_rfl) (by kernel_rfl) (by kernel_rfl) (fun _ _ _ h => h) HS0.out ?_ rfl ?_
  rotate_left 1
  · intro w0 hS0
    obtain ⟨s0, s1, s2, s3, s4, s5⟩ := hS0
    go_simp
    try with_reducible rfl
  try simp only [Act.put]
  refine wpTail_take (i := 14) (v := ?_) rfl (by kernel_rfl) (by kernel_rfl) (by kernel_rfl) (by kernel_rfl) (fun _ _ _ h => h) HS0.out ?_ rfl ?_
  rotate_left 1
  · intro w0 hS0
    obtain ⟨s0, s1, s2, s3, s4, s5⟩ := hS0
    go_simp
    try with_reducible rfl
  try simp only [Act.put]
  refine wpTail_take (i := 17) (v := ?_) rfl (by kernel_rfl) (by kernel_rfl) (by kernel_rfl) (by kernel_rfl) (fun _ _ _ h => h) HS0.out ?_ rfl ?_
  rotate_left 1
  · intro w0 hS0
    obtain ⟨s0, s1, s2, s3, s4, s5⟩ := hS0
    go_simp
    try with_reducible rfl
  try simp only [Act.put]
  refine wpTail_take (i := 18) (v := ?_) rfl (by kernel_rfl) (by kernel_rfl) (by kernel_rfl) (by kernel_rfl) (fun _ _ _ h => h) HS0.out ?_ rfl ?_
  rotate_left 1
  · intro w0 hS0
    obtain ⟨s0, s1, s2, s3, s4, s5⟩ := hS0
    go_simp
    try with_reducible rfl
  try simp only [Act.put]
  refine wpTail_inv (fun listed a w' => ∃ k d, CI w m0 (m0 + 2) (m0 + 1) n t K h f e W #[.int .i64 t, .slice (some AC) n cC, .slice AW W.length cW, .slice (some AH) n cH, .slice (some AF) n cF, .slice (some AL) n cL] k d listed a w') ?_ ?_ 10 _ _ _ (of_decide_eq_true (by kernel_rfl)) ?_
  · -- a step
    intro listed a w' i hI hi
    obtain ⟨k, d, c⟩ := hI
    obtain ⟨hun, oi, hoi, hdep⟩ := mem_ready.1 hi
    have hi22 : i < 22 := (Array.getElem?_eq_some_iff.1 hoi).1
    have hno : listed[i]? ≠ some true := fun h => by
      rw [Array.getD_eq_getD_getElem?, h] at hun
      cases hun
    have hyes : ∀ j, listed.getD j false = true → listed[j]? = some true := fun j hj => by
      rw [Array.getD_eq_getD_getElem?] at hj
      cases hh : listed[j]? with
      | none => rw [hh] at hj; cases hj
      | some b => rw [hh] at hj; exact congrArg some hj
    have h2m : m0 ≤ m0 + 2 := by omega
    have hBX : Below m0 w w' := c.bel
    rcases (show i = 4 ∨ i = 5 ∨ i = 8 ∨ i = 11 ∨ i = 12 ∨ i = 15 ∨ i = 16 ∨ i = 19 ∨ i = 20 ∨ i = 21 ∨ i ∈ [0, 1, 2, 3, 6, 7, 9, 10, 13, 14, 17, 18] by simp; omega) with rfl | rfl | rfl | rfl | rfl | rfl | rfl | rfl | rfl | rfl | hr
    · obtain rfl := Option.some.inj hoi
      have hk1 : k < 1 := by
        rcases Nat.lt_or_ge k 1 with h | h
        · exact h
        · exact absurd (c.b4.trans (by rw [decide_eq_true h])) hno
      obtain rfl : k = 0 := by omega
      have hcall : Calls Tryd.prog 52 #[.slice (some AC) n cC] w' fun e w'' => ∃ v, e = .returned v ∧ Tab w'' w'.heap.size v n n K ∧ Below w'.heap.size w' w'' := rowed_walk (some AC) n cC K w' (HK.out.keep (by rw [HM0.out]; exact hBX)) h1 h8
      have e6 : a.eval (.tmp 6) = .slice (some AC) n cC := eval_of c.t6
      refine wpOp_step rfl (fun K' hK' => ?_)
      rw [if_pos (by rfl)]
      refine wp_call_fn (.tmp 6) rfl Tryd.func52 (by kernel_rfl) (by kernel_rfl) e6 (hcall.mono ?_)
      rintro e' w'' ⟨x, rfl, hT, hb⟩
      obtain ⟨g, q, B, C, rfl, hX⟩ := TabX.of_tab h1 hT
      have hX' : TabX w'' (m0 + 2) w''.heap.size g B C n K := ⟨Nat.le_trans c.mle hX.ge, hX.lt, hX.row, fun r hr => ⟨Nat.le_trans c.mle (hX.rows r hr).1, (hX.rows r hr).2⟩, hX.inj, hX.ne⟩
      exact ⟨_, rfl, hK' _ _ ⟨.inr ((c.sS (by omega)).below hb), 1, _, c.chain_1 h2m hb rfl (CP.one (d := d) (c := q) hX')⟩⟩
    · refine wpOp_step rfl (fun K' hK' => ?_)
      rw [if_pos (by rfl)]
      obtain ⟨i0, hi0, -⟩ := info_parts infoSent
      refine wp_empty (E := 80) (i := i0) rfl (by kernel_rfl) hi0 ?_
      have hb : Below w'.heap.size w' (w'.alloc (.cells #[] 80)) := (Below.refl _ _).alloc (Nat.le_refl _) _
      refine hK' _ _ ⟨?_, k, d, c.empty_e5 h2m hb _⟩
      rcases Nat.lt_or_ge k 7 with h | h
      · exact .inr ((c.sS h).below hb)
      · exfalso
        obtain ⟨b, g1, -, g3⟩ := c.e5
        rw [g3 (by omega)] at g1
        exact hno g1
    · obtain rfl := Option.some.inj hoi
      have hk1 : k < 2 := by
        rcases Nat.lt_or_ge k 2 with h | h
        · exact h
        · exact absurd (c.b8.trans (by rw [decide_eq_true h])) hno
      have hk2 : 1 ≤ k := by
        have h := hyes 4 (hdep ⟨4, .chain⟩ (by simp) rfl)
        rw [c.b4] at h
        exact of_decide_eq_true (Option.some.inj h)
      obtain rfl : k = 1 := by omega
      obtain ⟨b, g1, g2, -⟩ := c.e5
      have hbt : b = true := by
        have h := hyes 5 (hdep ⟨5, .data⟩ (by simp) rfl)
        rw [g1] at h
        exact Option.some.inj h
      obtain ⟨g, hg⟩ := g2 hbt
      refine wpOp_step rfl (fun K' hK' => ?_)
      rw [if_pos (by rfl)]
      refine wp_copy_snt (.tmp 8) (.tmp 10) rfl rfl ⟨g, eval_of hg⟩ (eval_of c.t10) HWN.out (by omega) (HW.out.keep (by rw [HM0.out]; exact hBX)) ?_
      intro x w'' hx hb
      exact hK' _ _ ⟨.inr ((c.sS (by omega)).below hb), 2, { d with vW := x, m2 := w''.heap.size }, c.chain_2 (d' := { d with vW := x, m2 := w''.heap.size }) h2m hb (fun b h => by rw [g1] at h; rw [← Option.some.inj h]; exact hbt) ⟨rfl, rfl⟩ rfl (c.cp.two hb hx)⟩
    · obtain rfl := Option.some.inj hoi
      have hk1 : k < 3 := by
        rcases Nat.lt_or_ge k 3 with h | h
        · exact h
        · exact absurd (c.b11.trans (by rw [decide_eq_true h])) hno
      have hk2 : 2 ≤ k := by
        have h := hyes 8 (hdep ⟨8, .chain⟩ (by simp) rfl)
        rw [c.b8] at h
        exact of_decide_eq_true (Option.some.inj h)
      obtain rfl : k = 2 := by omega
      have hcall : Calls Tryd.prog 52 #[.slice (some AH) n cH] w' fun e w'' => ∃ v, e = .returned v ∧ Tab w'' w'.heap.size v n n h ∧ Below w'.heap.size w' w'' := rowed_walk (some AH) n cH h w' (HH.out.keep (by rw [HM0.out]; exact hBX)) h1 h8
      have e13 : a.eval (.tmp 13) = .slice (some AH) n cH := eval_of c.t13
      refine wpOp_step rfl (fun K' hK' => ?_)
      rw [if_pos (by rfl)]
      refine wp_call_fn (.tmp 13) rfl Tryd.func52 (by kernel_rfl) (by kernel_rfl) e13 (hcall.mono ?_)
      rintro e' w'' ⟨x, rfl, hT, hb⟩
      obtain ⟨g, q, B, C, rfl, hX⟩ := TabX.of_tab h1 hT
      exact ⟨_, rfl, hK' _ _ ⟨.inr ((c.sS (by omega)).below hb), 3, { d with gH := g, cH := q, BH := B, CH := C, m3 := w''.heap.size }, c.chain_3 (d' := { d with gH := g, cH := q, BH := B, CH := C, m3 := w''.heap.size }) h2m hb ⟨rfl, rfl⟩ rfl rfl (c.cp.three (v := undef) hb hX)⟩⟩
    · refine wpOp_step rfl (fun K' hK' => ?_)
      rw [if_pos (by rfl)]
      obtain ⟨i0, hi0, -⟩ := info_parts infoIntV
      refine wp_empty (E := 3) (i := i0) rfl (by kernel_rfl) hi0 ?_
      have hb : Below w'.heap.size w' (w'.alloc (.cells #[] 3)) := (Below.refl _ _).alloc (Nat.le_refl _) _
      refine hK' _ _ ⟨?_, k, d, c.empty_e12 h2m hb _⟩
      rcases Nat.lt_or_ge k 7 with h | h
      · exact .inr ((c.sS h).below hb)
      · exfalso
        obtain ⟨b, g1, -, g3⟩ := c.e12
        rw [g3 (by omega)] at g1
        exact hno g1
    · obtain rfl := Option.some.inj hoi
      have hk1 : k < 4 := by
        rcases Nat.lt_or_ge k 4 with h | h
        · exact h
        · exact absurd (c.b15.trans (by rw [decide_eq_true h])) hno
      have hk2 : 3 ≤ k := by
        have h := hyes 11 (hdep ⟨11, .chain⟩ (by simp) rfl)
        rw [c.b11] at h
        exact of_decide_eq_true (Option.some.inj h)
      obtain rfl : k = 3 := by omega
      obtain ⟨b, g1, g2, -⟩ := c.e12
      have hbt : b = true := by
        have h := hyes 12 (hdep ⟨12, .data⟩ (by simp) rfl)
        rw [g1] at h
        exact Option.some.inj h
      obtain ⟨g, hg⟩ := g2 hbt
      refine wpOp_step rfl (fun K' hK' => ?_)
      rw [if_pos (by rfl)]
      refine wp_copy_int (.tmp 15) (.tmp 17) rfl rfl ⟨g, eval_of hg⟩ (eval_of c.t17) h1 (by omega) (HF.out.keep (by rw [HM0.out]; exact hBX)) ?_
      intro q w'' hx hb hlt
      exact hK' _ _ ⟨.inr ((c.sS (by omega)).below hb), 4, { d with gF := w'.heap.size, cF := q }, c.chain_4 (d' := { d with gF := w'.heap.size, cF := q }) h2m hb (fun b h => by rw [g1] at h; rw [← Option.some.inj h]; exact hbt) ⟨rfl, rfl⟩ rfl ⟨rfl, rfl⟩ rfl (c.cp.four hb hx)⟩
    · refine wpOp_step rfl (fun K' hK' => ?_)
      rw [if_pos (by rfl)]
      obtain ⟨i0, hi0, -⟩ := info_parts infoIntV
      refine wp_empty (E := 3) (i := i0) rfl (by kernel_rfl) hi0 ?_
      have hb : Below w'.heap.size w' (w'.alloc (.cells #[] 3)) := (Below.refl _ _).alloc (Nat.le_refl _) _
      refine hK' _ _ ⟨?_, k, d, c.empty_e16 h2m hb _⟩
      rcases Nat.lt_or_ge k 7 with h | h
      · exact .inr ((c.sS h).below hb)
      · exfalso
        obtain ⟨b, g1, -, g3⟩ := c.e16
        rw [g3 (by omega)] at g1
        exact hno g1
    · obtain rfl := Option.some.inj hoi
      have hk1 : k < 5 := by
        rcases Nat.lt_or_ge k 5 with h | h
        · exact h
        · exact absurd (c.b19.trans (by rw [decide_eq_true h])) hno
      have hk2 : 4 ≤ k := by
        have h := hyes 15 (hdep ⟨15, .chain⟩ (by simp) rfl)
        rw [c.b15] at h
        exact of_decide_eq_true (Option.some.inj h)
      obtain rfl : k = 4 := by omega
      obtain ⟨b, g1, g2, -⟩ := c.e16
      have hbt : b = true := by
        have h := hyes 16 (hdep ⟨16, .data⟩ (by simp) rfl)
        rw [g1] at h
        exact Option.some.inj h
      obtain ⟨g, hg⟩ := g2 hbt
      refine wpOp_step rfl (fun K' hK' => ?_)
      rw [if_pos (by rfl)]
      refine wp_copy_int (.tmp 19) (.tmp 21) rfl rfl ⟨g, eval_of hg⟩ (eval_of c.t21) h1 (by omega) (HE.out.keep (by rw [HM0.out]; exact hBX)) ?_
      intro q w'' hx hb hlt
      exact hK' _ _ ⟨.inr ((c.sS (by omega)).below hb), 5, { d with gL := w'.heap.size, cL := q }, c.chain_5 (d' := { d with gL := w'.heap.size, cL := q }) h2m hb (fun b h => by rw [g1] at h; rw [← Option.some.inj h]; exact hbt) ⟨rfl, rfl⟩ rfl ⟨rfl, rfl⟩ ⟨rfl, rfl⟩ rfl (c.cp.five hb hx)⟩
    · obtain rfl := Option.some.inj hoi
      have hk1 : k < 6 := by
        rcases Nat.lt_or_ge k 6 with h | h
        · exact h
        · exact absurd (c.b20.trans (by rw [decide_eq_true h])) hno
      have hk2 : 5 ≤ k := by
        have h := hyes 19 (hdep ⟨19, .data⟩ (by simp) rfl)
        rw [c.b19] at h
        exact of_decide_eq_true (Option.some.inj h)
      obtain rfl : k = 5 := by omega
      have x0 : a.tmps[4]? = some (.int .i64 t) := c.t4
      have x1 := c.o7 (by omega)
      have x2 := c.o11 (by omega)
      have x3 := c.o14 (by omega)
      have x4 := c.o18 (by omega)
      have x5 := c.o22 (by omega)
      refine wpOp_step rfl (fun K' hK' => ?_)
      rw [if_pos (by rfl)]
      obtain ⟨AV, qV, eV, -, -⟩ := (c.cp.p2 (by omega)).1.lnk
      have e0 := eval_of x0
      have e1 := eval_of x1
      have e2 := eval_of x2
      have e3 := eval_of x3
      have e4 := eval_of x4
      have e5 := eval_of x5
      have hbt : Tryd.prog.built 37 [(0, .int .i64 t), (1, .slice (some ⟨d.gC, 0, none⟩) n d.cC), (2, .slice AV W.length qV), (3, .slice (some ⟨d.gH, 0, none⟩) n d.cH), (4, .slice (some ⟨d.gF, 0, none⟩) n d.cF), (5, .slice (some ⟨d.gL, 0, none⟩) n d.cL)] = some #[.int .i64 t, .slice (some ⟨d.gC, 0, none⟩) n d.cC, .slice AV W.length qV, .slice (some ⟨d.gH, 0, none⟩) n d.cH, .slice (some ⟨d.gF, 0, none⟩) n d.cF, .slice (some ⟨d.gL, 0, none⟩) n d.cL] := by kernel_rfl
      have hev : (#[(0, a.eval (.tmp 4)), (1, a.eval (.tmp 7)), (2, a.eval (.tmp 11)), (3, a.eval (.tmp 14)), (4, a.eval (.tmp 18)), (5, a.eval (.tmp 22))] : Array (Nat × Value)).toList = [(0, .int .i64 t), (1, .slice (some ⟨d.gC, 0, none⟩) n d.cC), (2, .slice AV W.length qV), (3, .slice (some ⟨d.gH, 0, none⟩) n d.cH), (4, .slice (some ⟨d.gF, 0, none⟩) n d.cF), (5, .slice (some ⟨d.gL, 0, none⟩) n d.cL)] := by
        rw [e0, e1, e2, e3, e4, e5, eV]
      have hval : d.val n t = #[.int .i64 t, .slice (some ⟨d.gC, 0, none⟩) n d.cC, .slice AV W.length qV, .slice (some ⟨d.gH, 0, none⟩) n d.cH, .slice (some ⟨d.gF, 0, none⟩) n d.cF, .slice (some ⟨d.gL, 0, none⟩) n d.cL] := by
        unfold CD.val
        rw [eV]
      have hbuilt : Tryd.prog.built 37 (#[(0, a.eval (.tmp 4)), (1, a.eval (.tmp 7)), (2, a.eval (.tmp 11)), (3, a.eval (.tmp 14)), (4, a.eval (.tmp 18)), (5, a.eval (.tmp 22))] : Array (Nat × Value)).toList = some (d.val n t) := by
        rw [hev, hval]
        exact hbt
      refine wp_built _ _ rfl _ (by simpa only [List.map_toArray, List.map_cons, List.map_nil] using hbuilt) ?_
      exact hK' _ _ ⟨.inr (c.sS (by omega)), 6, d, c.chain_6 h2m (Below.refl _ _) rfl c.cp⟩
    · obtain rfl := Option.some.inj hoi
      have hk1 : k < 7 := by
        rcases Nat.lt_or_ge k 7 with h | h
        · exact h
        · exact absurd (c.b21.trans (by rw [decide_eq_true h])) hno
      have hk2 : 6 ≤ k := by
        have h := hyes 20 (hdep ⟨20, .data⟩ (by simp) rfl)
        rw [c.b20] at h
        exact of_decide_eq_true (Option.some.inj h)
      obtain rfl : k = 6 := by omega
      obtain ⟨AV, qV, eV, -, -⟩ := (c.cp.p2 (by omega)).1.lnk
      have e2 := eval_of c.t2
      have e23 := eval_of (c.o23 (by omega))
      refine wpOp_step rfl (fun K' hK' => ?_)
      rw [if_pos (by rfl)]
      refine wp_store_row 37 (.tmp 2) (.tmp 23) rfl (m0 + 1) (d.val n t) e2 e23 _ _ (c.blk (by omega)) (by kernel_rfl) rfl (by unfold CD.val; rw [eV]; simp [Value.oneCell']) ?_
      exact hK' _ _ ⟨.inl rfl, 7, d, c.chain_7 (by omega) (by omega)⟩
    · exact absurd (c.rd i hr) hno
  · -- the end
    rintro listed a w' ⟨k, d, c⟩ hrd
    have h21 := all_done (by kernel_rfl) c.sz hrd 21 (by show 21 < 22; omega)
    rw [c.b21] at h21
    have hk7 : 7 ≤ k := of_decide_eq_true (Option.some.inj h21)
    obtain rfl : k = 7 := by have := c.k7; omega
    refine hKK _ _ ?_
    go_wp2_with fail
    have hp : a.tmps.getD 2 undef = .pointer (some ⟨m0 + 1, 0, none⟩) := by
      rw [Array.getD_eq_getD_getElem?, c.t2]; rfl
    refine bodyPost_ret (results_cell_row rfl _ _ _ _ _ (0, 0) _ hp (c.fin (Nat.le_refl _)) Tryd.underlying37 rfl (by kernel_rfl)) c.dfr ?_
    refine ⟨d, rfl, ?_, ?_⟩
    · rw [HM0.out]; exact c.cp
    · rw [HM0.out]; exact c.bel
  · -- the beginning
    refine ⟨0, ⟨0, 0, fun _ => 0, fun _ => 0, undef, 0, 0, fun _ => 0, fun _ => 0, 0, 0, 0, 0, 0, 0, 0⟩, ?_⟩
    exact {
      k7 := by omega
      sz := by kernel_rfl
      tsz := by kernel_rfl
      dfr := rfl
      bel := HBX.out.drew
      sS := fun _ => HS0.out
      rd := fun i hi => by
        simp at hi
        rcases hi with rfl | rfl | rfl | rfl | rfl | rfl | rfl | rfl | rfl | rfl | rfl | rfl <;> kernel_rfl
      b4 := by kernel_rfl
      b8 := by kernel_rfl
      b11 := by kernel_rfl
      b15 := by kernel_rfl
      b19 := by kernel_rfl
      b20 := by kernel_rfl
      b21 := by kernel_rfl
      e5 := ⟨false, by kernel_rfl, (fun h => by cases h), fun h => absurd h (by omega)⟩
      e12 := ⟨false, by kernel_rfl, (fun h => by cases h), fun h => absurd h (by omega)⟩
      e16 := ⟨false, by kernel_rfl, (fun h => by cases h), fun h => absurd h (by omega)⟩
      t2 := by kernel_rfl
      t4 := by kernel_rfl
      t6 := by kernel_rfl
      t10 := by kernel_rfl
      t13 := by kernel_rfl
      t17 := by kernel_rfl
      t21 := by kernel_rfl
      o7 := fun h => absurd h (by omega)
      o11 := fun h => absurd h (by omega)
      o14 := fun h => absurd h (by omega)
      o18 := fun h => absurd h (by omega)
      o22 := fun h => absurd h (by omega)
      o23 := fun h => absurd h (by omega)
      cp := CP.none
      mle := Nat.le_of_eq HZ2.out.symm
      blk := fun _ => HZ0.out.drew
      fin := fun h => absurd h (by omega) }

end Go.Proofs.YtminfghiejgieaaDoor

/- A copy of the reference's net that is turned: its ways may lie elsewhere. -/
namespace Go.Proofs.YtminfghiejgieaaDoor
open Go.RowKit
set_option linter.unusedVariables false

/-- The copy's value, with other ways. -/
def CD.valW (d : CD) (n t : Nat) (v : Value) : Array Value := #[.int .i64 t, .slice (some ⟨d.gC, 0, none⟩) n d.cC, v, .slice (some ⟨d.gH, 0, none⟩) n d.cH, .slice (some ⟨d.gF, 0, none⟩) n d.cF, .slice (some ⟨d.gL, 0, none⟩) n d.cL]

structure CN (m0 n t : Nat) (K h : Nat → Nat → Int) (f e : Nat → Int) (W : WayL) (d : CD) (v : Value) (w : World) : Prop where
  t1 : TabX w m0 d.m1 d.gC d.BC d.CC n K
  t3 : TabX w d.m2 d.m3 d.gH d.BH d.CH n h
  r4 : RowP w d.gF 3 n fun i => .int .i64 (f i)
  r5 : RowP w d.gL 3 n fun i => .int .i64 (e i)
  o1 : d.m1 ≤ d.m2
  o2 : d.m2 ≤ d.m3
  o4 : d.m3 ≤ d.gF
  o5 : d.gF < d.gL
  way : WayO w m0 v W.length (wA W) (wB W) (wD W)
  own : ∀ g, W.length ≠ 0 → v.ownBlock = some g → (d.m1 ≤ g ∧ g < d.m2) ∨ d.gL < g

section
variable {m0 n t : Nat} {K h : Nat → Nat → Int} {f e : Nat → Int} {W : WayL} {d : CD} {v : Value} {w w' : World}
theorem CN.low (c : CN m0 n t K h f e W d v w) : m0 ≤ d.m1 := Nat.le_trans c.t1.ge (Nat.le_of_lt c.t1.lt)
theorem CN.top (c : CN m0 n t K h f e W d v w) : d.gL < w.heap.size := c.r5.lt
theorem OwnS.lift {base base' n : Nat} {a b c : Nat → Int} (h : OwnS w base v n a b c) (hb : base' ≤ base) : OwnS w base' v n a b c := by
  refine ⟨h.1, ?_⟩
  rcases h.2 with h' | ⟨g, cap, cur, e1, hb', hr⟩
  · exact .inl h'
  · exact .inr ⟨g, cap, cur, e1, Nat.le_trans hb hb', hr⟩
theorem WayO.lift {base base' n : Nat} {a b c : Nat → Int} (h : WayO w base v n a b c) (hb : base' ≤ base) : WayO w base' v n a b c := by
  rcases h with h | ⟨h0, h⟩
  · exact .inl h
  · exact .inr ⟨h0, h.lift hb⟩
theorem CN.of (c : CP 5 m0 n t K h f e W d w) : CN m0 n t K h f e W d d.vW w := by
  obtain ⟨h1, h1'⟩ := c.p1 (by omega)
  obtain ⟨h2, h2', h2'', h2s⟩ := c.p2 (by omega)
  obtain ⟨h3, h3', h3''⟩ := c.p3 (by omega)
  obtain ⟨h4, h4'⟩ := c.p4 (by omega)
  obtain ⟨h5, h5'⟩ := c.p5 (by omega)
  have hm : m0 ≤ d.m1 := Nat.le_trans h1.ge (Nat.le_of_lt h1.lt)
  refine ⟨h1, h3, h4, h5, h2'', h3'', h4', h5', h2.lift hm, fun g h0 hg => .inl ⟨?_, h2' g h0 hg⟩⟩
  rcases h2 with ⟨h, -⟩ | ⟨-, h⟩
  · exact absurd h h0
  · exact (h.lt g hg).1
theorem CP.ownOf (c : CP 5 m0 n t K h f e W d w) : ∀ g, W.length ≠ 0 → d.vW.ownBlock = some g → d.m1 ≤ g ∧ g < d.m2 := by
  obtain ⟨h2, h2', h2'', h2s⟩ := c.p2 (by omega)
  intro g h0 hg
  refine ⟨?_, h2' g h0 hg⟩
  rcases h2 with ⟨h, -⟩ | ⟨-, h⟩
  · exact absurd h h0
  · exact (h.lt g hg).1
theorem CN.same (c : CN m0 n t K h f e W d v w) (hs : ∀ b, m0 ≤ b → b < w.heap.size → w'.heap[b]? = w.heap[b]?) : CN m0 n t K h f e W d v w' := by
  have := c.low
  have := c.top
  have := c.o1
  have := c.o2
  have := c.o4
  have := c.o5
  exact ⟨c.t1.same fun b h1 h2 => hs b h1 (by omega), c.t3.same fun b h1 h2 => hs b (by omega) (by omega), c.r4.of_block (hs _ (by omega) (by omega)), c.r5.of_block (hs _ (by omega) (by omega)), c.o1, c.o2, c.o4, c.o5, c.way.same fun g h1 h2 => hs g h1 h2, c.own⟩
theorem CN.below (c : CN m0 n t K h f e W d v w) (hb : Below w.heap.size w w') : CN m0 n t K h f e W d v w' := c.same fun b _ hlt => hb.block b hlt
theorem CN.own_ge (c : CN m0 n t K h f e W d v w) : ∀ g, W.length ≠ 0 → v.ownBlock = some g → m0 ≤ g := fun g h0 hg => by
  have := c.low
  have := c.o1
  have := c.o2
  have := c.o4
  have := c.o5
  have := c.own g h0 hg
  omega
theorem CN.reads (c : CN m0 n t K h f e W d v w) : QR (fun b => m0 ≤ b) w (d.valW n t v) n t K h f e W := by
  have := c.low
  have := c.top
  have := c.o1
  have := c.o2
  have := c.o4
  have := c.o5
  obtain ⟨AW, cW, eq, hl, hx⟩ := c.way.lnk
  refine ⟨_, d.cC, AW, cW, _, d.cH, _, d.cF, _, d.cL, by unfold CD.valW; rw [eq], c.t1.matP fun b h _ => h, fun i hi => ?_, fun hA => ?_, c.t3.matP fun b h _ => by show m0 ≤ b; omega, c.r4.vecP (by show m0 ≤ d.gF; omega), c.r5.vecP (by show m0 ≤ d.gL; omega)⟩
  · obtain ⟨ad, hA, hlt, hrest⟩ := hl i hi
    refine ⟨ad, hA, ?_, hlt, hrest⟩
    rcases hx with ⟨h0, -⟩ | ⟨g, hg, hb, -, -⟩
    · omega
    · rw [hA] at hg
      simp only [Option.some.injEq] at hg
      subst hg
      exact hb
  · rcases hx with ⟨h0, -⟩ | ⟨g, hg, -⟩
    · exact h0
    · rw [hA] at hg; cases hg
/-- One sent one more. -/
theorem CN.grow (c : CN m0 n t K h f e W d v w) {g cap x y : Nat} {z : Int} (hO : OwnS w' m0 (.slice (some ⟨g, 0, none⟩) (W.length + 1) cap) (W.length + 1) (upd (wA W) W.length x) (upd (wB W) W.length y) (upd (wD W) W.length z))
    (hg : w.grownBy w' (if W.length = 0 then none else v.ownBlock)) (ho : (W.length ≠ 0 ∧ v.ownBlock = some g) ∨ g = w.heap.size) :
    CN m0 n t K h f e (W ++ [(x, y, z)]) d (.slice (some ⟨g, 0, none⟩) (W.length + 1) cap) w' := by
  have := c.low
  have := c.top
  have := c.o1
  have := c.o2
  have := c.o4
  have := c.o5
  have hs : ∀ b, b < w.heap.size → ¬ ((d.m1 ≤ b ∧ b < d.m2) ∨ d.gL < b) → w'.heap[b]? = w.heap[b]? := fun b hlt hno => hg.block b hlt fun eb => by
    by_cases h0 : W.length = 0
    · rw [if_pos h0] at eb; cases eb
    · rw [if_neg h0] at eb
      exact hno (c.own b h0 eb.symm)
  have hl : (W ++ [(x, y, z)]).length = W.length + 1 := by simp
  refine ⟨c.t1.same fun b h1 h2 => hs b (by omega) (by omega), c.t3.same fun b h1 h2 => hs b (by omega) (by omega), c.r4.of_block (hs _ (by omega) (by omega)), c.r5.of_block (hs _ (by omega) (by omega)), c.o1, c.o2, c.o4, c.o5, .inr ⟨by omega, ?_⟩, fun b h0 hb => ?_⟩
  · rw [hl]
    have hlast : ∀ i, i < W.length + 1 → i ≠ W.length → (W ++ [(x, y, z)]).getD i (0, 0, 0) = W.getD i (0, 0, 0) := fun i hi hne => by
      rw [List.getD_eq_getElem?_getD, List.getD_eq_getElem?_getD, List.getElem?_append_left (by omega)]
    have hat : (W ++ [(x, y, z)]).getD W.length (0, 0, 0) = (x, y, z) := by simp
    have key : ∀ {β : Type} (π : Nat × Nat × Int → β) (F : Nat → β) (u : β), (∀ i, i < W.length → F i = π (W.getD i (0, 0, 0))) → u = π (x, y, z) → ∀ i, i < W.length + 1 → upd F W.length u i = π ((W ++ [(x, y, z)]).getD i (0, 0, 0)) := by
      intro β π F u hF hu i hi
      unfold upd
      by_cases e : i = W.length
      · rw [if_pos e, e, hat]; exact hu
      · rw [if_neg e, hlast i hi e]; exact hF i (by omega)
    exact hO.congr (key (fun p => (p.1 : Int)) _ _ (fun i _ => rfl) rfl) (key (fun p => (p.2.1 : Int)) _ _ (fun i _ => rfl) rfl) (key (fun p => p.2.2) _ _ (fun i _ => rfl) rfl)
  · have eb : g = b := by simpa [Value.ownBlock] using hb
    rcases ho with ⟨h1, h2⟩ | h1
    · rw [eb] at h2
      exact c.own b h1 h2
    · exact .inr (by omega)
/-- None is on its way. -/
theorem CN.empt (c : CN m0 n t K h f e W d v w) : CN m0 n t K h f e [] d (.slice none 0 0) w :=
  ⟨c.t1, c.t3, c.r4, c.r5, c.o1, c.o2, c.o4, c.o5, .inl ⟨rfl, _, rfl⟩, fun g h0 => absurd rfl h0⟩

/-- All but one block, which is none of the copy's, as they were. -/
theorem CN.but (c : CN m0 n t K h f e W d v w) {p : Nat} (hp : d.gL < p) (ho : ∀ g, v.ownBlock = some g → g ≠ p) (hs : ∀ b, m0 ≤ b → b < w.heap.size → b ≠ p → w'.heap[b]? = w.heap[b]?) : CN m0 n t K h f e W d v w' := by
  have := c.low
  have := c.top
  have := c.o1
  have := c.o2
  have := c.o4
  have := c.o5
  refine ⟨c.t1.same fun b h1 h2 => hs b h1 (by omega) (by omega), c.t3.same fun b h1 h2 => hs b (by omega) (by omega) (by omega), c.r4.of_block (hs _ (by omega) (by omega) (by omega)), c.r5.of_block (hs _ (by omega) (by omega) (by omega)), c.o1, c.o2, c.o4, c.o5, ?_, c.own⟩
  rcases c.way with hh | ⟨h1, hh⟩
  · exact .inl hh
  · exact .inr ⟨h1, hh.same fun g hg => hs g (hh.lt g hg).1 (hh.lt g hg).2 (ho g hg)⟩

/-- A store in a block of the copy that holds no ways. -/
theorem CN.far_ne (c : CN m0 n t K h f e W d v w) {b : Nat} (hb : ¬ ((d.m1 ≤ b ∧ b < d.m2) ∨ d.gL < b)) (h0 : m0 ≤ b) : ∀ x (p : Addr), p.block = b → WayO (w.setCell p x) m0 v W.length (wA W) (wB W) (wD W) := by
  rintro x p rfl
  rcases c.way with hh | ⟨h1, hh⟩
  · exact .inl hh
  · refine .inr ⟨h1, hh.same fun g hg => Below.heap_setCell _ _ _ _ fun e => ?_⟩
    subst e
    exact hb (c.own _ (by omega) hg)
theorem CN.setHeard (c : CN m0 n t K h f e W d v w) {r : Nat} (hr : r < n) (k : Nat) (x : Int) : CN m0 n t K (fun p q => if p = r ∧ q = k then x else h p q) f e W d v (w.setCell ⟨d.BH r, k, none⟩ (.int .i64 x)) := by
  have := c.low
  have := c.top
  have := c.o1
  have := c.o2
  have := c.o4
  have := c.o5
  obtain ⟨b1, b2, b3⟩ := c.t3.rows r hr
  have hs : ∀ b, b ≠ d.BH r → (w.setCell ⟨d.BH r, k, none⟩ (.int .i64 x)).heap[b]? = w.heap[b]? := fun b hb => Below.heap_setCell _ _ _ _ hb
  exact ⟨c.t1.same fun b h1 h2 => hs b (by omega), c.t3.set hr k x, c.r4.of_block (hs _ (by omega)), c.r5.of_block (hs _ (by omega)), c.o1, c.o2, c.o4, c.o5, c.far_ne (b := d.BH r) (by omega) (by omega) _ _ rfl, c.own⟩
theorem CN.setCost (c : CN m0 n t K h f e W d v w) {r : Nat} (hr : r < n) (k : Nat) (x : Int) : CN m0 n t (fun p q => if p = r ∧ q = k then x else K p q) h f e W d v (w.setCell ⟨d.BC r, k, none⟩ (.int .i64 x)) := by
  have := c.low
  have := c.top
  have := c.o1
  have := c.o2
  have := c.o4
  have := c.o5
  obtain ⟨b1, b2, b3⟩ := c.t1.rows r hr
  have hs : ∀ b, b ≠ d.BC r → (w.setCell ⟨d.BC r, k, none⟩ (.int .i64 x)).heap[b]? = w.heap[b]? := fun b hb => Below.heap_setCell _ _ _ _ hb
  exact ⟨c.t1.set hr k x, c.t3.same fun b h1 h2 => hs b (by omega), c.r4.of_block (hs _ (by omega)), c.r5.of_block (hs _ (by omega)), c.o1, c.o2, c.o4, c.o5, c.far_ne (b := d.BC r) (by omega) (by omega) _ _ rfl, c.own⟩
theorem CN.setFar (c : CN m0 n t K h f e W d v w) (i : Nat) (x : Int) : CN m0 n t K h (upd f i x) e W d v (w.setCell ⟨d.gF, i, none⟩ (.int .i64 x)) := by
  have := c.low
  have := c.top
  have := c.o1
  have := c.o2
  have := c.o4
  have := c.o5
  have hs : ∀ b, b ≠ d.gF → (w.setCell ⟨d.gF, i, none⟩ (.int .i64 x)).heap[b]? = w.heap[b]? := fun b hb => Below.heap_setCell _ _ _ _ hb
  refine ⟨c.t1.same fun b h1 h2 => hs b (by omega), c.t3.same fun b h1 h2 => hs b (by omega), (c.r4.set i _).congr fun j _ => ?_, c.r5.of_block (hs _ (by omega)), c.o1, c.o2, c.o4, c.o5, c.far_ne (b := d.gF) (by omega) (by omega) _ _ rfl, c.own⟩
  unfold upd
  by_cases e : j = i <;> simp [e]
theorem CN.setLeast (c : CN m0 n t K h f e W d v w) (i : Nat) (x : Int) : CN m0 n t K h f (upd e i x) W d v (w.setCell ⟨d.gL, i, none⟩ (.int .i64 x)) := by
  have := c.low
  have := c.top
  have := c.o1
  have := c.o2
  have := c.o4
  have := c.o5
  have hs : ∀ b, b ≠ d.gL → (w.setCell ⟨d.gL, i, none⟩ (.int .i64 x)).heap[b]? = w.heap[b]? := fun b hb => Below.heap_setCell _ _ _ _ hb
  refine ⟨c.t1.same fun b h1 h2 => hs b (by omega), c.t3.same fun b h1 h2 => hs b (by omega), c.r4.of_block (hs _ (by omega)), (c.r5.set i _).congr fun j _ => ?_, c.o1, c.o2, c.o4, c.o5, c.far_ne (b := d.gL) (by omega) (by omega) _ _ rfl, c.own⟩
  unfold upd
  by_cases e : j = i <;> simp [e]
end

end Go.Proofs.YtminfghiejgieaaDoor

/- The walk of the reference's Sending. Printed by gen_qsending.py. -/
namespace Go.Proofs.YtminfghiejgieaaDoor
open Go.RowKit
set_option linter.unusedVariables false

/-- What the sending region reads. -/
def SndS (p b x n : Nat) (z : Int) (aF : Addr) (cF : Nat) (AV : Option Addr) (L qV : Nat) (w : World) : Prop := w.cell? ⟨p, 2, none⟩ = some (.slice AV L qV) ∧ w.cell? ⟨b, 4, none⟩ = some (.slice (some aF) n cF) ∧ w.cell? (aF.add x) = some (.int .i64 z) ∧ w.frozen? ⟨p, 2, none⟩ = false
theorem SndS.below {p b x n : Nat} {z : Int} {aF : Addr} {cF : Nat} {AV : Option Addr} {L qV : Nat} {w w' : World} (h : SndS p b x n z aF cF AV L qV w) (hb : Below w.heap.size w w') : SndS p b x n z aF cF AV L qV w' := by
  obtain ⟨h1, h2, h3, h4⟩ := h
  exact ⟨(hb.cell (World.block_lt_of_cell? w _ h1)).trans h1, (hb.cell (World.block_lt_of_cell? w _ h2)).trans h2, (hb.cell (World.block_lt_of_cell? w _ h3)).trans h3, (hb.frozen (World.block_lt_of_cell? w _ h1)).trans h4⟩

set_option maxRecDepth 100000 in
set_option maxHeartbeats 4000000 in
theorem qSending (P : Nat → Prop) (v : Array Value) (n t : Nat) (K h : Nat → Nat → Int) (f e : Nat → Int) (W : WayL) (x y : Nat) (w : World) (q : QR P w v n t K h f e W) (h1 : 1 ≤ n) (h8 : n ≤ 8) (hWl : W.length ≤ 1000000) (hx : x < n) :
    Calls Tryd.prog 20 #[.agg v, .int .i64 x, .int .i64 y] w fun e' w' => ∃ v', e' = .returned (.agg v') ∧ QR (fun b => w.heap.size ≤ b) w' v' n t K h f e (W ++ [(x, y, f x)]) ∧ Below w.heap.size w w' := by
  have HQ := Lib.hid q
  obtain ⟨AC, cC, AW, cW, AH, cH, AF, cF, AL, cL, rfl, hK, hW, hWn, hH, hF, hE⟩ := q
  have hx' : (x : Int) < n := by omega
  obtain ⟨aF, eF, -, hFl, hFx⟩ := hF x hx
  simp only [Option.some.injEq] at eF
  subst eF
  obtain ⟨fx, hfx⟩ : ∃ fx, f x = fx := ⟨_, rfl⟩
  rw [hfx] at hFx ⊢
  have HFX := Lib.hid hFx
  have HFL := Lib.hid hFl
  clear hK hW hWn hH hF hE hFx hFl hfx
  have h8' : (n : Int) ≤ 8 := by omega
  have hb1 : Below w.heap.size w ((w.alloc (.cells #[.int .i64 t, .slice (some AC) n cC, .slice AW W.length cW, .slice (some AH) n cH, .slice (some AF) n cF, .slice (some AL) n cL] 37)).alloc (.cells #[.int .i64 0, .slice none 0 0, .slice none 0 0, .slice none 0 0, .slice none 0 0, .slice none 0 0] 37)) := ((Below.refl _ _).alloc (Nat.le_refl _) _).alloc (by simp) _
  have hx1 : Blk ((w.alloc (.cells #[.int .i64 t, .slice (some AC) n cC, .slice AW W.length cW, .slice (some AH) n cH, .slice (some AF) n cF, .slice (some AL) n cL] 37)).alloc (.cells #[.int .i64 0, .slice none 0 0, .slice none 0 0, .slice none 0 0, .slice none 0 0, .slice none 0 0] 37)) w.heap.size 37 #[.int .i64 t, .slice (some AC) n cC, .slice AW W.length cW, .slice (some AH) n cH, .slice (some AF) n cF, .slice (some AL) n cL] := (Blk.new w _ _).alloc _
  have hr1 : Blk ((w.alloc (.cells #[.int .i64 t, .slice (some AC) n cC, .slice AW W.length cW, .slice (some AH) n cH, .slice (some AF) n cF, .slice (some AL) n cL] 37)).alloc (.cells #[.int .i64 0, .slice none 0 0, .slice none 0 0, .slice none 0 0, .slice none 0 0, .slice none 0 0] 37)) (w.heap.size + 1) 37 #[.int .i64 0, .slice none 0 0, .slice none 0 0, .slice none 0 0, .slice none 0 0, .slice none 0 0] := by
    have := Blk.new (w.alloc (.cells #[.int .i64 t, .slice (some AC) n cC, .slice AW W.length cW, .slice (some AH) n cH, .slice (some AF) n cF, .slice (some AL) n cL] 37)) 37 #[.int .i64 0, .slice none 0 0, .slice none 0 0, .slice none 0 0, .slice none 0 0, .slice none 0 0]
    rwa [show (w.alloc (.cells #[.int .i64 t, .slice (some AC) n cC, .slice AW W.length cW, .slice (some AH) n cH, .slice (some AF) n cF, .slice (some AL) n cL] 37)).heap.size = w.heap.size + 1 by simp] at this
  have hz1 : ((w.alloc (.cells #[.int .i64 t, .slice (some AC) n cC, .slice AW W.length cW, .slice (some AH) n cH, .slice (some AF) n cF, .slice (some AL) n cL] 37)).alloc (.cells #[.int .i64 0, .slice none 0 0, .slice none 0 0, .slice none 0 0, .slice none 0 0, .slice none 0 0] 37)).heap.size = w.heap.size + 2 := by simp
  have HZE := Lib.hid hz1
  have HB1 := Lib.hid hb1
  have HX1 := Lib.hid hx1
  have HR1 := Lib.hid hr1
  clear hb1 hx1 hr1 hz1
  go_enter Tryd.func20, Tryd.ntmps20
  go_wp2_with fail
  refine (copied_walk P _ n t K h f e W _ (HQ.out.below HB1.out) h1 h8 hWl).mono ?_
  rintro e' w3 ⟨d, rfl, hcp, hb3⟩
  rw [HZE.out] at hcp hb3
  obtain ⟨AV, qV, eV, -, -⟩ := (CN.of hcp).way.lnk
  have hval : d.val n t = #[.int .i64 t, .slice (some ⟨d.gC, 0, none⟩) n d.cC, .slice AV W.length qV, .slice (some ⟨d.gH, 0, none⟩) n d.cH, .slice (some ⟨d.gF, 0, none⟩) n d.cF, .slice (some ⟨d.gL, 0, none⟩) n d.cL] := by
    unfold CD.val
    rw [eV]
  have hcn := CN.of hcp
  have hown := hcp.ownOf
  rw [eV] at hcn hown
  rw [hval]
  clear hcp hval eV
  go_wp2_with fail
  have hcn4 := hcn.below ((Below.refl _ _).alloc (Nat.le_refl _) (.cells #[.int .i64 t, .slice (some ⟨d.gC, 0, none⟩) n d.cC, .slice AV W.length qV, .slice (some ⟨d.gH, 0, none⟩) n d.cH, .slice (some ⟨d.gF, 0, none⟩) n d.cF, .slice (some ⟨d.gL, 0, none⟩) n d.cL] 37))
  have hp4 : Blk (w3.alloc (.cells #[.int .i64 t, .slice (some ⟨d.gC, 0, none⟩) n d.cC, .slice AV W.length qV, .slice (some ⟨d.gH, 0, none⟩) n d.cH, .slice (some ⟨d.gF, 0, none⟩) n d.cF, .slice (some ⟨d.gL, 0, none⟩) n d.cL] 37)) w3.heap.size 37 #[.int .i64 t, .slice (some ⟨d.gC, 0, none⟩) n d.cC, .slice AV W.length qV, .slice (some ⟨d.gH, 0, none⟩) n d.cH, .slice (some ⟨d.gF, 0, none⟩) n d.cF, .slice (some ⟨d.gL, 0, none⟩) n d.cL] := Blk.new _ _ _
  have hx4 : Blk (w3.alloc (.cells #[.int .i64 t, .slice (some ⟨d.gC, 0, none⟩) n d.cC, .slice AV W.length qV, .slice (some ⟨d.gH, 0, none⟩) n d.cH, .slice (some ⟨d.gF, 0, none⟩) n d.cF, .slice (some ⟨d.gL, 0, none⟩) n d.cL] 37)) w.heap.size 37 #[.int .i64 t, .slice (some AC) n cC, .slice AW W.length cW, .slice (some AH) n cH, .slice (some AF) n cF, .slice (some AL) n cL] := Blk.alloc ((hb3.block _ (by omega)).trans HX1.out) _
  have hr4 : Blk (w3.alloc (.cells #[.int .i64 t, .slice (some ⟨d.gC, 0, none⟩) n d.cC, .slice AV W.length qV, .slice (some ⟨d.gH, 0, none⟩) n d.cH, .slice (some ⟨d.gF, 0, none⟩) n d.cF, .slice (some ⟨d.gL, 0, none⟩) n d.cL] 37)) (w.heap.size + 1) 37 #[.int .i64 0, .slice none 0 0, .slice none 0 0, .slice none 0 0, .slice none 0 0, .slice none 0 0] := Blk.alloc ((hb3.block _ (by omega)).trans HR1.out) _
  have hb4 : Below w.heap.size w (w3.alloc (.cells #[.int .i64 t, .slice (some ⟨d.gC, 0, none⟩) n d.cC, .slice AV W.length qV, .slice (some ⟨d.gH, 0, none⟩) n d.cH, .slice (some ⟨d.gF, 0, none⟩) n d.cF, .slice (some ⟨d.gL, 0, none⟩) n d.cL] 37)) := (HB1.out.trans (hb3.mono (by omega))).alloc (HB1.out.trans (hb3.mono (by omega))).size _
  have hs4 : (w3.alloc (.cells #[.int .i64 t, .slice (some ⟨d.gC, 0, none⟩) n d.cC, .slice AV W.length qV, .slice (some ⟨d.gH, 0, none⟩) n d.cH, .slice (some ⟨d.gF, 0, none⟩) n d.cF, .slice (some ⟨d.gL, 0, none⟩) n d.cL] 37)).heap.size = w3.heap.size + 1 := by simp
  obtain ⟨p7, hp7⟩ : ∃ p7, w3.heap.size = p7 := ⟨_, rfl⟩
  have htop := hcn.top
  have hlow := hcn.low
  have ho1 := hcn.o1
  have ho2 := hcn.o2
  have ho4 := hcn.o4
  have ho5 := hcn.o5
  obtain ⟨w4, hw4⟩ : ∃ w4, w3.alloc (.cells #[.int .i64 t, .slice (some ⟨d.gC, 0, none⟩) n d.cC, .slice AV W.length qV, .slice (some ⟨d.gH, 0, none⟩) n d.cH, .slice (some ⟨d.gF, 0, none⟩) n d.cF, .slice (some ⟨d.gL, 0, none⟩) n d.cL] 37) = w4 := ⟨_, rfl⟩
  rw [hw4] at hcn4 hp4 hx4 hr4 hb4 hs4 ⊢
  rw [hp7] at hp4 hs4 htop ⊢
  have HB4 := Lib.hid hb4
  have HC4 := Lib.hid hcn4
  have HP4 := Lib.hid hp4
  have HOWN := Lib.hid hown
  have HX4 := Lib.hid hx4
  have HR4 := Lib.hid hr4
  have HZ5 : Hid (w.heap.size + 2 + 2 ≤ (w4.alloc (.cells #[.int .i64 x, .int .i64 y, .int .i64 fx] 80)).drew.heap.size) := Lib.hid (by show _ ≤ (w4.alloc _).heap.size; rw [World.size_alloc]; omega)
  clear hb3 hcn hown hw4 hp7 HX1 HR1 HB1 HZE
  have hS0 : SndS p7 w.heap.size x n fx AF cF AV W.length qV w4 := by
    refine ⟨hp4.cell 2, hx4.cell 4, (HB4.out.cell (p := AF.add x) (by rw [block_of_add]; exact HFL.out)).trans HFX.out, hp4.frozen 2⟩
  have HS0 : Hid (SndS p7 w.heap.size x n fx AF cF AV W.length qV w4.drew) := hS0
  have hb5 : Below w4.heap.size w4 (w4.alloc (.cells #[.int .i64 x, .int .i64 y, .int .i64 fx] 80)) := (Below.refl _ _).alloc (Nat.le_refl _) _
  have HB5 := Lib.hid hb5
  have HS1 : Hid (SndS p7 w.heap.size x n fx AF cF AV W.length qV (w4.alloc (.cells #[.int .i64 x, .int .i64 y, .int .i64 fx] 80)).drew) := hS0.below hb5.drew
  clear hb5 hS0
  refine wp_region_tail (SndS p7 w.heap.size x n fx AF cF AV W.length qV) 13 (by kernel_rfl) ?_
  refine wpTail_take (i := 0) (v := ?_) rfl (by kernel_rfl) (by kernel_rfl) (by kernel_rfl) (by kernel_rfl) (fun _ _ _ h => h) HS0.out ?_ rfl ?_
  rotate_left 1
  · intro w0 hS0
    obtain ⟨s1, s2, s3, s4⟩ := hS0
    go_simp
    try with_reducible rfl
  try simp only [Act.put, List.setIfInBounds_toArray]
  refine wpTail_take (i := 1) (v := ?_) rfl (by kernel_rfl) (by kernel_rfl) (by kernel_rfl) (by kernel_rfl) (fun _ _ _ h => h) HS0.out ?_ rfl ?_
  rotate_left 1
  · intro w0 hS0
    obtain ⟨s1, s2, s3, s4⟩ := hS0
    go_simp
    try with_reducible rfl
  try simp only [Act.put]
  refine wpTail_take (i := 2) (v := ?_) rfl (by kernel_rfl) (by kernel_rfl) (by kernel_rfl) (by kernel_rfl) (fun _ _ _ h => h) HS0.out ?_ rfl ?_
  rotate_left 1
  · intro w0 hS0
    obtain ⟨s1, s2, s3, s4⟩ := hS0
    go_simp
    try with_reducible rfl
  try simp only [Act.put]
  refine wpTail_take (i := 3) (v := ?_) rfl (by kernel_rfl) (by kernel_rfl) (by kernel_rfl) (by kernel_rfl) (fun _ _ _ h => h) HS0.out ?_ rfl ?_
  rotate_left 1
  · intro w0 hS0
    obtain ⟨s1, s2, s3, s4⟩ := hS0
    go_simp
    try with_reducible rfl
  try simp only [Act.put]
  refine wpTail_take (i := 4) (v := ?_) rfl (by kernel_rfl) (by kernel_rfl) (by kernel_rfl) (by kernel_rfl) (fun _ _ _ h => h) HS0.out ?_ rfl ?_
  rotate_left 1
  · intro w0 hS0
    obtain ⟨s1, s2, s3, s4⟩ := hS0
    go_simp
    try with_reducible rfl
  try simp only [Act.put]
  refine wpTail_take (i := 5) (v := ?_) rfl (by kernel_rfl) (by kernel_rfl) (by kernel_rfl) (by kernel_rfl) (fun _ _ _ h => h) HS0.out ?_ rfl ?_
  rotate_left 1
  · intro w0 hS0
    obtain ⟨s1, s2, s3, s4⟩ := hS0
    go_simp
    try with_reducible rfl
  try simp only [Act.put]
  refine wpTail_take (i := 6) (v := ?_) rfl (by kernel_rfl) (by kernel_rfl) (by kernel_rfl) (by kernel_rfl) (fun _ _ _ h => h) HS0.out ?_ rfl ?_
  rotate_left 1
  · intro w0 hS0
    obtain ⟨s1, s2, s3, s4⟩ := hS0
    go_simp
    try with_reducible rfl
  try simp only [Act.put]
  refine wpTail_take (i := 7) (v := ?_) rfl (by kernel_rfl) (by kernel_rfl) (by kernel_rfl) (by kernel_rfl) (fun _ _ _ h => h) HS0.out ?_ rfl ?_
  rotate_left 1
  · intro w0 hS0
    obtain ⟨s1, s2, s3, s4⟩ := hS0
    go_simp
    try with_reducible rfl
  try simp only [Act.put]
  refine wpTail_take (i := 8) (v := ?_) rfl (by kernel_rfl) (by kernel_rfl) (by kernel_rfl) (by kernel_rfl) (fun _ _ _ h => h) HS0.out ?_ rfl ?_
  rotate_left 1
  · intro w0 hS0
    obtain ⟨s1, s2, s3, s4⟩ := hS0
    go_simp
    try with_reducible rfl
  try simp only [Act.put]
  refine wpTail_step (i := 9) rfl (by kernel_rfl) (fun K hK => ?_)
  rw [if_pos (by rfl)]
  refine wp_built _ _ rfl #[.int .i64 x, .int .i64 y, .int .i64 fx] (by kernel_rfl) ?_
  refine hK.out _ _ HS0.out ?_
  clear hK K
  try simp only [Act.put]
  refine wpTail_step (i := 10) rfl (by kernel_rfl) (fun K hK => ?_)
  go_simp
  refine hK.out _ _ HS1.out ?_
  clear hK K
  try simp only [Act.put]
  refine wpTail_step (i := 11) rfl (by kernel_rfl) (fun K hK => ?_)
  rw [if_pos (by rfl)]
  refine wp_append_way (.tmp 11) (.tmp 20) rfl rfl (w.heap.size + 2 + 2) _ W.length (wA W) (wB W) (wD W) rfl (HC4.out.below HB5.out).way x y fx ⟨p7 + 1, 0, none⟩ rfl (fun j u hu => by rw [Addr.add_lit, Nat.zero_add, ← hs4]; exact ((Blk.new w4 _ _).cell j).trans (by simpa using hu)) (by omega) HZ5.out ?_
  intro g6 cap6 w6 hO6 hb6 hg6 ho6
  have hcn6 := (HC4.out.below (HB5.out.drew)).grow hO6 hg6 ho6
  have hz5 : (w4.alloc (.cells #[.int .i64 x, .int .i64 y, .int .i64 fx] 80)).heap.size = w4.heap.size + 1 := by simp
  have hg6' : g6 ≠ p7 := by
    intro e6
    rcases ho6 with ⟨h0, h6⟩ | h6
    · have := HOWN.out g6 h0 h6
      omega
    · have h7 : g6 = w4.heap.size + 1 := h6.trans hz5
      omega
  have hkeep : ∀ b, b < w4.heap.size → ¬ (d.m1 ≤ b ∧ b < d.m2) → w6.heap[b]? = w4.heap[b]? := fun b hb hno => by
    refine (hg6.block b (Nat.lt_of_lt_of_le hb HB5.out.size) fun eb => ?_).trans (HB5.out.drew.block b hb)
    by_cases h0 : W.length = 0
    · rw [if_pos h0] at eb; cases eb
    · rw [if_neg h0] at eb
      exact hno (HOWN.out b h0 eb.symm)
  have hp6 : Blk w6 p7 37 _ := (hkeep p7 (by omega) (by omega)).trans HP4.out
  have hr6 : Blk w6 (w.heap.size + 1) 37 _ := (hkeep _ (by omega) (by omega)).trans HR4.out
  have hx6 : Blk w6 w.heap.size 37 _ := (hkeep _ (by omega) (by omega)).trans HX4.out
  have hA6 : w6.cell? (AF.add x) = some (.int .i64 fx) := (World.cell?_of_block (by rw [block_of_add]; exact hkeep _ (by have := HFL.out; omega) (by have := HFL.out; omega))).trans ((HB4.out.cell (p := AF.add x) (by rw [block_of_add]; exact HFL.out)).trans HFX.out)
  have HS6 : Hid (SndS p7 w.heap.size x n fx AF cF AV W.length qV w6) := ⟨hp6.cell 2, hx6.cell 4, hA6, hp6.frozen 2⟩
  have HC6 := Lib.hid hcn6
  have HP6 := Lib.hid hp6
  have HR6 := Lib.hid hr6
  have HG6 := Lib.hid hg6'
  have HB6 : Hid (Below w.heap.size w w6) := (HB4.out.trans (HB5.out.drew.mono HB4.out.size)).trans (hb6.mono (by omega))
  have HSZ := Lib.hid (show p7 < w6.heap.size from (by
    have h6 := hb6.size
    have h7 : w4.heap.size + 1 ≤ w6.heap.size := hz5 ▸ h6
    omega))
  clear hcn6 hp6 hr6 hx6 hA6 hg6' hkeep hO6 hb6 hg6 ho6 hz5
  refine hK.out _ _ HS6.out ?_
  clear hK K
  try simp only [Act.put]
  refine wpTail_take (i := 12) (v := ?_) rfl (by kernel_rfl) (by kernel_rfl) (by kernel_rfl) (by kernel_rfl) (fun _ _ _ h => h) HS6.out ?_ rfl ?_
  rotate_left 1
  · intro w0 hS0
    obtain ⟨s1, s2, s3, s4⟩ := hS0
    go_simp
    try with_reducible rfl
  try simp only [Act.put]
  refine wpTail_last rfl (by kernel_rfl) (by kernel_rfl) (fun K hK => ?_)
  have s1 := HS6.out.1
  have s4 := HS6.out.2.2.2
  go_simp
  refine hK.out _ _ ?_
  clear hK K s1 s4 HS6
  have hcn7 : CN (w.heap.size + 2 + 2) n t K h f e (W ++ [(x, y, fx)]) d (.slice (some ⟨g6, 0, none⟩) (W.length + 1) cap6) (w6.setCell ⟨p7, 2, none⟩ (.slice (some ⟨g6, 0, none⟩) (W.length + 1) cap6)) :=
    HC6.out.but (p := p7) htop (fun g hg => by
      have : g6 = g := by simpa [Value.ownBlock] using hg
      subst this
      exact HG6.out) fun b _ _ hb => Below.heap_setCell _ _ _ _ hb
  have hp7 := HP6.out.set_ 2 (.slice (some ⟨g6, 0, none⟩) (W.length + 1) cap6)
  simp at hp7
  have hr7 : Blk (w6.setCell ⟨p7, 2, none⟩ (.slice (some ⟨g6, 0, none⟩) (W.length + 1) cap6)) (w.heap.size + 1) 37 _ := (Below.heap_setCell _ _ _ _ (by show _ ≠ p7; omega)).trans HR6.out
  have hb7 : Below w.heap.size w (w6.setCell ⟨p7, 2, none⟩ (.slice (some ⟨g6, 0, none⟩) (W.length + 1) cap6)) := HB6.out.setCell (by show w.heap.size ≤ p7; omega) _
  obtain ⟨w7, hw7⟩ : ∃ w7, w6.setCell ⟨p7, 2, none⟩ (.slice (some ⟨g6, 0, none⟩) (W.length + 1) cap6) = w7 := ⟨_, rfl⟩
  rw [hw7] at hcn7 hp7 hr7 hb7 ⊢
  have k0 : w7.cell? ⟨p7, 0, none⟩ = some (.int .i64 t) := hp7.cell 0
  have k1 : w7.cell? ⟨p7, 1, none⟩ = some (.slice (some ⟨d.gC, 0, none⟩) n d.cC) := hp7.cell 1
  have k2 : w7.cell? ⟨p7, 2, none⟩ = some (.slice (some ⟨g6, 0, none⟩) (W.length + 1) cap6) := hp7.cell 2
  have k3 : w7.cell? ⟨p7, 3, none⟩ = some (.slice (some ⟨d.gH, 0, none⟩) n d.cH) := hp7.cell 3
  have k4 : w7.cell? ⟨p7, 4, none⟩ = some (.slice (some ⟨d.gF, 0, none⟩) n d.cF) := hp7.cell 4
  have k5 : w7.cell? ⟨p7, 5, none⟩ = some (.slice (some ⟨d.gL, 0, none⟩) n d.cL) := hp7.cell 5
  have HC7 := Lib.hid hcn7
  have HR7 := Lib.hid hr7
  have HB7 := Lib.hid hb7
  clear hcn7 hp7 hr7 hb7 hw7 HC6 HP6 HR6 HB6 HSZ HG6
  go_wp2_with (refine wpList_store_row rfl 37 (.tmp 6) (.tmp 23) rfl (w.heap.size + 1) #[.int .i64 t, .slice (some ⟨d.gC, 0, none⟩) n d.cC, .slice (some ⟨g6, 0, none⟩) (W.length + 1) cap6, .slice (some ⟨d.gH, 0, none⟩) n d.cH, .slice (some ⟨d.gF, 0, none⟩) n d.cF, .slice (some ⟨d.gL, 0, none⟩) n d.cL] rfl rfl _ _ HR7.out (by kernel_rfl) rfl (by simp [Value.oneCell']) ?_)
  refine bodyPost_ret (results_cell_row rfl _ _ _ _ _ (0, 0) _ rfl (setRow_heap _ _ _ _ _ _ HR7.out) Tryd.underlying37 rfl (by kernel_rfl)) rfl ?_
  refine ⟨_, rfl, ?_, ?_⟩
  · exact (HC7.out.same fun b hb _ => setRow_other _ _ b _ (by omega)).reads.same (fun _ _ _ => rfl) (Nat.le_refl _) (fun b hb _ => by
      have hb' : w.heap.size + 2 + 2 ≤ b := hb
      show w.heap.size ≤ b
      omega)
  · exact ⟨HB7.out.os, HB7.out.tape, HB7.out.output, by rw [setRow_size]; exact HB7.out.size, fun k hk => (setRow_other _ _ k _ (by omega)).trans (HB7.out.block k hk)⟩

end Go.Proofs.YtminfghiejgieaaDoor

/- The walks of the reference's Far and Plus. -/
namespace Go.Proofs.YtminfghiejgieaaDoor
open Go.RowKit
set_option linter.unusedVariables false

attribute [local go_sem high] run_min_pair

theorem plus_walk (a b : Int) (w : World) (ha : 0 ≤ a) (ha' : a ≤ 16) (hb : 0 ≤ b) (hb' : b ≤ 16) : Calls Tryd.prog 49 #[.int .i64 a, .int .i64 b] w fun e w' => e = .returned (.int .i64 (min (a + b) 16)) ∧ w' = w := by
  go_enter Tryd.func49, Tryd.ntmps49
  go_wp2_with fail
  go_ret
  exact ⟨rfl, rfl⟩

end Go.Proofs.YtminfghiejgieaaDoor

/- The walk of the reference's Thinks. Printed by gen_qthinks.py. -/
namespace Go.Proofs.YtminfghiejgieaaDoor
open Go.RowKit
set_option linter.unusedVariables false

theorem hear_yes {K : Nat → Nat → Int} {h : Nat → Int} {b k : Nat} (h1 : k ≠ b) (h2 : K b k < 16) : hearF K h b (k + 1) = min (hearF K h b k) (min (K b k + h k) 16) := by
  have := hear_le (K := K) (h := h) b k
  show (if k ≠ b ∧ K b k < 16 then _ else _) = _
  rw [if_pos ⟨h1, h2⟩]
  omega
theorem hear_no {K : Nat → Nat → Int} {h : Nat → Int} {b k : Nat} (h1 : ¬ (k ≠ b ∧ K b k < 16)) : hearF K h b (k + 1) = hearF K h b k := if_neg h1

set_option maxRecDepth 100000 in
set_option maxHeartbeats 4000000 in
theorem qThinks (P : Nat → Prop) (v : Array Value) (n t : Nat) (K h : Nat → Nat → Int) (f e : Nat → Int) (W : WayL) (i : Nat) (w : World) (q : QR P w v n t K h f e W) (h1 : 1 ≤ n) (h8 : n ≤ 8) (hWl : W.length ≤ 1000000) (hi : i < n) (hKr : ∀ a b, a < n → b < n → 0 ≤ K a b ∧ K a b ≤ 16) (hHr : ∀ a b, a < n → b < n → 0 ≤ h a b ∧ h a b ≤ 16) :
    Calls Tryd.prog 17 #[.agg v, .int .i64 i] w fun e' w' => ∃ v', e' = .returned (.agg v') ∧ QR (fun b => w.heap.size ≤ b) w' v' n t K h (fun j => if j = i ∧ i ≠ t then hearF K (h i) i n else f j) e W ∧ Below w.heap.size w w' := by
  have HQ := Lib.hid q
  obtain ⟨AC, cC, AW, cW, AH, cH, AF, cF, AL, cL, rfl, hK, hW, hWn, hH, hF, hE⟩ := q
  have hi' : (i : Int) < n := by omega
  have HK := Lib.hid hK.mat
  have HH := Lib.hid hH.mat
  clear hK hW hWn hH hF hE
  have h8' : (n : Int) ≤ 8 := by omega
  have hb1 : Below w.heap.size w ((w.alloc (.cells #[.int .i64 t, .slice (some AC) n cC, .slice AW W.length cW, .slice (some AH) n cH, .slice (some AF) n cF, .slice (some AL) n cL] 37)).alloc (.cells #[.int .i64 0, .slice none 0 0, .slice none 0 0, .slice none 0 0, .slice none 0 0, .slice none 0 0] 37)) := ((Below.refl _ _).alloc (Nat.le_refl _) _).alloc (by simp) _
  have hx1 : Blk ((w.alloc (.cells #[.int .i64 t, .slice (some AC) n cC, .slice AW W.length cW, .slice (some AH) n cH, .slice (some AF) n cF, .slice (some AL) n cL] 37)).alloc (.cells #[.int .i64 0, .slice none 0 0, .slice none 0 0, .slice none 0 0, .slice none 0 0, .slice none 0 0] 37)) w.heap.size 37 #[.int .i64 t, .slice (some AC) n cC, .slice AW W.length cW, .slice (some AH) n cH, .slice (some AF) n cF, .slice (some AL) n cL] := (Blk.new w _ _).alloc _
  have hr1 : Blk ((w.alloc (.cells #[.int .i64 t, .slice (some AC) n cC, .slice AW W.length cW, .slice (some AH) n cH, .slice (some AF) n cF, .slice (some AL) n cL] 37)).alloc (.cells #[.int .i64 0, .slice none 0 0, .slice none 0 0, .slice none 0 0, .slice none 0 0, .slice none 0 0] 37)) (w.heap.size + 1) 37 #[.int .i64 0, .slice none 0 0, .slice none 0 0, .slice none 0 0, .slice none 0 0, .slice none 0 0] := by
    have := Blk.new (w.alloc (.cells #[.int .i64 t, .slice (some AC) n cC, .slice AW W.length cW, .slice (some AH) n cH, .slice (some AF) n cF, .slice (some AL) n cL] 37)) 37 #[.int .i64 0, .slice none 0 0, .slice none 0 0, .slice none 0 0, .slice none 0 0, .slice none 0 0]
    rwa [show (w.alloc (.cells #[.int .i64 t, .slice (some AC) n cC, .slice AW W.length cW, .slice (some AH) n cH, .slice (some AF) n cF, .slice (some AL) n cL] 37)).heap.size = w.heap.size + 1 by simp] at this
  have hz1 : ((w.alloc (.cells #[.int .i64 t, .slice (some AC) n cC, .slice AW W.length cW, .slice (some AH) n cH, .slice (some AF) n cF, .slice (some AL) n cL] 37)).alloc (.cells #[.int .i64 0, .slice none 0 0, .slice none 0 0, .slice none 0 0, .slice none 0 0, .slice none 0 0] 37)).heap.size = w.heap.size + 2 := by simp
  have HZE := Lib.hid hz1
  have HB1 := Lib.hid hb1
  have HX1 := Lib.hid hx1
  have HR1 := Lib.hid hr1
  clear hb1 hx1 hr1 hz1
  go_enter Tryd.func17, Tryd.ntmps17
  go_wp2_with fail
  refine (copied_walk P _ n t K h f e W _ (HQ.out.below HB1.out) h1 h8 hWl).mono ?_
  rintro e' w3 ⟨d, rfl, hcp, hb3⟩
  rw [HZE.out] at hcp hb3
  obtain ⟨AV, qV, eV, -, -⟩ := (CN.of hcp).way.lnk
  have hval : d.val n t = #[.int .i64 t, .slice (some ⟨d.gC, 0, none⟩) n d.cC, .slice AV W.length qV, .slice (some ⟨d.gH, 0, none⟩) n d.cH, .slice (some ⟨d.gF, 0, none⟩) n d.cF, .slice (some ⟨d.gL, 0, none⟩) n d.cL] := by
    unfold CD.val
    rw [eV]
  have hcn := CN.of hcp
  have hown := hcp.ownOf
  rw [eV] at hcn hown
  rw [hval]
  clear hcp hval eV
  by_cases hit : i = t
  · have g1 : ((i : Int) == (t : Int)) = true := by simp [hit]
    have g2 : (i == t) = true := by simp [hit]
    have hff : (fun j => if j = i ∧ i ≠ t then hearF K (h i) i n else f j) = f := funext fun j => if_neg fun hh => hh.2 hit
    have HFF := Lib.hid hff
    clear hit hff
    have hcn4 := hcn.below ((Below.refl _ _).alloc (Nat.le_refl _) (.cells #[.int .i64 t, .slice (some ⟨d.gC, 0, none⟩) n d.cC, .slice AV W.length qV, .slice (some ⟨d.gH, 0, none⟩) n d.cH, .slice (some ⟨d.gF, 0, none⟩) n d.cF, .slice (some ⟨d.gL, 0, none⟩) n d.cL] 37))
    have hp4 : Blk (w3.alloc (.cells #[.int .i64 t, .slice (some ⟨d.gC, 0, none⟩) n d.cC, .slice AV W.length qV, .slice (some ⟨d.gH, 0, none⟩) n d.cH, .slice (some ⟨d.gF, 0, none⟩) n d.cF, .slice (some ⟨d.gL, 0, none⟩) n d.cL] 37)) w3.heap.size 37 #[.int .i64 t, .slice (some ⟨d.gC, 0, none⟩) n d.cC, .slice AV W.length qV, .slice (some ⟨d.gH, 0, none⟩) n d.cH, .slice (some ⟨d.gF, 0, none⟩) n d.cF, .slice (some ⟨d.gL, 0, none⟩) n d.cL] := Blk.new _ _ _
    have hx4 : Blk (w3.alloc (.cells #[.int .i64 t, .slice (some ⟨d.gC, 0, none⟩) n d.cC, .slice AV W.length qV, .slice (some ⟨d.gH, 0, none⟩) n d.cH, .slice (some ⟨d.gF, 0, none⟩) n d.cF, .slice (some ⟨d.gL, 0, none⟩) n d.cL] 37)) w.heap.size 37 #[.int .i64 t, .slice (some AC) n cC, .slice AW W.length cW, .slice (some AH) n cH, .slice (some AF) n cF, .slice (some AL) n cL] := Blk.alloc ((hb3.block _ (by omega)).trans HX1.out) _
    have hr4 : Blk (w3.alloc (.cells #[.int .i64 t, .slice (some ⟨d.gC, 0, none⟩) n d.cC, .slice AV W.length qV, .slice (some ⟨d.gH, 0, none⟩) n d.cH, .slice (some ⟨d.gF, 0, none⟩) n d.cF, .slice (some ⟨d.gL, 0, none⟩) n d.cL] 37)) (w.heap.size + 1) 37 #[.int .i64 0, .slice none 0 0, .slice none 0 0, .slice none 0 0, .slice none 0 0, .slice none 0 0] := Blk.alloc ((hb3.block _ (by omega)).trans HR1.out) _
    have hb4 : Below w.heap.size w (w3.alloc (.cells #[.int .i64 t, .slice (some ⟨d.gC, 0, none⟩) n d.cC, .slice AV W.length qV, .slice (some ⟨d.gH, 0, none⟩) n d.cH, .slice (some ⟨d.gF, 0, none⟩) n d.cF, .slice (some ⟨d.gL, 0, none⟩) n d.cL] 37)) := (HB1.out.trans (hb3.mono (by omega))).alloc (HB1.out.trans (hb3.mono (by omega))).size _
    have hs4 : (w3.alloc (.cells #[.int .i64 t, .slice (some ⟨d.gC, 0, none⟩) n d.cC, .slice AV W.length qV, .slice (some ⟨d.gH, 0, none⟩) n d.cH, .slice (some ⟨d.gF, 0, none⟩) n d.cF, .slice (some ⟨d.gL, 0, none⟩) n d.cL] 37)).heap.size = w3.heap.size + 1 := by simp
    have htop := hcn.top
    have hlow := hcn.low
    have ho1 := hcn.o1
    have ho2 := hcn.o2
    have ho4 := hcn.o4
    have ho5 := hcn.o5
    have j0 : (w3.alloc (.cells #[.int .i64 t, .slice (some ⟨d.gC, 0, none⟩) n d.cC, .slice AV W.length qV, .slice (some ⟨d.gH, 0, none⟩) n d.cH, .slice (some ⟨d.gF, 0, none⟩) n d.cF, .slice (some ⟨d.gL, 0, none⟩) n d.cL] 37)).cell? ⟨w.heap.size, 0, none⟩ = some (.int .i64 t) := hx4.cell 0
    have j1 : (w3.alloc (.cells #[.int .i64 t, .slice (some ⟨d.gC, 0, none⟩) n d.cC, .slice AV W.length qV, .slice (some ⟨d.gH, 0, none⟩) n d.cH, .slice (some ⟨d.gF, 0, none⟩) n d.cF, .slice (some ⟨d.gL, 0, none⟩) n d.cL] 37)).cell? ⟨w.heap.size, 1, none⟩ = some (.slice (some AC) n cC) := hx4.cell 1
    have j2 : (w3.alloc (.cells #[.int .i64 t, .slice (some ⟨d.gC, 0, none⟩) n d.cC, .slice AV W.length qV, .slice (some ⟨d.gH, 0, none⟩) n d.cH, .slice (some ⟨d.gF, 0, none⟩) n d.cF, .slice (some ⟨d.gL, 0, none⟩) n d.cL] 37)).cell? ⟨w.heap.size, 2, none⟩ = some (.slice AW W.length cW) := hx4.cell 2
    have j3 : (w3.alloc (.cells #[.int .i64 t, .slice (some ⟨d.gC, 0, none⟩) n d.cC, .slice AV W.length qV, .slice (some ⟨d.gH, 0, none⟩) n d.cH, .slice (some ⟨d.gF, 0, none⟩) n d.cF, .slice (some ⟨d.gL, 0, none⟩) n d.cL] 37)).cell? ⟨w.heap.size, 3, none⟩ = some (.slice (some AH) n cH) := hx4.cell 3
    have j4 : (w3.alloc (.cells #[.int .i64 t, .slice (some ⟨d.gC, 0, none⟩) n d.cC, .slice AV W.length qV, .slice (some ⟨d.gH, 0, none⟩) n d.cH, .slice (some ⟨d.gF, 0, none⟩) n d.cF, .slice (some ⟨d.gL, 0, none⟩) n d.cL] 37)).cell? ⟨w.heap.size, 4, none⟩ = some (.slice (some AF) n cF) := hx4.cell 4
    have j5 : (w3.alloc (.cells #[.int .i64 t, .slice (some ⟨d.gC, 0, none⟩) n d.cC, .slice AV W.length qV, .slice (some ⟨d.gH, 0, none⟩) n d.cH, .slice (some ⟨d.gF, 0, none⟩) n d.cF, .slice (some ⟨d.gL, 0, none⟩) n d.cL] 37)).cell? ⟨w.heap.size, 5, none⟩ = some (.slice (some AL) n cL) := hx4.cell 5
    have HR7 := Lib.hid hr4
    have HB7 := Lib.hid hb4
    have HC7 := Lib.hid hcn4
    clear hp4 hx4 hr4 hb4 hcn4 hcn
    go_wp2_with (refine wpList_store_row rfl 37 (.tmp 4) (.tmp 14) rfl (w.heap.size + 1) #[.int .i64 t, .slice (some ⟨d.gC, 0, none⟩) n d.cC, .slice AV W.length qV, .slice (some ⟨d.gH, 0, none⟩) n d.cH, .slice (some ⟨d.gF, 0, none⟩) n d.cF, .slice (some ⟨d.gL, 0, none⟩) n d.cL] rfl rfl _ _ HR7.out (by kernel_rfl) rfl (by simp [Value.oneCell']) ?_)
    refine bodyPost_ret (results_cell_row rfl _ _ _ _ _ (0, 0) _ rfl (setRow_heap _ _ _ _ _ _ HR7.out) Tryd.underlying37 rfl (by kernel_rfl)) rfl ?_
    refine ⟨_, rfl, ?_, ?_⟩
    · rw [HFF.out]; exact (HC7.out.same fun b hb _ => setRow_other _ _ b _ (by omega)).reads.same (fun _ _ _ => rfl) (Nat.le_refl _) (fun b hb _ => by
      have hb' : w.heap.size + 2 + 2 ≤ b := hb
      show w.heap.size ≤ b
      omega)
    · exact ⟨HB7.out.os, HB7.out.tape, HB7.out.output, by rw [setRow_size]; exact HB7.out.size, fun k hk => (setRow_other _ _ k _ (by omega)).trans (HB7.out.block k hk)⟩
  · have g1 : ((i : Int) == (t : Int)) = false := beq_false_of_ne (by omega)
    have g2 : (i == t) = false := beq_false_of_ne hit
    have hff : (fun j => if j = i ∧ i ≠ t then hearF K (h i) i n else f j) = upd f i (hearF K (h i) i n) := funext fun j => by
      unfold upd
      by_cases e : j = i
      · rw [if_pos ⟨e, hit⟩, if_pos e]
      · rw [if_neg fun hh => e hh.1, if_neg e]
    have HFF := Lib.hid hff
    clear hit hff
    have hcn4 := hcn.below ((Below.refl _ _).alloc (Nat.le_refl _) (.cells #[.int .i64 t, .slice (some ⟨d.gC, 0, none⟩) n d.cC, .slice AV W.length qV, .slice (some ⟨d.gH, 0, none⟩) n d.cH, .slice (some ⟨d.gF, 0, none⟩) n d.cF, .slice (some ⟨d.gL, 0, none⟩) n d.cL] 37))
    have hp4 : Blk (w3.alloc (.cells #[.int .i64 t, .slice (some ⟨d.gC, 0, none⟩) n d.cC, .slice AV W.length qV, .slice (some ⟨d.gH, 0, none⟩) n d.cH, .slice (some ⟨d.gF, 0, none⟩) n d.cF, .slice (some ⟨d.gL, 0, none⟩) n d.cL] 37)) w3.heap.size 37 #[.int .i64 t, .slice (some ⟨d.gC, 0, none⟩) n d.cC, .slice AV W.length qV, .slice (some ⟨d.gH, 0, none⟩) n d.cH, .slice (some ⟨d.gF, 0, none⟩) n d.cF, .slice (some ⟨d.gL, 0, none⟩) n d.cL] := Blk.new _ _ _
    have hx4 : Blk (w3.alloc (.cells #[.int .i64 t, .slice (some ⟨d.gC, 0, none⟩) n d.cC, .slice AV W.length qV, .slice (some ⟨d.gH, 0, none⟩) n d.cH, .slice (some ⟨d.gF, 0, none⟩) n d.cF, .slice (some ⟨d.gL, 0, none⟩) n d.cL] 37)) w.heap.size 37 #[.int .i64 t, .slice (some AC) n cC, .slice AW W.length cW, .slice (some AH) n cH, .slice (some AF) n cF, .slice (some AL) n cL] := Blk.alloc ((hb3.block _ (by omega)).trans HX1.out) _
    have hr4 : Blk (w3.alloc (.cells #[.int .i64 t, .slice (some ⟨d.gC, 0, none⟩) n d.cC, .slice AV W.length qV, .slice (some ⟨d.gH, 0, none⟩) n d.cH, .slice (some ⟨d.gF, 0, none⟩) n d.cF, .slice (some ⟨d.gL, 0, none⟩) n d.cL] 37)) (w.heap.size + 1) 37 #[.int .i64 0, .slice none 0 0, .slice none 0 0, .slice none 0 0, .slice none 0 0, .slice none 0 0] := Blk.alloc ((hb3.block _ (by omega)).trans HR1.out) _
    have hb4 : Below w.heap.size w (w3.alloc (.cells #[.int .i64 t, .slice (some ⟨d.gC, 0, none⟩) n d.cC, .slice AV W.length qV, .slice (some ⟨d.gH, 0, none⟩) n d.cH, .slice (some ⟨d.gF, 0, none⟩) n d.cF, .slice (some ⟨d.gL, 0, none⟩) n d.cL] 37)) := (HB1.out.trans (hb3.mono (by omega))).alloc (HB1.out.trans (hb3.mono (by omega))).size _
    have hs4 : (w3.alloc (.cells #[.int .i64 t, .slice (some ⟨d.gC, 0, none⟩) n d.cC, .slice AV W.length qV, .slice (some ⟨d.gH, 0, none⟩) n d.cH, .slice (some ⟨d.gF, 0, none⟩) n d.cF, .slice (some ⟨d.gL, 0, none⟩) n d.cL] 37)).heap.size = w3.heap.size + 1 := by simp
    have htop := hcn.top
    have hlow := hcn.low
    have ho1 := hcn.o1
    have ho2 := hcn.o2
    have ho4 := hcn.o4
    have ho5 := hcn.o5
    have j0 : (w3.alloc (.cells #[.int .i64 t, .slice (some ⟨d.gC, 0, none⟩) n d.cC, .slice AV W.length qV, .slice (some ⟨d.gH, 0, none⟩) n d.cH, .slice (some ⟨d.gF, 0, none⟩) n d.cF, .slice (some ⟨d.gL, 0, none⟩) n d.cL] 37)).cell? ⟨w.heap.size, 0, none⟩ = some (.int .i64 t) := hx4.cell 0
    have j1 : (w3.alloc (.cells #[.int .i64 t, .slice (some ⟨d.gC, 0, none⟩) n d.cC, .slice AV W.length qV, .slice (some ⟨d.gH, 0, none⟩) n d.cH, .slice (some ⟨d.gF, 0, none⟩) n d.cF, .slice (some ⟨d.gL, 0, none⟩) n d.cL] 37)).cell? ⟨w.heap.size, 1, none⟩ = some (.slice (some AC) n cC) := hx4.cell 1
    have j2 : (w3.alloc (.cells #[.int .i64 t, .slice (some ⟨d.gC, 0, none⟩) n d.cC, .slice AV W.length qV, .slice (some ⟨d.gH, 0, none⟩) n d.cH, .slice (some ⟨d.gF, 0, none⟩) n d.cF, .slice (some ⟨d.gL, 0, none⟩) n d.cL] 37)).cell? ⟨w.heap.size, 2, none⟩ = some (.slice AW W.length cW) := hx4.cell 2
    have j3 : (w3.alloc (.cells #[.int .i64 t, .slice (some ⟨d.gC, 0, none⟩) n d.cC, .slice AV W.length qV, .slice (some ⟨d.gH, 0, none⟩) n d.cH, .slice (some ⟨d.gF, 0, none⟩) n d.cF, .slice (some ⟨d.gL, 0, none⟩) n d.cL] 37)).cell? ⟨w.heap.size, 3, none⟩ = some (.slice (some AH) n cH) := hx4.cell 3
    have j4 : (w3.alloc (.cells #[.int .i64 t, .slice (some ⟨d.gC, 0, none⟩) n d.cC, .slice AV W.length qV, .slice (some ⟨d.gH, 0, none⟩) n d.cH, .slice (some ⟨d.gF, 0, none⟩) n d.cF, .slice (some ⟨d.gL, 0, none⟩) n d.cL] 37)).cell? ⟨w.heap.size, 4, none⟩ = some (.slice (some AF) n cF) := hx4.cell 4
    have j5 : (w3.alloc (.cells #[.int .i64 t, .slice (some ⟨d.gC, 0, none⟩) n d.cC, .slice AV W.length qV, .slice (some ⟨d.gH, 0, none⟩) n d.cH, .slice (some ⟨d.gF, 0, none⟩) n d.cF, .slice (some ⟨d.gL, 0, none⟩) n d.cL] 37)).cell? ⟨w.heap.size, 5, none⟩ = some (.slice (some AL) n cL) := hx4.cell 5
    go_wp2_with fail
    obtain ⟨p7, hp7⟩ : ∃ p7, w3.heap.size = p7 := ⟨_, rfl⟩
    obtain ⟨w4, hw4⟩ : ∃ w4, w3.alloc (.cells #[.int .i64 t, .slice (some ⟨d.gC, 0, none⟩) n d.cC, .slice AV W.length qV, .slice (some ⟨d.gH, 0, none⟩) n d.cH, .slice (some ⟨d.gF, 0, none⟩) n d.cF, .slice (some ⟨d.gL, 0, none⟩) n d.cL] 37) = w4 := ⟨_, rfl⟩
    rw [hw4] at hcn4 hp4 hx4 hr4 hb4 hs4 j0 j1 j2 j3 j4 j5 ⊢
    rw [hp7] at hp4 hs4 htop ⊢
    have HB4 := Lib.hid hb4
    have HC4 := Lib.hid hcn4
    have HP4 := Lib.hid hp4
    have HOWN := Lib.hid hown
    have HX4 := Lib.hid hx4
    have HR4 := Lib.hid hr4
    clear hb3 hcn hown hw4 hp7 HX1 HR1 HB1 HZE
    go_loopw [6, 7] (fun dv q wr => ∃ k : Nat, k ≤ n ∧ q = .int .i64 k ∧ (∃ z, dv = .int .i64 z ∧ Hid (hearF K (h i) i k = z)) ∧ Below w4.heap.size w4 wr) (fun _ q _ => n - (intOf q).toNat)
    case atStart => exact ⟨0, by omega, rfl, ⟨16, rfl, Lib.hid rfl⟩, Below.refl _ _⟩
    case round =>
      obtain ⟨k, hk, rfl, ⟨z, rfl, HZ⟩, hb⟩ := hrel
      clear j0 j1 j2 j3 j4 j5
      have hxr : Blk wr w.heap.size 37 _ := (hb.block _ HX4.out.lt).trans HX4.out
      have j0 : wr.cell? ⟨w.heap.size, 0, none⟩ = some (.int .i64 t) := hxr.cell 0
      have j1 : wr.cell? ⟨w.heap.size, 1, none⟩ = some (.slice (some AC) n cC) := hxr.cell 1
      have j2 : wr.cell? ⟨w.heap.size, 2, none⟩ = some (.slice AW W.length cW) := hxr.cell 2
      have j3 : wr.cell? ⟨w.heap.size, 3, none⟩ = some (.slice (some AH) n cH) := hxr.cell 3
      have j4 : wr.cell? ⟨w.heap.size, 4, none⟩ = some (.slice (some AF) n cF) := hxr.cell 4
      have j5 : wr.cell? ⟨w.heap.size, 5, none⟩ = some (.slice (some AL) n cL) := hxr.cell 5
      have HBR := Lib.hid hb
      have HBW := Lib.hid (keep HB4.out hb)
      clear hb hxr
      by_cases hkn : k < n
      · have hkn' : (k : Int) < n := by omega
        have hq := qNear P _ n t K h f e W i k wr (HQ.out.below HBW.out) h8
        obtain ⟨en, hen⟩ : ∃ en, nearE n K i k = en := ⟨_, rfl⟩
        rw [hen] at hq
        have HNE := Lib.hid hq
        clear hq
        obtain ⟨kk, hkk⟩ : ∃ kk, K i k = kk := ⟨_, rfl⟩
        obtain ⟨hh, hhh⟩ : ∃ hh, h i k = hh := ⟨_, rfl⟩
        obtain ⟨hk0, hk1⟩ := hKr i k hi hkn
        obtain ⟨hh0, hh1⟩ := hHr i k hi hkn
        rw [hkk] at hk0 hk1
        rw [hhh] at hh0 hh1
        by_cases h0 : en = 0
        · obtain ⟨x, y, ex, ey, -, -, hxy, hK16⟩ := near_zero (hen.trans h0)
          obtain rfl : i = x := by omega
          obtain rfl : k = y := by omega
          rw [hkk] at hK16
          have HST : Hid (hearF K (h i) i (k + 1) = min z (min (kk + hh) 16)) := by
            rw [hear_yes (fun e => hxy e.symm) (by omega), HZ.out, hkk, hhh]
            exact Lib.hid rfl
          subst h0
          clear ex ey hxy hK16 hen
          go_wp2_with fail
          refine HNE.out.mono ?_
          rintro e9 w9 ⟨rfl, hb9⟩
          have HB9 := Lib.hid (keep HBR.out hb9)
          have hbw := keep HBW.out hb9
          have hx9 : Blk w9 w.heap.size 37 _ := (HB9.out.block _ HX4.out.lt).trans HX4.out
          clear hb9 j0 j1 j2 j3 j4 j5 HNE HZ
          have j0 : w9.cell? ⟨w.heap.size, 0, none⟩ = some (.int .i64 t) := hx9.cell 0
          have j1 : w9.cell? ⟨w.heap.size, 1, none⟩ = some (.slice (some AC) n cC) := hx9.cell 1
          have j2 : w9.cell? ⟨w.heap.size, 2, none⟩ = some (.slice AW W.length cW) := hx9.cell 2
          have j3 : w9.cell? ⟨w.heap.size, 3, none⟩ = some (.slice (some AH) n cH) := hx9.cell 3
          have j4 : w9.cell? ⟨w.heap.size, 4, none⟩ = some (.slice (some AF) n cF) := hx9.cell 4
          have j5 : w9.cell? ⟨w.heap.size, 5, none⟩ = some (.slice (some AL) n cL) := hx9.cell 5
          obtain ⟨a1, A1, q1, e1, -, r1, v1⟩ := (HK.out.keep hbw) i hi
          simp only [Option.some.injEq] at e1
          subst e1
          obtain ⟨a2, rfl, -, r2⟩ := v1 k hkn
          rw [hkk] at r2
          obtain ⟨a3, A3, q3, e3, -, r3, v3⟩ := (HH.out.keep hbw) i hi
          simp only [Option.some.injEq] at e3
          subst e3
          obtain ⟨a4, rfl, -, r4⟩ := v3 k hkn
          rw [hhh] at r4
          clear hx9 v1 v3 hkk hhh hbw
          go_wp2_with fail
          go_quiet ((go_at_call 49; first | exact Calls.quiet_of_same ((plus_walk kk hh _ hk0 hk1 hh0 hh1).mono fun _ _ h => ⟨h.1, h.2⟩) | exact quiet_adds ((plus_walk kk hh _ hk0 hk1 hh0 hh1).mono fun _ _ h => ⟨h.1, 0, h.2⟩)))
          go_wp2_with fail
          go_roundw
          case rel => exact ⟨k + 1, by omega, by go_num, ⟨_, rfl, Lib.hid (HST.out.trans (by split <;> omega))⟩, below_drewN HB9.out _⟩
          case measure => simp [intOf]; omega
        · have HST : Hid (hearF K (h i) i (k + 1) = z) := by
            rw [hear_no (fun hc => h0 (hen.symm.trans (near_nat hi hkn (fun e => hc.1 e.symm) (by omega)))), HZ.out]
            exact Lib.hid rfl
          have hn0 : (en == 0) = false := beq_false_of_ne h0
          clear h0 hen hkk hhh
          go_wp2_with fail
          refine HNE.out.mono ?_
          rintro e9 w9 ⟨rfl, hb9⟩
          have HB9 := Lib.hid (keep HBR.out hb9)
          clear hb9 j0 j1 j2 j3 j4 j5 HNE HZ
          go_wp2_with fail
          go_roundw
          case rel => exact ⟨k + 1, by omega, by go_num, ⟨z, rfl, HST⟩, HB9.out⟩
          case measure => simp [intOf]; omega
      · have ek : n = k := by omega
        subst ek
        have hpr : Blk wr p7 37 _ := (HBR.out.block _ HP4.out.lt).trans HP4.out
        have hr5 : Blk wr (w.heap.size + 1) 37 _ := (HBR.out.block _ HR4.out.lt).trans HR4.out
        have hcr := HC4.out.below HBR.out
        have rF := hcr.r4.frozen i
        have rG := hcr.r4.cell hi
        have HCR := Lib.hid hcr
        have HRR := Lib.hid hr5
        have HPR := Lib.hid hpr
        have k0 : wr.cell? ⟨p7, 0, none⟩ = some (.int .i64 t) := hpr.cell 0
        have k1 : wr.cell? ⟨p7, 1, none⟩ = some (.slice (some ⟨d.gC, 0, none⟩) n d.cC) := hpr.cell 1
        have k2 : wr.cell? ⟨p7, 2, none⟩ = some (.slice AV W.length qV) := hpr.cell 2
        have k3 : wr.cell? ⟨p7, 3, none⟩ = some (.slice (some ⟨d.gH, 0, none⟩) n d.cH) := hpr.cell 3
        have k4 : wr.cell? ⟨p7, 4, none⟩ = some (.slice (some ⟨d.gF, 0, none⟩) n d.cF) := hpr.cell 4
        have k5 : wr.cell? ⟨p7, 5, none⟩ = some (.slice (some ⟨d.gL, 0, none⟩) n d.cL) := hpr.cell 5
        have hcn7 := hcr.setFar i z
        have hr7 : Blk (wr.setCell ⟨d.gF, i, none⟩ (.int .i64 z)) (w.heap.size + 1) 37 _ := (Below.heap_setCell _ _ _ _ (by show w.heap.size + 1 ≠ d.gF; omega)).trans hr5
        have hb7 : Below w.heap.size w (wr.setCell ⟨d.gF, i, none⟩ (.int .i64 z)) := HBW.out.setCell (by show w.heap.size ≤ d.gF; omega) _
        have HC7 := Lib.hid hcn7
        have HR7 := Lib.hid hr7
        have HB7 := Lib.hid hb7
        have n7 : d.gF ≠ p7 := by omega
        have n8 : p7 ≠ d.gF := by omega
        clear hpr hr5 hcr hcn7 hr7 hb7
        go_wp2_with (refine wpList_store_row rfl 37 (.tmp 4) (.tmp 51) rfl (w.heap.size + 1) #[.int .i64 t, .slice (some ⟨d.gC, 0, none⟩) n d.cC, .slice AV W.length qV, .slice (some ⟨d.gH, 0, none⟩) n d.cH, .slice (some ⟨d.gF, 0, none⟩) n d.cF, .slice (some ⟨d.gL, 0, none⟩) n d.cL] rfl rfl _ _ HR7.out (by kernel_rfl) rfl (by simp [Value.oneCell']) ?_)
        refine bodyPost_ret (results_cell_row rfl _ _ _ _ _ (0, 0) _ rfl (setRow_heap _ _ _ _ _ _ HR7.out) Tryd.underlying37 rfl (by kernel_rfl)) rfl ?_
        refine ⟨_, rfl, ?_, ?_⟩
        · rw [HFF.out, HZ.out]; exact (HC7.out.same fun b hb _ => setRow_other _ _ b _ (by omega)).reads.same (fun _ _ _ => rfl) (Nat.le_refl _) (fun b hb _ => by
          have hb' : w.heap.size + 2 + 2 ≤ b := hb
          show w.heap.size ≤ b
          omega)
        · exact ⟨HB7.out.os, HB7.out.tape, HB7.out.output, by rw [setRow_size]; exact HB7.out.size, fun k hk => (setRow_other _ _ k _ (by omega)).trans (HB7.out.block k hk)⟩


end Go.Proofs.YtminfghiejgieaaDoor

/- What is on the ways, told in one list: plain laws. -/
namespace Go.Proofs.YtminfghiejgieaaDoor
set_option linter.unusedVariables false

/-- Without the first one on this way. -/
def dropW (a b : Nat) : WayL → WayL
  | [] => []
  | p :: r => if p.1 = a ∧ p.2.1 = b then r else p :: dropW a b r

section
variable {W L : WayL} {a b x y n : Nat} {z : Int} {p : Nat × Nat × Int}
theorem onWay_snoc : onWay (W ++ [p]) a b = if p.1 = a ∧ p.2.1 = b then onWay W a b ++ [p.2.2] else onWay W a b := by
  unfold onWay
  rw [List.filter_append, List.map_append]
  by_cases h : p.1 = a ∧ p.2.1 = b
  · rw [if_pos h]
    congr 1
    simp [h]
  · rw [if_neg h]
    simp [h]
theorem onWay_cons : onWay (p :: W) a b = if p.1 = a ∧ p.2.1 = b then p.2.2 :: onWay W a b else onWay W a b := by
  unfold onWay
  by_cases h : p.1 = a ∧ p.2.1 = b
  · rw [if_pos h]; simp [h]
  · rw [if_neg h]; simp [h]
theorem onWay_drop : ∀ W : WayL, onWay (dropW a b W) a b = (onWay W a b).tail
  | [] => rfl
  | p :: r => by
    rw [onWay_cons]
    unfold dropW
    by_cases h : p.1 = a ∧ p.2.1 = b
    · rw [if_pos h, if_pos h]; rfl
    · rw [if_neg h, if_neg h, onWay_cons, if_neg h, onWay_drop r]
theorem onWay_drop_other (hne : ¬ (x = a ∧ y = b)) : ∀ W : WayL, onWay (dropW a b W) x y = onWay W x y
  | [] => rfl
  | p :: r => by
    unfold dropW
    by_cases h : p.1 = a ∧ p.2.1 = b
    · rw [if_pos h, onWay_cons, if_neg (fun h' => hne ⟨h'.1.symm.trans h.1, h'.2.symm.trans h.2⟩)]
    · rw [if_neg h, onWay_cons, onWay_cons, onWay_drop_other hne r]
theorem drop_hit : ∀ L : WayL, onWay L a b = [] → dropW a b L = L ∧ (p.1 = a ∧ p.2.1 = b → dropW a b (L ++ [p]) = L)
  | [], _ => ⟨rfl, fun h => by show (if p.1 = a ∧ p.2.1 = b then _ else _) = _; rw [if_pos h]⟩
  | q :: r, h => by
    rw [onWay_cons] at h
    by_cases hq : q.1 = a ∧ q.2.1 = b
    · rw [if_pos hq] at h; cases h
    · rw [if_neg hq] at h
      obtain ⟨h1, h2⟩ := drop_hit r h
      refine ⟨?_, fun hp => ?_⟩
      · show (if q.1 = a ∧ q.2.1 = b then _ else _) = _
        rw [if_neg hq, h1]
      · show (if q.1 = a ∧ q.2.1 = b then _ else _) = _
        rw [if_neg hq]
        exact congrArg (q :: ·) (h2 hp)
theorem drop_miss : ∀ L : WayL, ¬ (onWay L a b = [] ∧ p.1 = a ∧ p.2.1 = b) → dropW a b (L ++ [p]) = dropW a b L ++ [p]
  | [], h => by
    show (if p.1 = a ∧ p.2.1 = b then _ else _) = _
    rw [if_neg (fun hp => h ⟨rfl, hp⟩)]; rfl
  | q :: r, h => by
    rw [onWay_cons] at h
    show (if q.1 = a ∧ q.2.1 = b then _ else _) = _
    by_cases hq : q.1 = a ∧ q.2.1 = b
    · rw [if_pos hq]
      show r ++ [p] = (if q.1 = a ∧ q.2.1 = b then _ else _) ++ _
      rw [if_pos hq]
    · rw [if_neg hq] at h ⊢
      show _ = (if q.1 = a ∧ q.2.1 = b then _ else _) ++ _
      rw [if_neg hq, List.cons_append]
      exact congrArg (q :: ·) (drop_miss r h)
theorem drop_mem {q : Nat × Nat × Int} : ∀ W : WayL, q ∈ dropW a b W → q ∈ W
  | [], h => h
  | p :: r, h => by
    unfold dropW at h
    split at h
    · exact List.mem_cons_of_mem _ h
    · rcases List.mem_cons.1 h with e | e
      · rw [e]; exact List.mem_cons_self
      · exact List.mem_cons_of_mem _ (drop_mem r e)
theorem drop_len : ∀ W : WayL, (dropW a b W).length ≤ W.length
  | [] => Nat.le_refl _
  | p :: r => by
    unfold dropW
    split
    · simp
    · have := drop_len r
      simp; omega
theorem onWay_mem (h : z ∈ onWay W a b) : (a, b, z) ∈ W := by
  unfold onWay at h
  obtain ⟨q, hq, e⟩ := List.mem_map.1 h
  obtain ⟨hq1, hq2⟩ := List.mem_filter.1 hq
  have h3 : q.1 = a ∧ q.2.1 = b := of_decide_eq_true hq2
  have e2 : (a, b, z) = q := by
    rw [← h3.1, ← h3.2, ← e]
  rw [e2]; exact hq1
end

theorem len_split {α : Type} (key : α → Nat) (c : Nat) : ∀ (m : Nat) (L : List α), (∀ p, p ∈ L → key p < m) → (∀ k, k < m → (L.filter fun p => decide (key p = k)).length ≤ c) → L.length ≤ m * c
  | 0, L, h, _ => by
    cases L with
    | nil => simp
    | cons p r => exact absurd (h p List.mem_cons_self) (by omega)
  | m + 1, L, h, hc => by
    have h1 := hc m (by omega)
    have ih := len_split key c m (L.filter fun p => decide (key p ≠ m)) (fun p hp => by
      obtain ⟨h2, h3⟩ := List.mem_filter.1 hp
      have h4 := h p h2
      have h5 : key p ≠ m := of_decide_eq_true h3
      omega) (fun k hk => by
      rw [List.filter_filter]
      have e : (L.filter fun p => decide (key p = k) && decide (key p ≠ m)) = L.filter fun p => decide (key p = k) := by
        apply List.filter_congr
        intro p _
        by_cases e : key p = k
        · have : key p ≠ m := by omega
          simp [e, show k ≠ m by omega]
        · simp [e]
      rw [e]
      exact hc k (by omega))
    have hs : L.length = (L.filter fun p => decide (key p = m)).length + (L.filter fun p => decide (key p ≠ m)).length := by
      clear h hc h1 ih
      induction L with
      | nil => rfl
      | cons p r ihr =>
        by_cases e : key p = m
        · simp [e] at ihr ⊢; omega
        · simp [e] at ihr ⊢; omega
    rw [Nat.succ_mul]
    omega

/-- So many are on all ways at most. -/
theorem ways_len {W : WayL} {n : Nat} (h8 : n ≤ 8) (hn : ∀ p, p ∈ W → p.1 < n ∧ p.2.1 < n) (hq : ∀ a b, a < n → b < n → (onWay W a b).length ≤ 20) : W.length ≤ 1280 := by
  have h1 := len_split (fun p : Nat × Nat × Int => p.1) (n * 20) n W (fun p hp => (hn p hp).1) (fun a ha => by
    refine len_split (fun p : Nat × Nat × Int => p.2.1) 20 n _ (fun p hp => (hn p (List.mem_filter.1 hp).1).2) (fun b hb => ?_)
    have h2 := hq a b ha hb
    unfold onWay at h2
    rw [List.length_map] at h2
    rw [List.filter_filter]
    refine Nat.le_trans (Nat.le_of_eq ?_) h2
    congr 1
    apply List.filter_congr
    intro p _
    by_cases e1 : p.1 = a <;> by_cases e2 : p.2.1 = b <;> simp [e1, e2])
  have h2 : n * (n * 20) ≤ 8 * (8 * 20) := Nat.mul_le_mul h8 (Nat.mul_le_mul h8 (Nat.le_refl _))
  omega

end Go.Proofs.YtminfghiejgieaaDoor

/- The walk of the reference's Came. Printed by gen_qcame.py. -/
namespace Go.Proofs.YtminfghiejgieaaDoor
open Go.RowKit
set_option linter.unusedVariables false

theorem results_cell_row2 {P : Program} {fn : Func} {p u : Tmp} {ty : TypeId} (h : fn.results = #[.cell p ty, .tmp u]) (tmps : Array Value) (w : World) (g : Nat) (t : TypeId) (cs : Array Value) (fr : Nat × Nat) (d : TypeDesc)
    (hp : tmps.getD p undef = .pointer (some ⟨g, 0, none⟩)) (hg : w.heap[g]? = some (.cells cs t fr))
    (hu : P.underlying ty = some d) (hd : (match d with | .struct _ | .array _ _ => true | _ => false) = true) (hi : (P.info? ty).map (·.size) = some cs.size) :
    (results fn tmps).run P w = .ok (.tuple #[.agg cs, tmps.getD u undef]) w := by
  rw [results_cell_tmp h, hp]
  simp only [asAddr, Sem.run_pure, Result.andThen_ok, run_loadVar_row w g t ty cs fr d hg hu hd hi]

/-- What the coming region reads. -/
def CamS (p b : Nat) (AV : Option Addr) (L qV : Nat) (aW : Addr) (len cW i : Nat) (x y z : Int) (w : World) : Prop := w.cell? ⟨p, 2, none⟩ = some (.slice AV L qV) ∧ w.cell? ⟨b, 2, none⟩ = some (.slice (some aW) len cW) ∧ w.cell? (aW.add (i * 3)) = some (.int .i64 x) ∧ w.cell? ⟨(aW.add (i * 3)).block, (aW.add (i * 3)).off + 1, none⟩ = some (.int .i64 y) ∧ w.cell? ⟨(aW.add (i * 3)).block, (aW.add (i * 3)).off + 2, none⟩ = some (.int .i64 z) ∧ w.frozen? ⟨p, 2, none⟩ = false
theorem CamS.same {p b : Nat} {AV : Option Addr} {L qV : Nat} {aW : Addr} {len cW i : Nat} {x y z : Int} {w w' : World} (h : CamS p b AV L qV aW len cW i x y z w) (hp : w'.heap[p]? = w.heap[p]?) (hb : w'.heap[b]? = w.heap[b]?) (hW : w'.heap[aW.block]? = w.heap[aW.block]?) : CamS p b AV L qV aW len cW i x y z w' := by
  obtain ⟨h1, h2, h3, h4, h5, h6⟩ := h
  have eb : (aW.add (i * 3)).block = aW.block := block_of_add _ _
  exact ⟨(World.cell?_of_block hp).trans h1, (World.cell?_of_block hb).trans h2, (World.cell?_of_block (by rw [eb]; exact hW)).trans h3, (World.cell?_of_block (by show w'.heap[(aW.add (i * 3)).block]? = _; rw [eb]; exact hW)).trans h4, (World.cell?_of_block (by show w'.heap[(aW.add (i * 3)).block]? = _; rw [eb]; exact hW)).trans h5, (World.frozen?_of_block hp).trans h6⟩

set_option maxRecDepth 100000 in
set_option maxHeartbeats 4000000 in
theorem qCame (P : Nat → Prop) (v : Array Value) (n t : Nat) (K h : Nat → Nat → Int) (f e : Nat → Int) (W : WayL) (x y : Nat) (w : World) (q : QR P w v n t K h f e W) (h1 : 1 ≤ n) (h8 : n ≤ 8) (hWl : W.length ≤ 1000000) (hx : x < n) (hy : y < n) (hD : ∀ p, p ∈ W → 0 ≤ p.2.2) (hne : onWay W x y ≠ []) :
    Calls Tryd.prog 16 #[.agg v, .int .i64 x, .int .i64 y] w fun e' w' => ∃ v', e' = .returned (.tuple #[.agg v', .int .i64 ((onWay W x y).headD 0)]) ∧ QR (fun b => w.heap.size ≤ b) w' v' n t K (fun p q => if p = y ∧ q = x then (onWay W x y).headD 0 else h p q) f e (dropW x y W) ∧ Below w.heap.size w w' := by
  have HQ := Lib.hid q
  obtain ⟨AC, cC, AW, cW, AH, cH, AF, cF, AL, cL, rfl, hK, hW, hWn, hH, hF, hE⟩ := q
  have hx' : (x : Int) < n := by omega
  have hy' : (y : Int) < n := by omega
  have HW := Lib.hid hW.lnk
  clear hK hW hWn hH hF hE
  have h8' : (n : Int) ≤ 8 := by omega
  have hb1 : Below w.heap.size w ((w.alloc (.cells #[.int .i64 t, .slice (some AC) n cC, .slice AW W.length cW, .slice (some AH) n cH, .slice (some AF) n cF, .slice (some AL) n cL] 37)).alloc (.cells #[.int .i64 0, .slice none 0 0, .slice none 0 0, .slice none 0 0, .slice none 0 0, .slice none 0 0] 37)) := ((Below.refl _ _).alloc (Nat.le_refl _) _).alloc (by simp) _
  have hx1 : Blk ((w.alloc (.cells #[.int .i64 t, .slice (some AC) n cC, .slice AW W.length cW, .slice (some AH) n cH, .slice (some AF) n cF, .slice (some AL) n cL] 37)).alloc (.cells #[.int .i64 0, .slice none 0 0, .slice none 0 0, .slice none 0 0, .slice none 0 0, .slice none 0 0] 37)) w.heap.size 37 #[.int .i64 t, .slice (some AC) n cC, .slice AW W.length cW, .slice (some AH) n cH, .slice (some AF) n cF, .slice (some AL) n cL] := (Blk.new w _ _).alloc _
  have hr1 : Blk ((w.alloc (.cells #[.int .i64 t, .slice (some AC) n cC, .slice AW W.length cW, .slice (some AH) n cH, .slice (some AF) n cF, .slice (some AL) n cL] 37)).alloc (.cells #[.int .i64 0, .slice none 0 0, .slice none 0 0, .slice none 0 0, .slice none 0 0, .slice none 0 0] 37)) (w.heap.size + 1) 37 #[.int .i64 0, .slice none 0 0, .slice none 0 0, .slice none 0 0, .slice none 0 0, .slice none 0 0] := by
    have := Blk.new (w.alloc (.cells #[.int .i64 t, .slice (some AC) n cC, .slice AW W.length cW, .slice (some AH) n cH, .slice (some AF) n cF, .slice (some AL) n cL] 37)) 37 #[.int .i64 0, .slice none 0 0, .slice none 0 0, .slice none 0 0, .slice none 0 0, .slice none 0 0]
    rwa [show (w.alloc (.cells #[.int .i64 t, .slice (some AC) n cC, .slice AW W.length cW, .slice (some AH) n cH, .slice (some AF) n cF, .slice (some AL) n cL] 37)).heap.size = w.heap.size + 1 by simp] at this
  have hz1 : ((w.alloc (.cells #[.int .i64 t, .slice (some AC) n cC, .slice AW W.length cW, .slice (some AH) n cH, .slice (some AF) n cF, .slice (some AL) n cL] 37)).alloc (.cells #[.int .i64 0, .slice none 0 0, .slice none 0 0, .slice none 0 0, .slice none 0 0, .slice none 0 0] 37)).heap.size = w.heap.size + 2 := by simp
  have HZE := Lib.hid hz1
  have HB1 := Lib.hid hb1
  have HX1 := Lib.hid hx1
  have HR1 := Lib.hid hr1
  clear hb1 hx1 hr1 hz1
  go_enter Tryd.func16, Tryd.ntmps16
  go_wp2_with fail
  refine (copied_walk P _ n t K h f e W _ (HQ.out.below HB1.out) h1 h8 hWl).mono ?_
  rintro e' w3 ⟨d, rfl, hcp, hb3⟩
  rw [HZE.out] at hcp hb3
  obtain ⟨AV, qV, eV, -, -⟩ := (CN.of hcp).way.lnk
  have hval : d.val n t = #[.int .i64 t, .slice (some ⟨d.gC, 0, none⟩) n d.cC, .slice AV W.length qV, .slice (some ⟨d.gH, 0, none⟩) n d.cH, .slice (some ⟨d.gF, 0, none⟩) n d.cF, .slice (some ⟨d.gL, 0, none⟩) n d.cL] := by
    unfold CD.val
    rw [eV]
  have hcn := CN.of hcp
  have hown := hcp.ownOf
  rw [eV] at hcn hown
  rw [hval]
  clear hcp hval eV
  have hcn4 := hcn.below ((Below.refl _ _).alloc (Nat.le_refl _) (.cells #[.int .i64 t, .slice (some ⟨d.gC, 0, none⟩) n d.cC, .slice none 0 0, .slice (some ⟨d.gH, 0, none⟩) n d.cH, .slice (some ⟨d.gF, 0, none⟩) n d.cF, .slice (some ⟨d.gL, 0, none⟩) n d.cL] 37))
  have hp4 : Blk (w3.alloc (.cells #[.int .i64 t, .slice (some ⟨d.gC, 0, none⟩) n d.cC, .slice none 0 0, .slice (some ⟨d.gH, 0, none⟩) n d.cH, .slice (some ⟨d.gF, 0, none⟩) n d.cF, .slice (some ⟨d.gL, 0, none⟩) n d.cL] 37)) w3.heap.size 37 #[.int .i64 t, .slice (some ⟨d.gC, 0, none⟩) n d.cC, .slice none 0 0, .slice (some ⟨d.gH, 0, none⟩) n d.cH, .slice (some ⟨d.gF, 0, none⟩) n d.cF, .slice (some ⟨d.gL, 0, none⟩) n d.cL] := Blk.new _ _ _
  have hx4 : Blk (w3.alloc (.cells #[.int .i64 t, .slice (some ⟨d.gC, 0, none⟩) n d.cC, .slice none 0 0, .slice (some ⟨d.gH, 0, none⟩) n d.cH, .slice (some ⟨d.gF, 0, none⟩) n d.cF, .slice (some ⟨d.gL, 0, none⟩) n d.cL] 37)) w.heap.size 37 #[.int .i64 t, .slice (some AC) n cC, .slice AW W.length cW, .slice (some AH) n cH, .slice (some AF) n cF, .slice (some AL) n cL] := Blk.alloc ((hb3.block _ (by omega)).trans HX1.out) _
  have hr4 : Blk (w3.alloc (.cells #[.int .i64 t, .slice (some ⟨d.gC, 0, none⟩) n d.cC, .slice none 0 0, .slice (some ⟨d.gH, 0, none⟩) n d.cH, .slice (some ⟨d.gF, 0, none⟩) n d.cF, .slice (some ⟨d.gL, 0, none⟩) n d.cL] 37)) (w.heap.size + 1) 37 #[.int .i64 0, .slice none 0 0, .slice none 0 0, .slice none 0 0, .slice none 0 0, .slice none 0 0] := Blk.alloc ((hb3.block _ (by omega)).trans HR1.out) _
  have hb4 : Below w.heap.size w (w3.alloc (.cells #[.int .i64 t, .slice (some ⟨d.gC, 0, none⟩) n d.cC, .slice none 0 0, .slice (some ⟨d.gH, 0, none⟩) n d.cH, .slice (some ⟨d.gF, 0, none⟩) n d.cF, .slice (some ⟨d.gL, 0, none⟩) n d.cL] 37)) := (HB1.out.trans (hb3.mono (by omega))).alloc (HB1.out.trans (hb3.mono (by omega))).size _
  have hs4 : (w3.alloc (.cells #[.int .i64 t, .slice (some ⟨d.gC, 0, none⟩) n d.cC, .slice none 0 0, .slice (some ⟨d.gH, 0, none⟩) n d.cH, .slice (some ⟨d.gF, 0, none⟩) n d.cF, .slice (some ⟨d.gL, 0, none⟩) n d.cL] 37)).heap.size = w3.heap.size + 1 := by simp
  have htop := hcn.top
  have hlow := hcn.low
  have ho1 := hcn.o1
  have ho2 := hcn.o2
  have ho4 := hcn.o4
  have ho5 := hcn.o5
  have j0 : (w3.alloc (.cells #[.int .i64 t, .slice (some ⟨d.gC, 0, none⟩) n d.cC, .slice none 0 0, .slice (some ⟨d.gH, 0, none⟩) n d.cH, .slice (some ⟨d.gF, 0, none⟩) n d.cF, .slice (some ⟨d.gL, 0, none⟩) n d.cL] 37)).cell? ⟨w.heap.size, 0, none⟩ = some (.int .i64 t) := hx4.cell 0
  have j1 : (w3.alloc (.cells #[.int .i64 t, .slice (some ⟨d.gC, 0, none⟩) n d.cC, .slice none 0 0, .slice (some ⟨d.gH, 0, none⟩) n d.cH, .slice (some ⟨d.gF, 0, none⟩) n d.cF, .slice (some ⟨d.gL, 0, none⟩) n d.cL] 37)).cell? ⟨w.heap.size, 1, none⟩ = some (.slice (some AC) n cC) := hx4.cell 1
  have j2 : (w3.alloc (.cells #[.int .i64 t, .slice (some ⟨d.gC, 0, none⟩) n d.cC, .slice none 0 0, .slice (some ⟨d.gH, 0, none⟩) n d.cH, .slice (some ⟨d.gF, 0, none⟩) n d.cF, .slice (some ⟨d.gL, 0, none⟩) n d.cL] 37)).cell? ⟨w.heap.size, 2, none⟩ = some (.slice AW W.length cW) := hx4.cell 2
  have j3 : (w3.alloc (.cells #[.int .i64 t, .slice (some ⟨d.gC, 0, none⟩) n d.cC, .slice none 0 0, .slice (some ⟨d.gH, 0, none⟩) n d.cH, .slice (some ⟨d.gF, 0, none⟩) n d.cF, .slice (some ⟨d.gL, 0, none⟩) n d.cL] 37)).cell? ⟨w.heap.size, 3, none⟩ = some (.slice (some AH) n cH) := hx4.cell 3
  have j4 : (w3.alloc (.cells #[.int .i64 t, .slice (some ⟨d.gC, 0, none⟩) n d.cC, .slice none 0 0, .slice (some ⟨d.gH, 0, none⟩) n d.cH, .slice (some ⟨d.gF, 0, none⟩) n d.cF, .slice (some ⟨d.gL, 0, none⟩) n d.cL] 37)).cell? ⟨w.heap.size, 4, none⟩ = some (.slice (some AF) n cF) := hx4.cell 4
  have j5 : (w3.alloc (.cells #[.int .i64 t, .slice (some ⟨d.gC, 0, none⟩) n d.cC, .slice none 0 0, .slice (some ⟨d.gH, 0, none⟩) n d.cH, .slice (some ⟨d.gF, 0, none⟩) n d.cF, .slice (some ⟨d.gL, 0, none⟩) n d.cL] 37)).cell? ⟨w.heap.size, 5, none⟩ = some (.slice (some AL) n cL) := hx4.cell 5
  go_wp2_with fail
  obtain ⟨p7, hp7⟩ : ∃ p7, w3.heap.size = p7 := ⟨_, rfl⟩
  obtain ⟨w4, hw4⟩ : ∃ w4, w3.alloc (.cells #[.int .i64 t, .slice (some ⟨d.gC, 0, none⟩) n d.cC, .slice none 0 0, .slice (some ⟨d.gH, 0, none⟩) n d.cH, .slice (some ⟨d.gF, 0, none⟩) n d.cF, .slice (some ⟨d.gL, 0, none⟩) n d.cL] 37) = w4 := ⟨_, rfl⟩
  rw [hw4] at hcn4 hp4 hx4 hr4 hb4 hs4 j0 j1 j2 j3 j4 j5 ⊢
  rw [hp7] at hp4 hs4 htop ⊢
  have HB4 := Lib.hid hb4
  have HC4 := Lib.hid hcn4
  have HP4 := Lib.hid hp4
  have HOWN := Lib.hid hown
  have HX4 := Lib.hid hx4
  have HR4 := Lib.hid hr4
  clear hb3 hcn hown hw4 hp7 HX1 HR1 HB1 HZE
  clear j0 j1 j3 j4 j5
  have hp5 := HP4.out
  have hx5 := HX4.out
  have hr5 := HR4.out
  have hc5 : CN (w.heap.size + 2 + 2) n t K h f e (dropW x y (W.take 0)) d (.slice none 0 0) w4 := HC4.out.empt
  have hb5 := HB4.out
  obtain ⟨LEN, hLEN⟩ : ∃ L, W.length = L := ⟨_, rfl⟩
  have HLEN := Lib.hid hLEN
  have HP5 := Lib.hid hp5
  have HX5 := Lib.hid hx5
  have HR5 := Lib.hid hr5
  have HC5 := Lib.hid hc5
  have HB5 := Lib.hid hb5
  have HD := Lib.hid hD
  have HNE := Lib.hid hne
  rw [hLEN] at HW HX5 hWl ⊢
  clear hp5 hx5 hr5 hc5 hb5 hLEN hD hne HP4 HX4 HR4 HC4 HB4 HOWN hs4
  go_loopw [9, 10] (fun dv q wr => ∃ i : Nat, i ≤ LEN ∧ q = .int .i64 i ∧ dv = .int .i64 ((onWay (W.take i) x y).headD (-1)) ∧ ∃ v, CN (w.heap.size + 2 + 2) n t K h f e (dropW x y (W.take i)) d v wr ∧ (∀ g, v.ownBlock = some g → g ≠ p7) ∧ Blk wr p7 37 #[.int .i64 t, .slice (some ⟨d.gC, 0, none⟩) n d.cC, v, .slice (some ⟨d.gH, 0, none⟩) n d.cH, .slice (some ⟨d.gF, 0, none⟩) n d.cF, .slice (some ⟨d.gL, 0, none⟩) n d.cL] ∧ Blk wr w.heap.size 37 #[.int .i64 t, .slice (some AC) n cC, .slice AW LEN cW, .slice (some AH) n cH, .slice (some AF) n cF, .slice (some AL) n cL] ∧ Blk wr (w.heap.size + 1) 37 #[.int .i64 0, .slice none 0 0, .slice none 0 0, .slice none 0 0, .slice none 0 0, .slice none 0 0] ∧ Below w.heap.size w wr) (fun _ q _ => LEN - (intOf q).toNat)
  case atStart => exact ⟨0, by omega, rfl, rfl, _, HC5.out, (fun g hg => by cases hg), HP5.out, HX5.out, HR5.out, HB5.out⟩
  case round =>
    obtain ⟨i, hi, rfl, rfl, v, hcn, hno, hp, hxb, hr, hb⟩ := hrel
    have hpl := hp.lt
    obtain ⟨Av, qv, rfl, -, -⟩ := hcn.way.lnk
    have j2 : wr.cell? ⟨w.heap.size, 2, none⟩ = some (.slice AW LEN cW) := hxb.cell 2
    have HCN := Lib.hid hcn
    have HNO := Lib.hid hno
    have HP := Lib.hid hp
    have HXB := Lib.hid hxb
    have HR := Lib.hid hr
    have HB := Lib.hid hb
    clear hcn hno hp hxb hr hb HC5 HP5 HX5 HR5 HB5
    by_cases hlt : i < LEN
    · have hlt' : (i : Int) < LEN := by omega
      obtain ⟨ad, rfl, hadl, c1, c2, c3⟩ := (HW.out.keep HB.out) i hlt
      have hadw : ad.block < w.heap.size := by
        obtain ⟨ad', e', h', -⟩ := HW.out i hlt
        simp only [Option.some.injEq] at e'
        subst e'
        exact h'
      obtain ⟨⟨pa, pb, pd⟩, hpp⟩ : ∃ p, W.getD i (0, 0, 0) = p := ⟨_, rfl⟩
      have e1 : wA W i = (pa : Int) := by unfold wA; rw [hpp]
      have e2 : wB W i = (pb : Int) := by unfold wB; rw [hpp]
      have e3 : wD W i = pd := by unfold wD; rw [hpp]
      have HTK : Hid (W.take (i + 1) = W.take i ++ [(pa, pb, pd)]) := by
        have hlt2 : i < W.length := by rw [HLEN.out]; exact hlt
        rw [List.take_add_one, List.getElem?_eq_getElem hlt2]
        rw [List.getD_eq_getElem?_getD, List.getElem?_eq_getElem hlt2] at hpp
        rw [show W[i] = (pa, pb, pd) from hpp]
        exact Lib.hid rfl
      have hpd : 0 ≤ pd := HD.out (pa, pb, pd) (by
        have hlt2 : i < W.length := by rw [HLEN.out]; exact hlt
        rw [List.getD_eq_getElem?_getD, List.getElem?_eq_getElem hlt2] at hpp
        have : W[i] = (pa, pb, pd) := hpp
        rw [← this]
        exact List.getElem_mem _)
      rw [e1] at c1
      rw [e2] at c2
      rw [e3] at c3
      have c2' : wr.cell? ⟨(ad.add (i * 3)).block, (ad.add (i * 3)).off + 1, none⟩ = some (.int .i64 pb) := by
        rw [← add_lit1, add_of_add]
        exact c2
      have c3' : wr.cell? ⟨(ad.add (i * 3)).block, (ad.add (i * 3)).off + 2, none⟩ = some (.int .i64 pd) := by
        rw [← add_lit2, add_of_add]
        exact c3
      clear e1 e2 e3 hpp c2 c3
      by_cases hemp : onWay (W.take i) x y = []
      · have edd : (onWay (W.take i) x y).headD (-1) = -1 := by rw [hemp]; rfl
        rw [edd]
        by_cases ha : pa = x
        · have f1 : ((pa : Int) == (x : Int)) = true := by simp [ha]
          have f1' : (pa == x) = true := by simp [ha]
          by_cases hbb : pb = y
          · have f2 : ((pb : Int) == (y : Int)) = true := by simp [hbb]
            have f2' : (pb == y) = true := by simp [hbb]
            have hh := drop_hit (a := x) (b := y) (p := (pa, pb, pd)) (W.take i) hemp
            have HL : Hid (dropW x y (W.take (i + 1)) = dropW x y (W.take i)) := by
              rw [HTK.out, hh.2 ⟨ha, hbb⟩, hh.1]
              exact Lib.hid rfl
            have HN : Hid ((onWay (W.take (i + 1)) x y).headD (-1) = pd) := by
              rw [HTK.out, onWay_snoc, if_pos ⟨ha, hbb⟩, hemp]
              exact Lib.hid rfl
            clear ha hbb hh hemp edd HTK
            go_wp2_with fail
            go_roundw
            case rel => exact ⟨i + 1, by omega, by go_num, by rw [HN.out], _, by rw [HL.out]; exact HCN.out, HNO.out, HP.out, HXB.out, HR.out, HB.out⟩
            case measure => simp [intOf]; omega
          · have f2 : ((pb : Int) == (y : Int)) = false := beq_false_of_ne (by omega)
            have f2' : (pb == y) = false := beq_false_of_ne hbb
            have HM : Hid (dropW x y (W.take (i + 1)) = dropW x y (W.take i) ++ [(pa, pb, pd)]) := by
              rw [HTK.out]
              exact Lib.hid (drop_miss _ fun hc => hbb hc.2.2)
            have HN : Hid ((onWay (W.take (i + 1)) x y).headD (-1) = -1) := by
              rw [HTK.out, onWay_snoc, if_neg (fun hc => hbb hc.2), hemp]
              exact Lib.hid rfl
            clear ha hbb hemp edd HTK
            obtain ⟨LL, hLL⟩ : ∃ LL, dropW x y (W.take i) = LL := ⟨_, rfl⟩
            have hll : LL.length ≤ LEN := by
              rw [← hLL]
              exact Nat.le_trans (drop_len _) (by rw [List.length_take]; omega)
            rw [hLL] at HCN HP HM HNO
            clear hLL
            go_wp2_with fail
            have hS0 : CamS p7 w.heap.size Av LL.length qv ad LEN cW i pa pb pd wr := ⟨HP.out.cell 2, j2, c1, c2', c3', HP.out.frozen 2⟩
            have HS0 : Hid (CamS p7 w.heap.size Av LL.length qv ad LEN cW i pa pb pd wr.drew) := hS0
            have hb5 : Below wr.heap.size wr (wr.alloc (.cells #[.int .i64 pa, .int .i64 pb, .int .i64 pd] 80)) := (Below.refl _ _).alloc (Nat.le_refl _) _
            have HB5 := Lib.hid hb5
            have HS1 : Hid (CamS p7 w.heap.size Av LL.length qv ad LEN cW i pa pb pd (wr.alloc (.cells #[.int .i64 pa, .int .i64 pb, .int .i64 pd] 80)).drew) := hS0.same (hb5.drew.block _ hpl) (hb5.drew.block _ HXB.out.lt) (hb5.drew.block _ hadl)
            have hz5 : (wr.alloc (.cells #[.int .i64 pa, .int .i64 pb, .int .i64 pd] 80)).heap.size = wr.heap.size + 1 := by simp
            have HW5 := Lib.hid (HCN.out.below HB5.out).way
            have hbase : w.heap.size + 2 + 2 ≤ (wr.alloc (.cells #[.int .i64 pa, .int .i64 pb, .int .i64 pd] 80)).drew.heap.size := by
              show _ ≤ (wr.alloc _).heap.size
              have := HCN.out.low
              have := HCN.out.top
              have := HCN.out.o1
              have := HCN.out.o2
              have := HCN.out.o4
              have := HCN.out.o5
              omega
            clear hb5 hS0 j2 c1 c2' c3'
            refine wp_region_tail (CamS p7 w.heap.size Av LL.length qv ad LEN cW i pa pb pd) 10 (by kernel_rfl) ?_
            refine wpTail_take (i := 0) (v := ?_) rfl (by kernel_rfl) (by kernel_rfl) (by kernel_rfl) (by kernel_rfl) (fun _ _ _ h => h) HS0.out ?_ rfl ?_
            rotate_left 1
            · intro w0 hS0
              obtain ⟨s1, s2, s3, s4, s5, s6⟩ := hS0
              go_simp
              try with_reducible rfl
            try simp only [Act.put, List.setIfInBounds_toArray]
            refine wpTail_take (i := 1) (v := ?_) rfl (by kernel_rfl) (by kernel_rfl) (by kernel_rfl) (by kernel_rfl) (fun _ _ _ h => h) HS0.out ?_ rfl ?_
            rotate_left 1
            · intro w0 hS0
              obtain ⟨s1, s2, s3, s4, s5, s6⟩ := hS0
              go_simp
              try with_reducible rfl
            try simp only [Act.put]
            refine wpTail_take (i := 2) (v := ?_) rfl (by kernel_rfl) (by kernel_rfl) (by kernel_rfl) (by kernel_rfl) (fun _ _ _ h => h) HS0.out ?_ rfl ?_
            rotate_left 1
            · intro w0 hS0
              obtain ⟨s1, s2, s3, s4, s5, s6⟩ := hS0
              go_simp
              try with_reducible rfl
            try simp only [Act.put]
            refine wpTail_take (i := 3) (v := ?_) rfl (by kernel_rfl) (by kernel_rfl) (by kernel_rfl) (by kernel_rfl) (fun _ _ _ h => h) HS0.out ?_ rfl ?_
            rotate_left 1
            · intro w0 hS0
              obtain ⟨s1, s2, s3, s4, s5, s6⟩ := hS0
              go_simp
              try with_reducible rfl
            try simp only [Act.put]
            refine wpTail_take (i := 4) (v := ?_) rfl (by kernel_rfl) (by kernel_rfl) (by kernel_rfl) (by kernel_rfl) (fun _ _ _ h => h) HS0.out ?_ rfl ?_
            rotate_left 1
            · intro w0 hS0
              obtain ⟨s1, s2, s3, s4, s5, s6⟩ := hS0
              go_simp
              try with_reducible rfl
            try simp only [Act.put]
            refine wpTail_take (i := 5) (v := ?_) rfl (by kernel_rfl) (by kernel_rfl) (by kernel_rfl) (by kernel_rfl) (fun _ _ _ h => h) HS0.out ?_ rfl ?_
            rotate_left 1
            · intro w0 hS0
              obtain ⟨s1, s2, s3, s4, s5, s6⟩ := hS0
              go_simp
              try with_reducible rfl
            try simp only [Act.put]
            refine wpTail_take (i := 6) (v := ?_) rfl (by kernel_rfl) (by kernel_rfl) (by kernel_rfl) (by kernel_rfl) (fun _ _ _ h => h) HS0.out ?_ rfl ?_
            rotate_left 1
            · intro w0 hS0
              obtain ⟨s1, s2, s3, s4, s5, s6⟩ := hS0
              go_simp
              try with_reducible rfl
            try simp only [Act.put]
            refine wpTail_step (i := 7) rfl (by kernel_rfl) (fun K hK => ?_)
            go_simp
            refine hK.out _ _ HS1.out ?_
            clear hK K
            try simp only [Act.put]
            refine wpTail_step (i := 8) rfl (by kernel_rfl) (fun K hK => ?_)
            rw [if_pos (by rfl)]
            refine wp_append_way (.tmp 50) (.tmp 56) rfl rfl (w.heap.size + 2 + 2) _ LL.length (wA LL) (wB LL) (wD LL) rfl HW5.out pa pb pd ⟨wr.heap.size, 0, none⟩ rfl (fun j u hu => by rw [Addr.add_lit, Nat.zero_add]; exact ((Blk.new wr _ _).cell j).trans (by simpa using hu)) (by omega) hbase ?_
            intro g6 cap6 w6 hO6 hb6 hg6 ho6
            have hcn6 := (HCN.out.below (HB5.out.drew)).grow hO6 hg6 ho6
            have hg6' : g6 ≠ p7 := by
              intro e6
              rcases ho6 with ⟨h0, h6⟩ | h6
              · exact HNO.out g6 h6 e6
              · have h7 : g6 = wr.heap.size + 1 := h6.trans hz5
                omega
            have hkeep : ∀ b, b < wr.heap.size → (b < w.heap.size + 2 + 2 ∨ b = p7) → w6.heap[b]? = wr.heap[b]? := fun b hb hno => by
              refine (hg6.block b (Nat.lt_of_lt_of_le hb HB5.out.size) fun eb => ?_).trans (HB5.out.drew.block b hb)
              by_cases h0 : LL.length = 0
              · rw [if_pos h0] at eb; cases eb
              · rw [if_neg h0] at eb
                rcases hno with h | h
                · have := HCN.out.own_ge b h0 eb.symm
                  omega
                · exact HNO.out b eb.symm h
            have hp6 : Blk w6 p7 37 _ := (hkeep p7 hpl (.inr rfl)).trans HP.out
            have hr6 : Blk w6 (w.heap.size + 1) 37 _ := (hkeep _ HR.out.lt (.inl (by omega))).trans HR.out
            have hx6 : Blk w6 w.heap.size 37 _ := (hkeep _ HXB.out.lt (.inl (by omega))).trans HXB.out
            have HS6 : Hid (CamS p7 w.heap.size Av LL.length qv ad LEN cW i pa pb pd w6) := HS0.out.same (w := wr.drew) (hkeep p7 hpl (.inr rfl)) (hkeep _ HXB.out.lt (.inl (by omega))) (hkeep _ hadl (.inl (by omega)))
            have hb7 : Below w.heap.size w (w6.setCell ⟨p7, 2, none⟩ (.slice (some ⟨g6, 0, none⟩) (LL.length + 1) cap6)) := ((HB.out.trans (HB5.out.drew.mono HB.out.size)).trans (hb6.mono (by omega))).setCell (by show w.heap.size ≤ p7; omega) _
            have hcn7 : CN (w.heap.size + 2 + 2) n t _ h f e (LL ++ [(pa, pb, pd)]) d (.slice (some ⟨g6, 0, none⟩) (LL.length + 1) cap6) (w6.setCell ⟨p7, 2, none⟩ (.slice (some ⟨g6, 0, none⟩) (LL.length + 1) cap6)) :=
              hcn6.but (p := p7) htop (fun g hg => by
                have : g6 = g := by simpa [Value.ownBlock] using hg
                subst this
                exact hg6') fun b _ _ hb => Below.heap_setCell _ _ _ _ hb
            have hp7 := hp6.set_ 2 (.slice (some ⟨g6, 0, none⟩) (LL.length + 1) cap6)
            simp at hp7
            have hr7 : Blk (w6.setCell ⟨p7, 2, none⟩ (.slice (some ⟨g6, 0, none⟩) (LL.length + 1) cap6)) (w.heap.size + 1) 37 _ := (Below.heap_setCell _ _ _ _ (by show _ ≠ p7; omega)).trans hr6
            have hx7 : Blk (w6.setCell ⟨p7, 2, none⟩ (.slice (some ⟨g6, 0, none⟩) (LL.length + 1) cap6)) w.heap.size 37 _ := (Below.heap_setCell _ _ _ _ (by show _ ≠ p7; omega)).trans hx6
            have HC7 := Lib.hid hcn7
            have HP7 := Lib.hid hp7
            have HR7 := Lib.hid hr7
            have HX7 := Lib.hid hx7
            have HB7 := Lib.hid hb7
            have HG6 := Lib.hid hg6'
            clear hcn6 hp6 hr6 hx6 hcn7 hp7 hr7 hx7 hb7 hg6' hkeep hO6 hb6 hg6 ho6 hz5 hbase
            refine hK.out _ _ HS6.out ?_
            clear hK K
            try simp only [Act.put]
            refine wpTail_take (i := 9) (v := ?_) rfl (by kernel_rfl) (by kernel_rfl) (by kernel_rfl) (by kernel_rfl) (fun _ _ _ h => h) HS6.out ?_ rfl ?_
            rotate_left 1
            · intro w0 hS0
              obtain ⟨s1, s2, s3, s4, s5, s6⟩ := hS0
              go_simp
              try with_reducible rfl
            try simp only [Act.put]
            refine wpTail_last rfl (by kernel_rfl) (by kernel_rfl) (fun K hK => ?_)
            have s1 := HS6.out.1
            have s6 := HS6.out.2.2.2.2.2
            go_simp
            refine hK.out _ _ ?_
            clear hK K s1 s6 HS6 HS0 HS1 HW5
            go_wp2_with fail
            go_roundw
            case rel => exact ⟨i + 1, by omega, by go_num, by rw [HN.out], _, by rw [HM.out]; exact HC7.out, (fun g hg => by
                have : g6 = g := by simpa [Value.ownBlock] using hg
                subst this
                exact HG6.out), HP7.out, HX7.out, HR7.out, HB7.out⟩
            case measure => simp [intOf]; omega
        · have f1 : ((pa : Int) == (x : Int)) = false := beq_false_of_ne (by omega)
          have f1' : (pa == x) = false := beq_false_of_ne ha
          have HM : Hid (dropW x y (W.take (i + 1)) = dropW x y (W.take i) ++ [(pa, pb, pd)]) := by
            rw [HTK.out]
            exact Lib.hid (drop_miss _ fun hc => ha hc.2.1)
          have HN : Hid ((onWay (W.take (i + 1)) x y).headD (-1) = -1) := by
            rw [HTK.out, onWay_snoc, if_neg (fun hc => ha hc.1), hemp]
            exact Lib.hid rfl
          clear ha hemp edd HTK
          obtain ⟨LL, hLL⟩ : ∃ LL, dropW x y (W.take i) = LL := ⟨_, rfl⟩
          have hll : LL.length ≤ LEN := by
            rw [← hLL]
            exact Nat.le_trans (drop_len _) (by rw [List.length_take]; omega)
          rw [hLL] at HCN HP HM HNO
          clear hLL
          go_wp2_with fail
          have hS0 : CamS p7 w.heap.size Av LL.length qv ad LEN cW i pa pb pd wr := ⟨HP.out.cell 2, j2, c1, c2', c3', HP.out.frozen 2⟩
          have HS0 : Hid (CamS p7 w.heap.size Av LL.length qv ad LEN cW i pa pb pd wr.drew) := hS0
          have hb5 : Below wr.heap.size wr (wr.alloc (.cells #[.int .i64 pa, .int .i64 pb, .int .i64 pd] 80)) := (Below.refl _ _).alloc (Nat.le_refl _) _
          have HB5 := Lib.hid hb5
          have HS1 : Hid (CamS p7 w.heap.size Av LL.length qv ad LEN cW i pa pb pd (wr.alloc (.cells #[.int .i64 pa, .int .i64 pb, .int .i64 pd] 80)).drew) := hS0.same (hb5.drew.block _ hpl) (hb5.drew.block _ HXB.out.lt) (hb5.drew.block _ hadl)
          have hz5 : (wr.alloc (.cells #[.int .i64 pa, .int .i64 pb, .int .i64 pd] 80)).heap.size = wr.heap.size + 1 := by simp
          have HW5 := Lib.hid (HCN.out.below HB5.out).way
          have hbase : w.heap.size + 2 + 2 ≤ (wr.alloc (.cells #[.int .i64 pa, .int .i64 pb, .int .i64 pd] 80)).drew.heap.size := by
            show _ ≤ (wr.alloc _).heap.size
            have := HCN.out.low
            have := HCN.out.top
            have := HCN.out.o1
            have := HCN.out.o2
            have := HCN.out.o4
            have := HCN.out.o5
            omega
          clear hb5 hS0 j2 c1 c2' c3'
          refine wp_region_tail (CamS p7 w.heap.size Av LL.length qv ad LEN cW i pa pb pd) 10 (by kernel_rfl) ?_
          refine wpTail_take (i := 0) (v := ?_) rfl (by kernel_rfl) (by kernel_rfl) (by kernel_rfl) (by kernel_rfl) (fun _ _ _ h => h) HS0.out ?_ rfl ?_
          rotate_left 1
          · intro w0 hS0
            obtain ⟨s1, s2, s3, s4, s5, s6⟩ := hS0
            go_simp
            try with_reducible rfl
          try simp only [Act.put, List.setIfInBounds_toArray]
          refine wpTail_take (i := 1) (v := ?_) rfl (by kernel_rfl) (by kernel_rfl) (by kernel_rfl) (by kernel_rfl) (fun _ _ _ h => h) HS0.out ?_ rfl ?_
          rotate_left 1
          · intro w0 hS0
            obtain ⟨s1, s2, s3, s4, s5, s6⟩ := hS0
            go_simp
            try with_reducible rfl
          try simp only [Act.put]
          refine wpTail_take (i := 2) (v := ?_) rfl (by kernel_rfl) (by kernel_rfl) (by kernel_rfl) (by kernel_rfl) (fun _ _ _ h => h) HS0.out ?_ rfl ?_
          rotate_left 1
          · intro w0 hS0
            obtain ⟨s1, s2, s3, s4, s5, s6⟩ := hS0
            go_simp
            try with_reducible rfl
          try simp only [Act.put]
          refine wpTail_take (i := 3) (v := ?_) rfl (by kernel_rfl) (by kernel_rfl) (by kernel_rfl) (by kernel_rfl) (fun _ _ _ h => h) HS0.out ?_ rfl ?_
          rotate_left 1
          · intro w0 hS0
            obtain ⟨s1, s2, s3, s4, s5, s6⟩ := hS0
            go_simp
            try with_reducible rfl
          try simp only [Act.put]
          refine wpTail_take (i := 4) (v := ?_) rfl (by kernel_rfl) (by kernel_rfl) (by kernel_rfl) (by kernel_rfl) (fun _ _ _ h => h) HS0.out ?_ rfl ?_
          rotate_left 1
          · intro w0 hS0
            obtain ⟨s1, s2, s3, s4, s5, s6⟩ := hS0
            go_simp
            try with_reducible rfl
          try simp only [Act.put]
          refine wpTail_take (i := 5) (v := ?_) rfl (by kernel_rfl) (by kernel_rfl) (by kernel_rfl) (by kernel_rfl) (fun _ _ _ h => h) HS0.out ?_ rfl ?_
          rotate_left 1
          · intro w0 hS0
            obtain ⟨s1, s2, s3, s4, s5, s6⟩ := hS0
            go_simp
            try with_reducible rfl
          try simp only [Act.put]
          refine wpTail_take (i := 6) (v := ?_) rfl (by kernel_rfl) (by kernel_rfl) (by kernel_rfl) (by kernel_rfl) (fun _ _ _ h => h) HS0.out ?_ rfl ?_
          rotate_left 1
          · intro w0 hS0
            obtain ⟨s1, s2, s3, s4, s5, s6⟩ := hS0
            go_simp
            try with_reducible rfl
          try simp only [Act.put]
          refine wpTail_step (i := 7) rfl (by kernel_rfl) (fun K hK => ?_)
          go_simp
          refine hK.out _ _ HS1.out ?_
          clear hK K
          try simp only [Act.put]
          refine wpTail_step (i := 8) rfl (by kernel_rfl) (fun K hK => ?_)
          rw [if_pos (by rfl)]
          refine wp_append_way (.tmp 50) (.tmp 56) rfl rfl (w.heap.size + 2 + 2) _ LL.length (wA LL) (wB LL) (wD LL) rfl HW5.out pa pb pd ⟨wr.heap.size, 0, none⟩ rfl (fun j u hu => by rw [Addr.add_lit, Nat.zero_add]; exact ((Blk.new wr _ _).cell j).trans (by simpa using hu)) (by omega) hbase ?_
          intro g6 cap6 w6 hO6 hb6 hg6 ho6
          have hcn6 := (HCN.out.below (HB5.out.drew)).grow hO6 hg6 ho6
          have hg6' : g6 ≠ p7 := by
            intro e6
            rcases ho6 with ⟨h0, h6⟩ | h6
            · exact HNO.out g6 h6 e6
            · have h7 : g6 = wr.heap.size + 1 := h6.trans hz5
              omega
          have hkeep : ∀ b, b < wr.heap.size → (b < w.heap.size + 2 + 2 ∨ b = p7) → w6.heap[b]? = wr.heap[b]? := fun b hb hno => by
            refine (hg6.block b (Nat.lt_of_lt_of_le hb HB5.out.size) fun eb => ?_).trans (HB5.out.drew.block b hb)
            by_cases h0 : LL.length = 0
            · rw [if_pos h0] at eb; cases eb
            · rw [if_neg h0] at eb
              rcases hno with h | h
              · have := HCN.out.own_ge b h0 eb.symm
                omega
              · exact HNO.out b eb.symm h
          have hp6 : Blk w6 p7 37 _ := (hkeep p7 hpl (.inr rfl)).trans HP.out
          have hr6 : Blk w6 (w.heap.size + 1) 37 _ := (hkeep _ HR.out.lt (.inl (by omega))).trans HR.out
          have hx6 : Blk w6 w.heap.size 37 _ := (hkeep _ HXB.out.lt (.inl (by omega))).trans HXB.out
          have HS6 : Hid (CamS p7 w.heap.size Av LL.length qv ad LEN cW i pa pb pd w6) := HS0.out.same (w := wr.drew) (hkeep p7 hpl (.inr rfl)) (hkeep _ HXB.out.lt (.inl (by omega))) (hkeep _ hadl (.inl (by omega)))
          have hb7 : Below w.heap.size w (w6.setCell ⟨p7, 2, none⟩ (.slice (some ⟨g6, 0, none⟩) (LL.length + 1) cap6)) := ((HB.out.trans (HB5.out.drew.mono HB.out.size)).trans (hb6.mono (by omega))).setCell (by show w.heap.size ≤ p7; omega) _
          have hcn7 : CN (w.heap.size + 2 + 2) n t _ h f e (LL ++ [(pa, pb, pd)]) d (.slice (some ⟨g6, 0, none⟩) (LL.length + 1) cap6) (w6.setCell ⟨p7, 2, none⟩ (.slice (some ⟨g6, 0, none⟩) (LL.length + 1) cap6)) :=
            hcn6.but (p := p7) htop (fun g hg => by
              have : g6 = g := by simpa [Value.ownBlock] using hg
              subst this
              exact hg6') fun b _ _ hb => Below.heap_setCell _ _ _ _ hb
          have hp7 := hp6.set_ 2 (.slice (some ⟨g6, 0, none⟩) (LL.length + 1) cap6)
          simp at hp7
          have hr7 : Blk (w6.setCell ⟨p7, 2, none⟩ (.slice (some ⟨g6, 0, none⟩) (LL.length + 1) cap6)) (w.heap.size + 1) 37 _ := (Below.heap_setCell _ _ _ _ (by show _ ≠ p7; omega)).trans hr6
          have hx7 : Blk (w6.setCell ⟨p7, 2, none⟩ (.slice (some ⟨g6, 0, none⟩) (LL.length + 1) cap6)) w.heap.size 37 _ := (Below.heap_setCell _ _ _ _ (by show _ ≠ p7; omega)).trans hx6
          have HC7 := Lib.hid hcn7
          have HP7 := Lib.hid hp7
          have HR7 := Lib.hid hr7
          have HX7 := Lib.hid hx7
          have HB7 := Lib.hid hb7
          have HG6 := Lib.hid hg6'
          clear hcn6 hp6 hr6 hx6 hcn7 hp7 hr7 hx7 hb7 hg6' hkeep hO6 hb6 hg6 ho6 hz5 hbase
          refine hK.out _ _ HS6.out ?_
          clear hK K
          try simp only [Act.put]
          refine wpTail_take (i := 9) (v := ?_) rfl (by kernel_rfl) (by kernel_rfl) (by kernel_rfl) (by kernel_rfl) (fun _ _ _ h => h) HS6.out ?_ rfl ?_
          rotate_left 1
          · intro w0 hS0
            obtain ⟨s1, s2, s3, s4, s5, s6⟩ := hS0
            go_simp
            try with_reducible rfl
          try simp only [Act.put]
          refine wpTail_last rfl (by kernel_rfl) (by kernel_rfl) (fun K hK => ?_)
          have s1 := HS6.out.1
          have s6 := HS6.out.2.2.2.2.2
          go_simp
          refine hK.out _ _ ?_
          clear hK K s1 s6 HS6 HS0 HS1 HW5
          go_wp2_with fail
          go_roundw
          case rel => exact ⟨i + 1, by omega, by go_num, by rw [HN.out], _, by rw [HM.out]; exact HC7.out, (fun g hg => by
              have : g6 = g := by simpa [Value.ownBlock] using hg
              subst this
              exact HG6.out), HP7.out, HX7.out, HR7.out, HB7.out⟩
          case measure => simp [intOf]; omega
      · obtain ⟨dd, hdd⟩ : ∃ dd, (onWay (W.take i) x y).headD (-1) = dd := ⟨_, rfl⟩
        have hd0 : 0 ≤ dd := by
          cases ho : onWay (W.take i) x y with
          | nil => exact absurd ho hemp
          | cons z r =>
            rw [ho] at hdd
            have hz : z = dd := hdd
            have := HD.out (x, y, z) (List.mem_of_mem_take (onWay_mem (by rw [ho]; exact List.mem_cons_self)))
            rw [← hz]; exact this
        have HM : Hid (dropW x y (W.take (i + 1)) = dropW x y (W.take i) ++ [(pa, pb, pd)]) := by
          rw [HTK.out]
          exact Lib.hid (drop_miss _ fun hc => hemp hc.1)
        have HN : Hid ((onWay (W.take (i + 1)) x y).headD (-1) = dd) := by
          rw [HTK.out, onWay_snoc, ← hdd]
          cases ho : onWay (W.take i) x y with
          | nil => exact absurd ho hemp
          | cons z r => split <;> exact Lib.hid rfl
        have f0 : decide (dd < 0) = false := decide_eq_false (by omega)
        rw [hdd]
        clear hemp hdd HTK
        obtain ⟨LL, hLL⟩ : ∃ LL, dropW x y (W.take i) = LL := ⟨_, rfl⟩
        have hll : LL.length ≤ LEN := by
          rw [← hLL]
          exact Nat.le_trans (drop_len _) (by rw [List.length_take]; omega)
        rw [hLL] at HCN HP HM HNO
        clear hLL
        go_wp2_with fail
        have hS0 : CamS p7 w.heap.size Av LL.length qv ad LEN cW i pa pb pd wr := ⟨HP.out.cell 2, j2, c1, c2', c3', HP.out.frozen 2⟩
        have HS0 : Hid (CamS p7 w.heap.size Av LL.length qv ad LEN cW i pa pb pd wr.drew) := hS0
        have hb5 : Below wr.heap.size wr (wr.alloc (.cells #[.int .i64 pa, .int .i64 pb, .int .i64 pd] 80)) := (Below.refl _ _).alloc (Nat.le_refl _) _
        have HB5 := Lib.hid hb5
        have HS1 : Hid (CamS p7 w.heap.size Av LL.length qv ad LEN cW i pa pb pd (wr.alloc (.cells #[.int .i64 pa, .int .i64 pb, .int .i64 pd] 80)).drew) := hS0.same (hb5.drew.block _ hpl) (hb5.drew.block _ HXB.out.lt) (hb5.drew.block _ hadl)
        have hz5 : (wr.alloc (.cells #[.int .i64 pa, .int .i64 pb, .int .i64 pd] 80)).heap.size = wr.heap.size + 1 := by simp
        have HW5 := Lib.hid (HCN.out.below HB5.out).way
        have hbase : w.heap.size + 2 + 2 ≤ (wr.alloc (.cells #[.int .i64 pa, .int .i64 pb, .int .i64 pd] 80)).drew.heap.size := by
          show _ ≤ (wr.alloc _).heap.size
          have := HCN.out.low
          have := HCN.out.top
          have := HCN.out.o1
          have := HCN.out.o2
          have := HCN.out.o4
          have := HCN.out.o5
          omega
        clear hb5 hS0 j2 c1 c2' c3'
        refine wp_region_tail (CamS p7 w.heap.size Av LL.length qv ad LEN cW i pa pb pd) 10 (by kernel_rfl) ?_
        refine wpTail_take (i := 0) (v := ?_) rfl (by kernel_rfl) (by kernel_rfl) (by kernel_rfl) (by kernel_rfl) (fun _ _ _ h => h) HS0.out ?_ rfl ?_
        rotate_left 1
        · intro w0 hS0
          obtain ⟨s1, s2, s3, s4, s5, s6⟩ := hS0
          go_simp
          try with_reducible rfl
        try simp only [Act.put, List.setIfInBounds_toArray]
        refine wpTail_take (i := 1) (v := ?_) rfl (by kernel_rfl) (by kernel_rfl) (by kernel_rfl) (by kernel_rfl) (fun _ _ _ h => h) HS0.out ?_ rfl ?_
        rotate_left 1
        · intro w0 hS0
          obtain ⟨s1, s2, s3, s4, s5, s6⟩ := hS0
          go_simp
          try with_reducible rfl
        try simp only [Act.put]
        refine wpTail_take (i := 2) (v := ?_) rfl (by kernel_rfl) (by kernel_rfl) (by kernel_rfl) (by kernel_rfl) (fun _ _ _ h => h) HS0.out ?_ rfl ?_
        rotate_left 1
        · intro w0 hS0
          obtain ⟨s1, s2, s3, s4, s5, s6⟩ := hS0
          go_simp
          try with_reducible rfl
        try simp only [Act.put]
        refine wpTail_take (i := 3) (v := ?_) rfl (by kernel_rfl) (by kernel_rfl) (by kernel_rfl) (by kernel_rfl) (fun _ _ _ h => h) HS0.out ?_ rfl ?_
        rotate_left 1
        · intro w0 hS0
          obtain ⟨s1, s2, s3, s4, s5, s6⟩ := hS0
          go_simp
          try with_reducible rfl
        try simp only [Act.put]
        refine wpTail_take (i := 4) (v := ?_) rfl (by kernel_rfl) (by kernel_rfl) (by kernel_rfl) (by kernel_rfl) (fun _ _ _ h => h) HS0.out ?_ rfl ?_
        rotate_left 1
        · intro w0 hS0
          obtain ⟨s1, s2, s3, s4, s5, s6⟩ := hS0
          go_simp
          try with_reducible rfl
        try simp only [Act.put]
        refine wpTail_take (i := 5) (v := ?_) rfl (by kernel_rfl) (by kernel_rfl) (by kernel_rfl) (by kernel_rfl) (fun _ _ _ h => h) HS0.out ?_ rfl ?_
        rotate_left 1
        · intro w0 hS0
          obtain ⟨s1, s2, s3, s4, s5, s6⟩ := hS0
          go_simp
          try with_reducible rfl
        try simp only [Act.put]
        refine wpTail_take (i := 6) (v := ?_) rfl (by kernel_rfl) (by kernel_rfl) (by kernel_rfl) (by kernel_rfl) (fun _ _ _ h => h) HS0.out ?_ rfl ?_
        rotate_left 1
        · intro w0 hS0
          obtain ⟨s1, s2, s3, s4, s5, s6⟩ := hS0
          go_simp
          try with_reducible rfl
        try simp only [Act.put]
        refine wpTail_step (i := 7) rfl (by kernel_rfl) (fun K hK => ?_)
        go_simp
        refine hK.out _ _ HS1.out ?_
        clear hK K
        try simp only [Act.put]
        refine wpTail_step (i := 8) rfl (by kernel_rfl) (fun K hK => ?_)
        rw [if_pos (by rfl)]
        refine wp_append_way (.tmp 50) (.tmp 56) rfl rfl (w.heap.size + 2 + 2) _ LL.length (wA LL) (wB LL) (wD LL) rfl HW5.out pa pb pd ⟨wr.heap.size, 0, none⟩ rfl (fun j u hu => by rw [Addr.add_lit, Nat.zero_add]; exact ((Blk.new wr _ _).cell j).trans (by simpa using hu)) (by omega) hbase ?_
        intro g6 cap6 w6 hO6 hb6 hg6 ho6
        have hcn6 := (HCN.out.below (HB5.out.drew)).grow hO6 hg6 ho6
        have hg6' : g6 ≠ p7 := by
          intro e6
          rcases ho6 with ⟨h0, h6⟩ | h6
          · exact HNO.out g6 h6 e6
          · have h7 : g6 = wr.heap.size + 1 := h6.trans hz5
            omega
        have hkeep : ∀ b, b < wr.heap.size → (b < w.heap.size + 2 + 2 ∨ b = p7) → w6.heap[b]? = wr.heap[b]? := fun b hb hno => by
          refine (hg6.block b (Nat.lt_of_lt_of_le hb HB5.out.size) fun eb => ?_).trans (HB5.out.drew.block b hb)
          by_cases h0 : LL.length = 0
          · rw [if_pos h0] at eb; cases eb
          · rw [if_neg h0] at eb
            rcases hno with h | h
            · have := HCN.out.own_ge b h0 eb.symm
              omega
            · exact HNO.out b eb.symm h
        have hp6 : Blk w6 p7 37 _ := (hkeep p7 hpl (.inr rfl)).trans HP.out
        have hr6 : Blk w6 (w.heap.size + 1) 37 _ := (hkeep _ HR.out.lt (.inl (by omega))).trans HR.out
        have hx6 : Blk w6 w.heap.size 37 _ := (hkeep _ HXB.out.lt (.inl (by omega))).trans HXB.out
        have HS6 : Hid (CamS p7 w.heap.size Av LL.length qv ad LEN cW i pa pb pd w6) := HS0.out.same (w := wr.drew) (hkeep p7 hpl (.inr rfl)) (hkeep _ HXB.out.lt (.inl (by omega))) (hkeep _ hadl (.inl (by omega)))
        have hb7 : Below w.heap.size w (w6.setCell ⟨p7, 2, none⟩ (.slice (some ⟨g6, 0, none⟩) (LL.length + 1) cap6)) := ((HB.out.trans (HB5.out.drew.mono HB.out.size)).trans (hb6.mono (by omega))).setCell (by show w.heap.size ≤ p7; omega) _
        have hcn7 : CN (w.heap.size + 2 + 2) n t _ h f e (LL ++ [(pa, pb, pd)]) d (.slice (some ⟨g6, 0, none⟩) (LL.length + 1) cap6) (w6.setCell ⟨p7, 2, none⟩ (.slice (some ⟨g6, 0, none⟩) (LL.length + 1) cap6)) :=
          hcn6.but (p := p7) htop (fun g hg => by
            have : g6 = g := by simpa [Value.ownBlock] using hg
            subst this
            exact hg6') fun b _ _ hb => Below.heap_setCell _ _ _ _ hb
        have hp7 := hp6.set_ 2 (.slice (some ⟨g6, 0, none⟩) (LL.length + 1) cap6)
        simp at hp7
        have hr7 : Blk (w6.setCell ⟨p7, 2, none⟩ (.slice (some ⟨g6, 0, none⟩) (LL.length + 1) cap6)) (w.heap.size + 1) 37 _ := (Below.heap_setCell _ _ _ _ (by show _ ≠ p7; omega)).trans hr6
        have hx7 : Blk (w6.setCell ⟨p7, 2, none⟩ (.slice (some ⟨g6, 0, none⟩) (LL.length + 1) cap6)) w.heap.size 37 _ := (Below.heap_setCell _ _ _ _ (by show _ ≠ p7; omega)).trans hx6
        have HC7 := Lib.hid hcn7
        have HP7 := Lib.hid hp7
        have HR7 := Lib.hid hr7
        have HX7 := Lib.hid hx7
        have HB7 := Lib.hid hb7
        have HG6 := Lib.hid hg6'
        clear hcn6 hp6 hr6 hx6 hcn7 hp7 hr7 hx7 hb7 hg6' hkeep hO6 hb6 hg6 ho6 hz5 hbase
        refine hK.out _ _ HS6.out ?_
        clear hK K
        try simp only [Act.put]
        refine wpTail_take (i := 9) (v := ?_) rfl (by kernel_rfl) (by kernel_rfl) (by kernel_rfl) (by kernel_rfl) (fun _ _ _ h => h) HS6.out ?_ rfl ?_
        rotate_left 1
        · intro w0 hS0
          obtain ⟨s1, s2, s3, s4, s5, s6⟩ := hS0
          go_simp
          try with_reducible rfl
        try simp only [Act.put]
        refine wpTail_last rfl (by kernel_rfl) (by kernel_rfl) (fun K hK => ?_)
        have s1 := HS6.out.1
        have s6 := HS6.out.2.2.2.2.2
        go_simp
        refine hK.out _ _ ?_
        clear hK K s1 s6 HS6 HS0 HS1 HW5
        go_wp2_with fail
        go_roundw
        case rel => exact ⟨i + 1, by omega, by go_num, by rw [HN.out], _, by rw [HM.out]; exact HC7.out, (fun g hg => by
            have : g6 = g := by simpa [Value.ownBlock] using hg
            subst this
            exact HG6.out), HP7.out, HX7.out, HR7.out, HB7.out⟩
        case measure => simp [intOf]; omega
    · have ek : LEN = i := by omega
      subst ek
      have HTA : Hid (W.take LEN = W) := by
        rw [← HLEN.out]
        exact Lib.hid List.take_length
      rw [HTA.out]
      have hcr := HCN.out
      rw [HTA.out] at hcr
      obtain ⟨z, hz⟩ : ∃ z, (onWay W x y).headD (-1) = z := ⟨_, rfl⟩
      have HDD : Hid ((onWay W x y).headD 0 = z) := by
        rw [← hz]
        cases ho : onWay W x y with
        | nil => exact absurd ho HNE.out
        | cons _ _ => exact Lib.hid rfl
      rw [hz]
      have hpr := HP.out
      have k0 : wr.cell? ⟨p7, 0, none⟩ = some (.int .i64 t) := hpr.cell 0
      have k1 : wr.cell? ⟨p7, 1, none⟩ = some (.slice (some ⟨d.gC, 0, none⟩) n d.cC) := hpr.cell 1
      have k2 : wr.cell? ⟨p7, 2, none⟩ = some (.slice Av (dropW x y (W.take LEN)).length qv) := hpr.cell 2
      have k3 : wr.cell? ⟨p7, 3, none⟩ = some (.slice (some ⟨d.gH, 0, none⟩) n d.cH) := hpr.cell 3
      have k4 : wr.cell? ⟨p7, 4, none⟩ = some (.slice (some ⟨d.gF, 0, none⟩) n d.cF) := hpr.cell 4
      have k5 : wr.cell? ⟨p7, 5, none⟩ = some (.slice (some ⟨d.gL, 0, none⟩) n d.cL) := hpr.cell 5
      have rR := hcr.t3.row.cell hy
      have rC := (hcr.t3.rows y hy).2.2.cell hx
      have rF := (hcr.t3.rows y hy).2.2.frozen x
      have hg1 := (hcr.t3.rows y hy).1
      have hg2 := (hcr.t3.rows y hy).2.1
      have ho1 := hcr.o1
      have ho2 := hcr.o2
      have ho4 := hcr.o4
      have ho5 := hcr.o5
      have hlw := hcr.low
      have hcn7 := hcr.setHeard hy x z
      have hr7 : Blk (wr.setCell ⟨d.BH y, x, none⟩ (.int .i64 z)) (w.heap.size + 1) 37 _ := (Below.heap_setCell _ _ _ _ (by show w.heap.size + 1 ≠ d.BH y; omega)).trans HR.out
      have hb7 : Below w.heap.size w (wr.setCell ⟨d.BH y, x, none⟩ (.int .i64 z)) := HB.out.setCell (by show w.heap.size ≤ d.BH y; omega) _
      have HC7 := Lib.hid hcn7
      have HR7 := Lib.hid hr7
      have HB7 := Lib.hid hb7
      have n7 : d.BH y ≠ p7 := by omega
      have n8 : p7 ≠ d.BH y := by omega
      clear hpr hcr hcn7 hr7 hb7 hz HNE
      go_wp2_with (refine wpList_store_row rfl 37 (.tmp 6) (.tmp 67) rfl (w.heap.size + 1) #[.int .i64 t, .slice (some ⟨d.gC, 0, none⟩) n d.cC, .slice Av (dropW x y (W.take LEN)).length qv, .slice (some ⟨d.gH, 0, none⟩) n d.cH, .slice (some ⟨d.gF, 0, none⟩) n d.cF, .slice (some ⟨d.gL, 0, none⟩) n d.cL] rfl rfl _ _ HR7.out (by kernel_rfl) rfl (by simp [Value.oneCell']) ?_)
      refine bodyPost_ret (results_cell_row2 rfl _ _ _ _ _ (0, 0) _ rfl (setRow_heap _ _ _ _ _ _ HR7.out) Tryd.underlying37 rfl (by kernel_rfl)) rfl ?_
      refine ⟨_, by rw [HDD.out]; rfl, ?_, ?_⟩
      · rw [HDD.out, HTA.out]
        exact (HC7.out.same fun b hb _ => setRow_other _ (w.heap.size + 1) b _ (by omega)).reads.same (fun _ _ _ => rfl) (Nat.le_refl _) (fun b hb _ => by
          have hb' : w.heap.size + 2 + 2 ≤ b := hb
          show w.heap.size ≤ b
          omega)
      · exact ⟨HB7.out.os, HB7.out.tape, HB7.out.output, by rw [setRow_size]; exact HB7.out.size, fun k hk => (setRow_other _ _ k _ (by omega)).trans (HB7.out.block k hk)⟩

end Go.Proofs.YtminfghiejgieaaDoor

/- The walk of the reference's CostsOf. -/
namespace Go.Proofs.YtminfghiejgieaaDoor
open Go.RowKit
set_option linter.unusedVariables false

theorem OwnV.row {w : World} {base n : Nat} {v : Value} {f : Nat → Int} (h1 : 1 ≤ n) (h : OwnV w base v n f) : ∃ g c, v = .slice (some ⟨g, 0, none⟩) n c ∧ base ≤ g ∧ RowP w g 3 n fun i => .int .i64 (f i) := by
  rcases h.form with ⟨rfl, -⟩ | ⟨g, c, e, hb, -, -, hr⟩
  · omega
  · exact ⟨g, c, e, hb, hr⟩

theorem RowP.congrI {w : World} {g n : Nat} {f f' : Nat → Int} (h : RowP w g 3 n fun i => .int .i64 (f i)) (e : ∀ i, i < n → f i = f' i) : RowP w g 3 n fun i => .int .i64 (f' i) :=
  h.congr fun i hi => by rw [e i hi]

set_option maxRecDepth 100000 in
set_option maxHeartbeats 2000000 in
theorem costsOf_walk (n : Nat) (x : Int) (hx : x = (n : Int)) (A : Option Addr) (m cp : Nat) (a b c : Nat → Int) (w : World) (hl : Lnk w A m a b c) (h1 : 1 ≤ n) (h8 : n ≤ 8) (hm : m ≤ 9223372036854775807) :
    Calls Tryd.prog 44 #[.int .i64 x, .slice A m cp] w fun e w' => ∃ v, e = .returned v ∧ Tab w' w.heap.size v n n (costF m a b c) ∧ Below w.heap.size w w' := by
  subst hx
  have h1' : (1 : Int) ≤ n := by omega
  have h8' : (n : Int) ≤ 8 := by omega
  have HL := Lib.hid hl
  clear hl
  go_enter Tryd.func44, Tryd.ntmps44
  go_wp2_with fail
  go_loopw [5, 6] (fun v i wr => ∃ r : Nat, r ≤ n ∧ i = .int .i64 r ∧ Tab wr w.heap.size v r n (costF m a b c) ∧ Below w.heap.size w wr) (fun _ i _ => n - (intOf i).toNat)
  case atStart => exact ⟨0, by omega, rfl, Tab.nil _ _ _ _, Below.refl _ _⟩
  case round =>
    obtain ⟨r, hr, rfl, hT, hb⟩ := hrel
    obtain ⟨wo, hwo⟩ : ∃ wo, wo = wr := ⟨_, rfl⟩
    subst hwo
    have HT := Lib.hid hT
    have HB := Lib.hid hb
    clear hT hb
    by_cases hlt : r < n
    · have hlt' : (r : Int) < n := by omega
      go_wp2_with fail
      go_loopw [7, 8] (fun v i wj => ∃ q : Nat, q ≤ n ∧ i = .int .i64 q ∧ OwnV wj wo.heap.size v q (costF m a b c r) ∧ Below wo.heap.size wo wj) (fun _ i _ => n - (intOf i).toNat)
      case atStart => exact ⟨0, by omega, rfl, OwnV.nil _ _ _, Below.refl _ _⟩
      case round =>
        obtain ⟨q, hq, rfl, hV, hbj⟩ := hrel
        have HV := Lib.hid hV
        have HBJ := Lib.hid hbj
        clear hV hbj
        by_cases hqn : q < n
        · have hqn' : (q : Int) < n := by omega
          obtain ⟨z, hz⟩ : ∃ z, costV m a b c r q = z := ⟨_, rfl⟩
          have HZ := Lib.hid hz
          clear hz
          have hcall := costOf_walk A m cp a b c r q wr (HL.out.keep (keep HB.out HBJ.out)) hm z HZ.out
          go_wp2_with fail
          refine hcall.mono ?_
          clear hcall
          rintro e w5 ⟨rfl, h5⟩
          subst w5
          go_wp2_with (at_builtin; refine wpList_append_int rfl (.tmp 19) (.tmp 24) rfl wo.heap.size _ q _ rfl (HV.out.alloc _) z ⟨wr.heap.size, 0, none⟩ rfl (cell_new_at _ _ _ rfl) (by omega) (Nat.le_trans HBJ.out.size (by simp)) ?_)
          intro g cap w6 hV6 hb6 _ _
          have HV6 := Lib.hid (hV6.congr (f' := costF m a b c r) fun j hj => by
            unfold upd
            by_cases e : j = q
            · rw [if_pos e, e]; exact HZ.out.symm
            · rw [if_neg e])
          have HB6 := Lib.hid ((HBJ.out.alloc HBJ.out.size _).trans hb6)
          clear hV6 hb6
          go_wp2_with fail
          go_roundw
          case rel => exact ⟨q + 1, by omega, by go_num, HV6.out, HB6.out⟩
          case measure => simp [intOf]; omega
        · obtain rfl : q = n := by omega
          obtain ⟨g, cg, rfl, hg, hrow⟩ := HV.out.row h1
          have HG := Lib.hid hg
          have HROW := Lib.hid hrow
          clear hg hrow
          go_wp2_with (at_builtin; refine wpList_append_tab rfl (.tmp 26) (.tmp 28) rfl wo w.heap.size _ r q (costF m a b c) rfl HT.out (HBJ.out.alloc HBJ.out.size _) g cg HG.out (HROW.out.alloc _) _ rfl (cell_new_at _ _ _ rfl) (by omega) HB.out.size ?_)
          intro v2 w2 hT2 hb2
          have HT2 := Lib.hid hT2
          have HB2 : Hid (Below w.heap.size w w2) := (HB.out.trans (((HBJ.out.alloc HBJ.out.size _).mono HB.out.size))).trans hb2
          clear hT2 hb2
          go_wp2_with fail
          go_roundw
          case rel => exact ⟨r + 1, by omega, by go_num, HT2.out, HB2.out⟩
          case measure => simp [intOf]; omega
    · obtain rfl : r = n := by omega
      go_wp2_with fail
      go_ret
      exact ⟨_, rfl, HT.out, HB.out⟩

end Go.Proofs.YtminfghiejgieaaDoor

/- The walks of the reference's Repeat, StartOf, RoundOf, FarOf. -/
namespace Go.Proofs.YtminfghiejgieaaDoor
open Go.RowKit
set_option linter.unusedVariables false

set_option maxRecDepth 100000 in
set_option maxHeartbeats 1000000 in
theorem refRepeat_walk (z : Int) (n : Nat) (x : Int) (hx : x = (n : Int)) (w : World) (hn : n ≤ 1000000) :
    Calls Tryd.prog 46 #[.int .i64 z, .int .i64 x] w fun e w' => ∃ v, e = .returned v ∧ OwnV w' w.heap.size v n (fun _ => z) ∧ Below w.heap.size w w' := by
  subst hx
  have hn' : (n : Int) ≤ 1000000 := by omega
  go_enter Tryd.func46, Tryd.ntmps46
  go_wp2_with fail
  go_loopw [5, 6] (fun v i wr => ∃ q : Nat, q ≤ n ∧ i = .int .i64 q ∧ OwnV wr w.heap.size v q (fun _ => z) ∧ Below w.heap.size w wr) (fun _ i _ => n - (intOf i).toNat)
  case atStart => exact ⟨0, by omega, rfl, OwnV.nil _ _ _, Below.refl _ _⟩
  case round =>
    obtain ⟨q, hq, rfl, hT, hb⟩ := hrel
    have HT := Lib.hid hT
    have HB := Lib.hid hb
    clear hT hb
    by_cases hlt : q < n
    · have hlt' : (q : Int) < n := by omega
      go_wp2_with (at_builtin; refine wpList_append_int rfl (.tmp 12) (.tmp 14) rfl w.heap.size _ q _ rfl (HT.out.alloc _) z ⟨wr.heap.size, 0, none⟩ rfl (cell_new_at _ _ _ rfl) (by omega) (by have := HB.out.size; simp; omega) ?_)
      intro g cap w6 hV6 hb6 _ _
      have HV6 := Lib.hid (hV6.congr (f' := fun _ => z) fun j hj => by
        unfold upd
        split <;> rfl)
      have HB6 := Lib.hid ((HB.out.alloc HB.out.size _).trans hb6)
      clear hV6 hb6
      go_wp2_with fail
      go_roundw
      case rel => exact ⟨q + 1, by omega, by go_num, HV6.out, HB6.out⟩
      case measure => simp [intOf]; omega
    · obtain rfl : q = n := by omega
      go_wp2_with fail
      go_ret
      exact ⟨_, rfl, HT.out, HB.out⟩

set_option maxRecDepth 100000 in
set_option maxHeartbeats 1000000 in
theorem startOf_walk (n t : Nat) (x y : Int) (hx : x = (n : Int)) (hy : y = (t : Int)) (w : World) (ht : t < n) (hn : n ≤ 1000000) :
    Calls Tryd.prog 45 #[.int .i64 x, .int .i64 y] w fun e w' => ∃ g c, e = .returned (.slice (some ⟨g, 0, none⟩) n c) ∧ w.heap.size ≤ g ∧ RowP w' g 3 n (fun i => .int .i64 (startF t i)) ∧ Below w.heap.size w w' := by
  subst hx
  subst hy
  have ht' : (t : Int) < n := by omega
  have hn' : (n : Int) ≤ 1000000 := by omega
  go_enter Tryd.func45, Tryd.ntmps45
  go_wp2_with fail
  have hcall := refRepeat_walk 16 n n rfl w hn
  refine hcall.mono ?_
  clear hcall
  rintro e w1 ⟨v1, rfl, hV, hb1⟩
  obtain ⟨g, c, rfl, hg, hrow⟩ := hV.row (by omega)
  have hc := hrow.cell ht
  have hf := hrow.frozen t
  have HR := Lib.hid ((hrow.set t (.int .i64 0)).congr (f' := fun i => .int .i64 (startF t i)) fun i hi => by
    unfold upd startF
    by_cases e : i = t
    · rw [if_pos e, if_pos e]
    · rw [if_neg e, if_neg e])
  have HB := Lib.hid (hb1.setCell (p := ⟨g, t, none⟩) hg (.int .i64 0))
  have HG := Lib.hid hg
  clear hV hb1 hg hrow
  go_wp2_with fail
  go_ret
  exact ⟨g, c, rfl, HG.out, HR.out, HB.out⟩

/-- What a node thinks, of the first q nodes. -/
def refR (K : Nat → Nat → Int) (d : Nat → Int) (i : Nat) : Nat → Int
  | 0 => 16
  | q + 1 => if q ≠ i ∧ K i q < 16 then min (refR K d i q) (min (K i q + d q) 16) else refR K d i q

theorem refR_yes {K : Nat → Nat → Int} {d : Nat → Int} {i q : Nat} (h1 : q ≠ i) (h2 : K i q < 16) : refR K d i (q + 1) = min (refR K d i q) (min (K i q + d q) 16) := if_pos ⟨h1, h2⟩
theorem refR_no {K : Nat → Nat → Int} {d : Nat → Int} {i q : Nat} (h : q = i ∨ ¬ K i q < 16) : refR K d i (q + 1) = refR K d i q := if_neg fun ⟨h1, h2⟩ => h.elim h1 fun h => h h2
theorem refR_le {K : Nat → Nat → Int} {d : Nat → Int} {i : Nat} : ∀ q, refR K d i q ≤ 16
  | 0 => Int.le_refl _
  | q + 1 => by
    have ih := refR_le (K := K) (d := d) (i := i) q
    unfold refR
    split <;> omega
theorem refR_low {K : Nat → Nat → Int} {d : Nat → Int} {i k : Nat} (h1 : k ≠ i) (h2 : K i k < 16) : ∀ q, k < q → refR K d i q ≤ K i k + d k
  | 0, h => absurd h (by omega)
  | q + 1, h => by
    by_cases e : k = q
    · subst e
      rw [refR_yes h1 h2]
      omega
    · have ih := refR_low (d := d) h1 h2 q (by omega)
      unfold refR
      split <;> omega
theorem refR_is {K : Nat → Nat → Int} {d : Nat → Int} {i : Nat} : ∀ q, refR K d i q = 16 ∨ ∃ k, k < q ∧ k ≠ i ∧ K i k < 16 ∧ refR K d i q = K i k + d k
  | 0 => .inl rfl
  | q + 1 => by
    have ih := refR_is (K := K) (d := d) (i := i) q
    have ih' : refR K d i q = 16 ∨ ∃ k, k < q + 1 ∧ k ≠ i ∧ K i k < 16 ∧ refR K d i q = K i k + d k := by
      rcases ih with h | ⟨k, hk, h⟩
      · exact .inl h
      · exact .inr ⟨k, by omega, h⟩
    by_cases h : q ≠ i ∧ K i q < 16
    · rw [refR_yes h.1 h.2]
      rcases Int.le_total (K i q + d q) 16 with h16 | h16
      · rw [Int.min_eq_left h16]
        rcases Int.le_total (refR K d i q) (K i q + d q) with h2 | h2
        · rw [Int.min_eq_left h2]; exact ih'
        · rw [Int.min_eq_right h2]; exact .inr ⟨q, by omega, h.1, h.2, rfl⟩
      · rw [Int.min_eq_right h16, Int.min_eq_left (refR_le q)]; exact ih'
    · rw [show refR K d i (q + 1) = refR K d i q from if_neg h]; exact ih'

/-- The reference's round is the program's. -/
theorem ref_round {n m t i : Nat} {a b c d : Nat → Int} (hr : Right n m a b c) (hd : RangedV n d) (hi : i < n) : (if i = t then 0 else refR (costF m a b c) d i n) = roundTo t a b c d m i := by
  obtain ⟨h1, h2, h3⟩ := roundTo_round (t := t) (d := d) hr i hi
  have hR := (roundTo_round (t := t) hr).ranged (edge_good hr) hd i hi
  unfold startF at h1 h3
  by_cases e : i = t
  · rw [if_pos e] at h1 ⊢
    omega
  · rw [if_neg e] at h1 h3 ⊢
    refine Int.le_antisymm ?_ ?_
    · rcases h3 with h3 | ⟨v, k, he, h3⟩
      · rw [h3]; exact refR_le n
      · rw [h3]
        obtain ⟨-, hv, hne, -, h15⟩ := he.ok hr
        have ek : costF m a b c i v = k := costV_edge hr he
        rw [← ek]
        exact refR_low (fun e => hne e.symm) (by omega) n hv
    · rcases refR_is (K := costF m a b c) (d := d) (i := i) n with h | ⟨k, hk, hne, hlt, h⟩
      · rw [h]; exact h1
      · rw [h]
        exact h2 k _ (by
          rcases costV_cases hr i k with ⟨e, -⟩ | ⟨-, e, -⟩ | ⟨-, he⟩
          · exact absurd e.symm hne
          · have : costF m a b c i k = 16 := e
            omega
          · exact he)

attribute [local go_sem high] run_min_pair

set_option maxRecDepth 100000 in
set_option maxHeartbeats 2000000 in
theorem roundOf_walk (n t : Nat) (x y : Int) (hx : x = (n : Int)) (hy : y = (t : Int)) (A D : Option Addr) (m cp cd : Nat) (a b c d : Nat → Int) (w : World) (hl : Lnk w A m a b c) (hd : Vec w D n d) (hm : m ≤ 9223372036854775807) (h1 : 1 ≤ n) (h8 : n ≤ 8) (hr : Right n m a b c) (hR : RangedV n d) (ht : t < n) :
    Calls Tryd.prog 56 #[.int .i64 x, .slice A m cp, .int .i64 y, .slice D n cd] w fun e w' => ∃ g cg, e = .returned (.slice (some ⟨g, 0, none⟩) n cg) ∧ w.heap.size ≤ g ∧ RowP w' g 3 n (fun i => .int .i64 (roundTo t a b c d m i)) ∧ Below w.heap.size w w' := by
  subst hx
  subst hy
  have h8' : (n : Int) ≤ 8 := by omega
  have HL := Lib.hid hl
  have HD := Lib.hid hd
  have HR := Lib.hid hr
  have HV := Lib.hid hR
  clear hl hd hr hR
  go_enter Tryd.func56, Tryd.ntmps56
  go_wp2_with fail
  go_loopw [9, 10] (fun v i wr => ∃ r : Nat, r ≤ n ∧ i = .int .i64 r ∧ OwnV wr w.heap.size v r (roundTo t a b c d m) ∧ Below w.heap.size w wr) (fun _ i _ => n - (intOf i).toNat)
  case atStart => exact ⟨0, by omega, rfl, OwnV.nil _ _ _, Below.refl _ _⟩
  case round =>
    obtain ⟨r, hrn, rfl, hT, hb⟩ := hrel
    obtain ⟨wo, hwo⟩ : ∃ wo, wo = wr := ⟨_, rfl⟩
    subst hwo
    have HT := Lib.hid hT
    have HB := Lib.hid hb
    clear hT hb
    by_cases hlt : r < n
    · have hlt' : (r : Int) < n := by omega
      go_wp2_with fail
      go_loopw [11, 12] (fun v i wj => ∃ q : Nat, q ≤ n ∧ i = .int .i64 q ∧ (∃ z, v = .int .i64 z ∧ Hid (refR (costF m a b c) d r q = z) ∧ z ≤ 16) ∧ ∃ N, wj = wo.drewN N) (fun _ i _ => n - (intOf i).toNat)
      case atStart => exact ⟨0, by omega, rfl, ⟨16, rfl, Lib.hid rfl, by omega⟩, 0, rfl⟩
      case round =>
        obtain ⟨q, hq, rfl, ⟨z, rfl, hz, hz16⟩, N, rfl⟩ := hrel
        have HZ := hz
        clear hz
        by_cases hqn : q < n
        · have hqn' : (q : Int) < n := by omega
          obtain ⟨ad, rfl, hadb, hc0⟩ := (HD.out.keep HB.out) q hqn
          obtain ⟨u, hu⟩ : ∃ u, d q = u := ⟨_, rfl⟩
          have hur := HV.out q hqn
          rw [hu] at hc0 hur
          obtain ⟨hu0, hu1⟩ := hur
          obtain ⟨k, hk⟩ : ∃ k, costV m a b c r q = k := ⟨_, rfl⟩
          have hkr := costV_ranged HR.out r q
          rw [hk] at hkr
          obtain ⟨hk0, hk1⟩ := hkr
          have HK := Lib.hid hk
          have HU := Lib.hid hu
          clear hk hu
          by_cases hqr : q = r
          · have hdn : ((q : Int) != r) = false := by simp [hqr]
            have hdn' : (q != r) = false := by simp [hqr]
            have HZ1 : Hid (refR (costF m a b c) d r (q + 1) = z) := by rw [refR_no (.inl hqr)]; exact HZ.out
            clear hqr
            go_wp2_with fail
            go_roundw
            case rel => exact ⟨q + 1, by omega, by go_num, ⟨z, rfl, HZ1, hz16⟩, N, rfl⟩
            case measure => simp [intOf]; omega
          · have hdb : ((q : Int) == r) = false := beq_false_of_ne (by omega)
            have hdb' : (q == r) = false := beq_false_of_ne hqr
            have hdn : ((q : Int) != r) = true := by simp; omega
            have hdn' : (q != r) = true := by simp; omega
            have HQR := Lib.hid hqr
            clear hqr
            by_cases h16 : k < 16
            · have HZ1 : Hid (refR (costF m a b c) d r (q + 1) = min z (min (k + u) 16)) := by
                have hh : costF m a b c r q < 16 := by show costV m a b c r q < 16; rw [HK.out]; exact h16
                rw [refR_yes HQR.out hh, HZ.out, HU.out]
                show min z (min (costV m a b c r q + u) 16) = _
                rw [HK.out]
              go_wp2_with fail
              refine (costOf_walk (A) m cp a b c r q _ ((HL.out.keep HB.out).drewN N) hm k HK.out).mono ?_
              rintro e w6 ⟨rfl, h6⟩
              subst w6
              go_wp2_with fail
              go_quiet ((first | (go_at_call 55; exact quiet_adds ((costOf_walk A m cp a b c r q _ ((HL.out.keep HB.out).drewN _) hm k HK.out).mono fun _ _ h => ⟨h.1, 0, h.2⟩)) | (go_at_call 49; exact quiet_adds ((plus_walk k u _ hk0 hk1 hu0 hu1).mono fun _ _ h => ⟨h.1, 0, h.2⟩))))
              go_wp2_with fail
              go_roundw
              case rel => exact ⟨q + 1, by omega, by go_num, ⟨_, rfl, HZ1, by omega⟩, _, rfl⟩
              case measure => simp [intOf]; omega
            · have hd16 : decide (k < 16) = false := decide_eq_false h16
              have HZ1 : Hid (refR (costF m a b c) d r (q + 1) = z) := by
                have hh : ¬ costF m a b c r q < 16 := by show ¬ costV m a b c r q < 16; rw [HK.out]; exact h16
                rw [refR_no (.inr hh)]; exact HZ.out
              clear h16
              go_wp2_with fail
              refine (costOf_walk (A) m cp a b c r q _ ((HL.out.keep HB.out).drewN N) hm k HK.out).mono ?_
              rintro e w6 ⟨rfl, h6⟩
              subst w6
              go_wp2_with fail
              go_roundw
              case rel => exact ⟨q + 1, by omega, by go_num, ⟨z, rfl, HZ1, hz16⟩, N, rfl⟩
              case measure => simp [intOf]; omega
        · obtain rfl : n = q := by omega
          have HE := Lib.hid (ref_round (t := t) HR.out HV.out hlt)
          clear hqn hq
          by_cases hrt : r = t
          · have hdb : ((r : Int) == t) = true := by rw [beq_iff_eq]; omega
            have hdb' : (r == t) = true := by rw [beq_iff_eq]; exact hrt
            have HE0 : Hid (0 = roundTo t a b c d m r) := by have := HE.out; rw [if_pos hrt] at this; exact this
            clear hrt HE
            go_wp2_with (at_builtin; refine wpList_append_int rfl (.tmp 47) (.tmp 49) rfl w.heap.size _ r _ rfl ((HT.out.alloc _).drewN N) 0 ⟨wo.heap.size, 0, none⟩ rfl (cell_new_at wo _ _ rfl) (by omega) (by have := HB.out.size; simp; omega) ?_)
            intro g cap w6 hV6 hb6 _ _
            have HV6 := Lib.hid (hV6.congr (f' := roundTo t a b c d m) fun j hj => by
              unfold upd
              by_cases e : j = r
              · rw [if_pos e, e]; exact HE0.out
              · rw [if_neg e])
            have HB6 := Lib.hid (Below.trans (below_drewN (HB.out.alloc HB.out.size _) N) hb6)
            clear hV6 hb6
            go_wp2_with fail
            go_roundw
            case rel => exact ⟨r + 1, by omega, by go_num, HV6.out, HB6.out⟩
            case measure => simp [intOf]; omega
          · have hdb : ((r : Int) == t) = false := beq_false_of_ne (by omega)
            have hdb' : (r == t) = false := beq_false_of_ne hrt
            have HE0 : Hid (z = roundTo t a b c d m r) := by have := HE.out; rw [if_neg hrt, HZ.out] at this; exact this
            clear hrt HE
            go_wp2_with (at_builtin; refine wpList_append_int rfl (.tmp 47) (.tmp 49) rfl w.heap.size _ r _ rfl ((HT.out.alloc _).drewN N) z ⟨wo.heap.size, 0, none⟩ rfl (cell_new_at wo _ _ rfl) (by omega) (by have := HB.out.size; simp; omega) ?_)
            intro g cap w6 hV6 hb6 _ _
            have HV6 := Lib.hid (hV6.congr (f' := roundTo t a b c d m) fun j hj => by
              unfold upd
              by_cases e : j = r
              · rw [if_pos e, e]; exact HE0.out
              · rw [if_neg e])
            have HB6 := Lib.hid (Below.trans (below_drewN (HB.out.alloc HB.out.size _) N) hb6)
            clear hV6 hb6
            go_wp2_with fail
            go_roundw
            case rel => exact ⟨r + 1, by omega, by go_num, HV6.out, HB6.out⟩
            case measure => simp [intOf]; omega
    · obtain rfl : n = r := by omega
      obtain ⟨g, cg, rfl, hg, hrow⟩ := HT.out.row h1
      have HG := Lib.hid hg
      have HROW := Lib.hid hrow
      clear hg hrow
      go_wp2_with fail
      go_ret
      exact ⟨g, cg, rfl, HG.out, HROW.out, HB.out⟩

set_option maxRecDepth 100000 in
set_option maxHeartbeats 2000000 in
theorem farOf_walk (n t : Nat) (x y : Int) (hx : x = (n : Int)) (hy : y = (t : Int)) (A : Option Addr) (m cp : Nat) (a b c : Nat → Int) (w : World) (hl : Lnk w A m a b c) (hm : m ≤ 9223372036854775807) (h1 : 1 ≤ n) (h8 : n ≤ 8) (hr : Right n m a b c) (ht : t < n) :
    Calls Tryd.prog 36 #[.int .i64 x, .slice A m cp, .int .i64 y] w fun e w' => ∃ g cg, e = .returned (.slice (some ⟨g, 0, none⟩) n cg) ∧ w.heap.size ≤ g ∧ RowP w' g 3 n (fun i => .int .i64 (endF t a b c m i)) ∧ Below w.heap.size w w' := by
  subst hx
  subst hy
  have h8' : (n : Int) ≤ 8 := by omega
  have HL := Lib.hid hl
  have HR := Lib.hid hr
  clear hl hr
  go_enter Tryd.func36, Tryd.ntmps36
  go_wp2_with fail
  have hcall := startOf_walk n t n t rfl rfl w ht (by omega)
  refine hcall.mono ?_
  clear hcall
  rintro e w1 ⟨g1, c1, rfl, hg1, hrow1, hb1⟩
  have HROW := Lib.hid hrow1
  have HG1 := Lib.hid hg1
  have HB1 := Lib.hid hb1
  clear hg1 hrow1 hb1
  go_wp2_with fail
  go_loopw [7, 8] (fun v i wr => ∃ r : Nat, r ≤ n ∧ i = .int .i64 r ∧ (∃ g cg, v = .slice (some ⟨g, 0, none⟩) n cg ∧ w.heap.size ≤ g ∧ RowP wr g 3 n (fun i => .int .i64 (rounds t a b c m (startF t) r i))) ∧ Below w.heap.size w wr) (fun _ i _ => n - (intOf i).toNat)
  case atStart => exact ⟨0, by omega, rfl, ⟨g1, c1, rfl, HG1.out, HROW.out⟩, HB1.out⟩
  case round =>
    obtain ⟨r, hrn, rfl, ⟨g, cg, rfl, hg, hrow⟩, hb⟩ := hrel
    clear HROW HG1 HB1
    have HROW := Lib.hid hrow
    have HG := Lib.hid hg
    have HB := Lib.hid hb
    clear hg hrow hb
    by_cases hlt : r < n
    · have hlt' : (r : Int) < n := by omega
      go_wp2_with fail
      have hcall := roundOf_walk n t n t rfl rfl A (some ⟨g, 0, none⟩) m cp cg a b c (rounds t a b c m (startF t) r) wr (HL.out.keep HB.out) HROW.out.vec hm h1 h8 HR.out (rounds_ranged HR.out (startF_ranged t n) r) ht
      refine hcall.mono ?_
      clear hcall
      rintro e w2 ⟨g2, c2, rfl, hg2, hrow2, hb2⟩
      have HROW2 := Lib.hid hrow2
      have HG2 := Lib.hid (Nat.le_trans HB.out.size hg2)
      have HB2 := Lib.hid (keep HB.out hb2)
      clear hg2 hrow2 hb2
      go_wp2_with fail
      go_roundw
      case rel => exact ⟨r + 1, by omega, by go_num, ⟨g2, c2, rfl, HG2.out, HROW2.out⟩, HB2.out⟩
      case measure => simp [intOf]; omega
    · obtain rfl : n = r := by omega
      have HE : Hid (RowP wr g 3 n (fun i => .int .i64 (endF t a b c m i))) := HROW.out.congr fun i hi => by rw [end_fewer HR.out ht (by omega) i hi]
      go_wp2_with fail
      go_ret
      exact ⟨g, cg, rfl, HG.out, HE.out, HB.out⟩

end Go.Proofs.YtminfghiejgieaaDoor

/- The walk of the reference's NewNet. Printed by gen_qnew.py. -/
namespace Go.Proofs.YtminfghiejgieaaDoor
open Go.RowKit
set_option linter.unusedVariables false

theorem wp_call_fns {oo : Oper} {ac : Act} {w : World} {K : Act → World → Prop} {Q : Exit → Act → World → Prop} {fn : FuncId} {F : Func} (xs : Array Operand) {vs : Array Value} {ts : Array TypeId}
    (ho : oo.op = .call { callee := .value (.func fn), args := xs, argTypes := ts }) (hf : Tryd.prog.funcs[fn]? = some F) (hname : (F.name == "runtime.NumGoroutine") = false)
    (hb : F.body.isNone = false) (hx : xs.map ac.eval = vs) (h : Calls Tryd.prog fn vs w fun e w' => ∃ r, e = .returned r ∧ K (ac.put oo.dst r) w') : Oper.wp Tryd.prog oo ac w K Q := by
  have hrun : (execOp ac.eval oo).run Tryd.prog w = .ok (.enter fn vs) w := by
    have hfn : ac.eval (.func fn) = .func (.func fn) #[] #[] := rfl
    unfold execOp
    simp [ho, resolve, invoke, Deferred.ofValue, hfn, hx]
    exact run_callFunc_go hf hname hb _ w
  unfold Oper.wp
  rw [hrun, Oper.upon_enter]
  refine h.mono ?_
  rintro e w' ⟨r, rfl, hk⟩
  exact hk

theorem wp_append_tab {w : World} {oo : Oper} {ac : Act} {K : Act → World → Prop} {Q : Exit → Act → World → Prop} (s x : Operand)
    (ho : oo.op = .call { callee := .builtin .append, args := #[s, x], argTypes := #[34, 34] })
    (w0 : World) (base : Nat) (v : Value) (i n : Nat) (f : Nat → Nat → Int) (hs : ac.eval s = v) (hT : Tab w0 base v i n f) (hb0 : Below w0.heap.size w0 w)
    (b c : Nat) (hbn : w0.heap.size ≤ b) (hrow : RowP w b 3 n (fun j => .int .i64 (f i j))) (ad : Addr) (hx : ac.eval x = .slice (some ad) 1 1)
    (hnew : ∀ j u, [Value.slice (some ⟨b, 0, none⟩) n c][j]? = some u → w.cell? (ad.add j) = some u) (hi : i ≤ 1000) (hbase : base ≤ w0.heap.size)
    (h : ∀ g cap w', Tab w' base (.slice (some ⟨g, 0, none⟩) (i + 1) cap) (i + 1) n f → Below base w w' → K (ac.put oo.dst (.slice (some ⟨g, 0, none⟩) (i + 1) cap)) w') : Oper.wp Tryd.prog oo ac w K Q := by
  obtain ⟨B, C, hown, hr, hinj⟩ := hT
  obtain ⟨i0, hi0, hz0, hz1, hz2⟩ := info_parts infoRow
  have hown' := ownsRow_same hown (fun b _ hlt => hb0.block b hlt)
  have hbase' : base ≤ w.heap.size := Nat.le_trans hbase hb0.size
  refine wp_append_lies w s x 34 ho base 24 i0 _ 1 24 Tryd.underlying34 hi0 hz0 hz1 hz2 rfl (by decide) v i _ hs hown' ad 1 1 [Value.slice (some ⟨b, 0, none⟩) n c] hx rfl hnew (by simp [Value.oneCell']) (by omega) (by unfold maxLen; omega) (by omega) hbase' _ rfl ?_
  intro g1 cap1 w' ho1 hg1 _ _
  have hne : ∀ k t0 m F, RowP w k t0 m F → t0 = 3 → w'.heap[k]? = w.heap[k]? := by
    rintro k t0 m F hk rfl
    refine hg1.block k hk.lt fun e => ?_
    obtain ⟨cs, hcs, _⟩ := hk
    rcases hown'.2 with ⟨hv, _⟩ | ⟨g, cap, cur, hv, hb, hg, hrest⟩
    · rw [hv] at e; cases e
    · rw [hv] at e
      have e' : k = g := by simpa [Value.ownBlock] using e
      subst e'
      rw [hcs] at hg
      simp at hg
  refine h g1 cap1 w' ⟨fun r => if r = i then b else B r, fun r => if r = i then c else C r, ?_, fun r hlt => ?_, fun r q hrl hq e => ?_⟩ ?_
  · rw [List.range_succ, List.map_append]
    have e1 : (List.range i).map (fun r => Value.slice (some ⟨if r = i then b else B r, 0, none⟩) n (if r = i then c else C r)) = (List.range i).map fun r => .slice (some ⟨B r, 0, none⟩) n (C r) := by
      apply List.map_congr_left
      intro j hj
      have := List.mem_range.1 hj
      rw [if_neg (by omega), if_neg (by omega)]
    rw [e1]
    simpa using ho1
  · by_cases hri : r = i
    · subst hri
      simp only [if_true]
      exact ⟨by omega, hrow.of_block (hne b _ _ _ hrow rfl)⟩
    · simp only [if_neg hri]
      obtain ⟨h1, h2⟩ := hr r (by omega)
      have h3 := h2.of_block (hb0.block _ h2.lt)
      exact ⟨h1, h3.of_block (hne _ _ _ _ h3 rfl)⟩
  · simp only at e
    by_cases hri : r = i <;> by_cases hqi : q = i
    · omega
    · rw [if_pos hri, if_neg hqi] at e
      have := (hr q (by omega)).2.lt
      omega
    · rw [if_neg hri, if_pos hqi] at e
      have := (hr r (by omega)).2.lt
      omega
    · rw [if_neg hri, if_neg hqi] at e
      exact hinj r q (by omega) (by omega) e
  · refine ⟨hg1.os, hg1.tape, hg1.output, hg1.size, fun k hk => hg1.block k (by omega) fun e => ?_⟩
    rcases hown'.2 with ⟨hv, _⟩ | ⟨g, cap, cur, hv, hb, hg, hrest⟩
    · rw [hv] at e; cases e
    · rw [hv] at e
      have e' : k = g := by simpa [Value.ownBlock] using e
      omega

theorem Tab.form {w : World} {base i n : Nat} {v : Value} {f : Nat → Nat → Int} (h : Tab w base v i n f) : ∃ A c, v = .slice A i c ∧ ∀ g, v.ownBlock = some g → base ≤ g := by
  obtain ⟨B, C, h1, -, -⟩ := h
  rcases h1.2 with ⟨hv, h0⟩ | ⟨g, cap, cur, hv, hb, -⟩
  · exact ⟨none, 0, by rw [hv, h0], fun g hg => by rw [hv] at hg; cases hg⟩
  · exact ⟨_, cap, hv, fun g' hg => by
      rw [hv] at hg
      have e : g = g' := by simpa [Value.ownBlock] using hg
      omega⟩

def NewS (p : Nat) (Av : Option Addr) (i qv : Nat) (w : World) : Prop := w.cell? ⟨p, 3, none⟩ = some (.slice Av i qv) ∧ w.frozen? ⟨p, 3, none⟩ = false
theorem NewS.same {p : Nat} {Av : Option Addr} {i qv : Nat} {w w' : World} (h : NewS p Av i qv w) (e : w'.heap[p]? = w.heap[p]?) : NewS p Av i qv w' := ⟨(World.cell?_of_block e).trans h.1, (World.frozen?_of_block e).trans h.2⟩

set_option maxRecDepth 100000 in
set_option maxHeartbeats 4000000 in
theorem qNew (n t : Nat) (A : Option Addr) (m cp : Nat) (a b c : Nat → Int) (w : World) (hl : Lnk w A m a b c) (hm : m ≤ 9223372036854775807) (h1 : 1 ≤ n) (h8 : n ≤ 8) (ht : t < n) :
    Calls Tryd.prog 10 #[.int .i64 n, .slice A m cp, .int .i64 t] w fun e' w' => ∃ v', e' = .returned (.agg v') ∧ QR (fun b => w.heap.size ≤ b) w' v' n t (costF m a b c) (fun _ _ => 16) (startF t) (startF t) [] ∧ Below w.heap.size w w' := by
  have HL := Lib.hid hl
  clear hl
  have h8' : (n : Int) ≤ 8 := by omega
  have hb1 : Below w.heap.size w (w.alloc (.cells #[.int .i64 0, .slice none 0 0, .slice none 0 0, .slice none 0 0, .slice none 0 0, .slice none 0 0] 37)) := (Below.refl _ _).alloc (Nat.le_refl _) _
  have HB1 := Lib.hid hb1
  have HR1 := Lib.hid (Blk.new w 37 #[.int .i64 0, .slice none 0 0, .slice none 0 0, .slice none 0 0, .slice none 0 0, .slice none 0 0])
  have hz1 : (w.alloc (.cells #[.int .i64 0, .slice none 0 0, .slice none 0 0, .slice none 0 0, .slice none 0 0, .slice none 0 0] 37)).heap.size = w.heap.size + 1 := by simp
  have HZ1 := Lib.hid hz1
  clear hb1 hz1
  go_enter Tryd.func10, Tryd.ntmps10
  go_wp2_with fail
  refine (costsOf_walk n n rfl A m cp a b c _ (HL.out.keep HB1.out) h1 h8 hm).mono ?_
  rintro e2 w2 ⟨v2, rfl, hT2, hb2⟩
  obtain ⟨gC, cC, BC, CC, rfl, hC⟩ := TabX.of_tab h1 hT2
  rw [HZ1.out] at hC hb2
  have hz2 := hb2.size
  rw [HZ1.out] at hz2
  have HC := Lib.hid hC
  have HB2 := Lib.hid (HB1.out.trans (hb2.mono (by omega)))
  have HR2 : Hid (Blk w2 w.heap.size 37 _) := Lib.hid ((hb2.block _ (by omega)).trans HR1.out)
  clear hT2 hC hb2 HR1 HB1 HZ1
  go_wp2_with fail
  refine (startOf_walk n t n t rfl rfl w2 ht (by omega)).mono ?_
  rintro e3 w3 ⟨gF, cF, rfl, hgF, hrF, hb3⟩
  have hz3 := hb3.size
  have HF := Lib.hid hrF
  have HC3 := Lib.hid (HC.out.below hb3 (Nat.le_refl _))
  have HB3 := Lib.hid (keep HB2.out hb3)
  have HR3 : Hid (Blk w3 w.heap.size 37 _) := Lib.hid ((hb3.block _ HR2.out.lt).trans HR2.out)
  clear hrF hb3 HC HB2 HR2
  go_wp2_with fail
  refine (startOf_walk n t n t rfl rfl w3 ht (by omega)).mono ?_
  rintro e4 w4 ⟨gL, cL, rfl, hgL, hrL, hb4⟩
  have hz4 := hb4.size
  have HG := Lib.hid hrL
  have HF4 := Lib.hid (HF.out.below hb4 HF.out.lt)
  have HC4 := Lib.hid (HC3.out.below hb4 hz3)
  have HB4 := Lib.hid (keep HB3.out hb4)
  have HR4 : Hid (Blk w4 w.heap.size 37 _) := Lib.hid ((hb4.block _ HR3.out.lt).trans HR3.out)
  have hgL4 := HG.out.lt
  have hgF3 := HF.out.lt
  clear hrL hb4 HC3 HB3 HR3 HF
  go_wp2_with fail
  have hc5 := HC4.out.below ((Below.refl _ _).alloc (Nat.le_refl _) (.cells #[.int .i64 t, .slice (some ⟨gC, 0, none⟩) n cC, .slice none 0 0, .slice none 0 0, .slice (some ⟨gF, 0, none⟩) n cF, .slice (some ⟨gL, 0, none⟩) n cL] 37)) (Nat.le_trans hz3 hz4)
  have hf5 := HF4.out.alloc (.cells #[.int .i64 t, .slice (some ⟨gC, 0, none⟩) n cC, .slice none 0 0, .slice none 0 0, .slice (some ⟨gF, 0, none⟩) n cF, .slice (some ⟨gL, 0, none⟩) n cL] 37)
  have hg5 := HG.out.alloc (.cells #[.int .i64 t, .slice (some ⟨gC, 0, none⟩) n cC, .slice none 0 0, .slice none 0 0, .slice (some ⟨gF, 0, none⟩) n cF, .slice (some ⟨gL, 0, none⟩) n cL] 37)
  have hr5 : Blk (w4.alloc (.cells #[.int .i64 t, .slice (some ⟨gC, 0, none⟩) n cC, .slice none 0 0, .slice none 0 0, .slice (some ⟨gF, 0, none⟩) n cF, .slice (some ⟨gL, 0, none⟩) n cL] 37)) w.heap.size 37 _ := HR4.out.alloc _
  have hp5 : Blk (w4.alloc (.cells #[.int .i64 t, .slice (some ⟨gC, 0, none⟩) n cC, .slice none 0 0, .slice none 0 0, .slice (some ⟨gF, 0, none⟩) n cF, .slice (some ⟨gL, 0, none⟩) n cL] 37)) w4.heap.size 37 _ := Blk.new _ _ _
  have hb5 : Below w.heap.size w (w4.alloc (.cells #[.int .i64 t, .slice (some ⟨gC, 0, none⟩) n cC, .slice none 0 0, .slice none 0 0, .slice (some ⟨gF, 0, none⟩) n cF, .slice (some ⟨gL, 0, none⟩) n cL] 37)) := HB4.out.alloc HB4.out.size _
  have hz5 : (w4.alloc (.cells #[.int .i64 t, .slice (some ⟨gC, 0, none⟩) n cC, .slice none 0 0, .slice none 0 0, .slice (some ⟨gF, 0, none⟩) n cF, .slice (some ⟨gL, 0, none⟩) n cL] 37)).heap.size = w4.heap.size + 1 := by simp
  obtain ⟨p7, hp7⟩ : ∃ p7, w4.heap.size = p7 := ⟨_, rfl⟩
  obtain ⟨w5, hw5⟩ : ∃ w5, (w4.alloc (.cells #[.int .i64 t, .slice (some ⟨gC, 0, none⟩) n cC, .slice none 0 0, .slice none 0 0, .slice (some ⟨gF, 0, none⟩) n cF, .slice (some ⟨gL, 0, none⟩) n cL] 37)) = w5 := ⟨_, rfl⟩
  rw [hw5] at hc5 hf5 hg5 hr5 hp5 hb5 hz5 ⊢
  rw [hp7] at hp5 hz5 hgL4 hz4 ⊢
  have HC5 := Lib.hid hc5
  have HF5 := Lib.hid hf5
  have HG5 := Lib.hid hg5
  have HR5 := Lib.hid hr5
  have HP5 := Lib.hid hp5
  have HB5 := Lib.hid hb5
  have hwp : w.heap.size + 1 ≤ p7 := by have := HB4.out.size; omega
  clear hc5 hf5 hg5 hr5 hp5 hb5 hw5 hp7 HC4 HF4 HG HR4 HB4 HL hm
  go_loopw [8] (fun q wr => ∃ i : Nat, i ≤ n ∧ q = .int .i64 i ∧ ∃ vH, Tab wr w5.heap.size vH i n (fun _ _ => 16) ∧ Blk wr p7 37 #[.int .i64 t, .slice (some ⟨gC, 0, none⟩) n cC, .slice none 0 0, vH, .slice (some ⟨gF, 0, none⟩) n cF, .slice (some ⟨gL, 0, none⟩) n cL] ∧ (∀ b, b < w5.heap.size → b ≠ p7 → wr.heap[b]? = w5.heap[b]?) ∧ Hid (w5.heap.size ≤ wr.heap.size) ∧ Below w.heap.size w wr) (fun q _ => n - (intOf q).toNat)
  case atStart => exact ⟨0, by omega, rfl, _, Tab.nil _ _ _ _, HP5.out, fun _ _ _ => rfl, Lib.hid (Nat.le_refl _), HB5.out⟩
  case round =>
    obtain ⟨i, hi, rfl, vH, hT, hp, hk, hsz, hb⟩ := hrel
    have HT := Lib.hid hT
    have HK := Lib.hid hk
    have HB := Lib.hid hb
    obtain ⟨Av, qv, rfl, hge⟩ := hT.form
    have HGE := Lib.hid hge
    have HP := Lib.hid hp
    have hpl := hp.lt
    clear hT hk hb hge hp
    by_cases hlt : i < n
    · have hlt' : (i : Int) < n := by omega
      go_wp2_with fail
      have HS0 : Hid (NewS p7 Av i qv wr.drew) := Lib.hid ⟨HP.out.cell 3, HP.out.frozen 3⟩
      refine wp_region_tail (NewS p7 Av i qv) 7 (by kernel_rfl) ?_
      refine wpTail_take (i := 0) (v := ?_) rfl (by kernel_rfl) (by kernel_rfl) (by kernel_rfl) (by kernel_rfl) (fun _ _ _ h => h) HS0.out ?_ rfl ?_
      rotate_left 1
      · intro w0 hS0
        obtain ⟨s1, s2⟩ := hS0
        go_simp
        try with_reducible rfl
      try simp only [Act.put, List.setIfInBounds_toArray]
      refine wpTail_take (i := 1) (v := ?_) rfl (by kernel_rfl) (by kernel_rfl) (by kernel_rfl) (by kernel_rfl) (fun _ _ _ h => h) HS0.out ?_ rfl ?_
      rotate_left 1
      · intro w0 hS0
        obtain ⟨s1, s2⟩ := hS0
        go_simp
        try with_reducible rfl
      try simp only [Act.put]
      refine wpTail_take (i := 2) (v := ?_) rfl (by kernel_rfl) (by kernel_rfl) (by kernel_rfl) (by kernel_rfl) (fun _ _ _ h => h) HS0.out ?_ rfl ?_
      rotate_left 1
      · intro w0 hS0
        obtain ⟨s1, s2⟩ := hS0
        go_simp
        try with_reducible rfl
      try simp only [Act.put]
      refine wpTail_step (i := 3) rfl (by kernel_rfl) (fun K hK => ?_)
      rw [if_pos (by rfl)]
      refine wp_call_fns #[.const (.int .i64 16), .tmp 27] rfl Tryd.func46 (by kernel_rfl) (by kernel_rfl) (vs := #[.int .i64 16, .int .i64 n]) (by kernel_rfl) ?_
      refine (refRepeat_walk 16 n n rfl wr.drew (by omega)).mono ?_
      rintro e6 w6 ⟨v6, rfl, hown6, hb6⟩
      obtain ⟨gr, cr, rfl, hgr, hrow⟩ := OwnV.row h1 hown6
      have HROW := Lib.hid hrow
      have HB6 := Lib.hid hb6
      have HS1 := Lib.hid (HS0.out.same (hb6.block p7 hpl))
      clear hown6 hrow hb6
      refine ⟨_, rfl, hK.out _ _ HS1.out ?_⟩
      clear hK K
      try simp only [Act.put]
      have hb7 : Below w6.heap.size w6 (w6.alloc (.cells #[.slice (some ⟨gr, 0, none⟩) n cr] 24)) := (Below.refl _ _).alloc (Nat.le_refl _) _
      have HB7 := Lib.hid hb7
      have HS2 := Lib.hid (HS1.out.same (hb7.block p7 (Nat.lt_of_lt_of_le hpl HB6.out.size)))
      clear hb7
      refine wpTail_step (i := 4) rfl (by kernel_rfl) (fun K hK => ?_)
      go_simp
      refine hK.out _ _ HS2.out ?_
      clear hK K
      try simp only [Act.put]
      refine wpTail_step (i := 5) rfl (by kernel_rfl) (fun K hK => ?_)
      rw [if_pos (by rfl)]
      refine wp_append_tab (.tmp 26) (.tmp 29) rfl wr.drew w5.heap.size _ i n (fun _ _ => 16) rfl HT.out (HB6.out.trans (HB7.out.mono HB6.out.size)) gr cr hgr (HROW.out.alloc _) ⟨w6.heap.size, 0, none⟩ rfl (cell_new_at w6 _ _ rfl) (by omega) hsz.out ?_
      intro g6 cap6 w8 hT8 hb8
      have hkeep : ∀ b, b < w5.heap.size → w8.heap[b]? = wr.heap[b]? := fun b hb => by
        have h2 := HB6.out.size
        have h3 := hsz.out
        have h4 : wr.drew.heap.size = wr.heap.size := rfl
        exact (hb8.block b hb).trans ((HB7.out.block b (by omega)).trans (HB6.out.block b (by omega)))
      have HS8 := Lib.hid (HS2.out.same (w' := w8) (hb8.block p7 (by omega)))
      have hp8 : Blk w8 p7 37 _ := (hkeep p7 (by omega)).trans HP.out
      have hz8 : w5.heap.size ≤ w8.heap.size := by
        have h2 := HB6.out.size
        have h3 := hsz.out
        have h4 : wr.drew.heap.size = wr.heap.size := rfl
        have h5 := hb8.size
        have h6 := HB7.out.size
        omega
      have hgne : g6 ≠ p7 := by
        obtain ⟨_, _, ev, hge8⟩ := hT8.form
        have := hge8 g6 rfl
        omega
      have hp9 := hp8.set_ 3 (.slice (some ⟨g6, 0, none⟩) (i + 1) cap6)
      simp at hp9
      have hT9 : Tab (w8.setCell ⟨p7, 3, none⟩ (.slice (some ⟨g6, 0, none⟩) (i + 1) cap6)) w5.heap.size (.slice (some ⟨g6, 0, none⟩) (i + 1) cap6) (i + 1) n (fun _ _ => 16) := hT8.same fun b hb _ => Below.heap_setCell _ _ _ _ (by show b ≠ p7; omega)
      have hk9 : ∀ b, b < w5.heap.size → b ≠ p7 → (w8.setCell ⟨p7, 3, none⟩ (.slice (some ⟨g6, 0, none⟩) (i + 1) cap6)).heap[b]? = w5.heap[b]? := fun b hb hne => (Below.heap_setCell _ _ _ _ (by show b ≠ p7; exact hne)).trans ((hkeep b hb).trans (HK.out b hb hne))
      have hb9 : Below w.heap.size w (w8.setCell ⟨p7, 3, none⟩ (.slice (some ⟨g6, 0, none⟩) (i + 1) cap6)) := by
        have h2 := HB6.out.size
        have h3 := HB.out.size
        have h4 : wr.drew.heap.size = wr.heap.size := rfl
        exact (((HB.out.drew.trans (HB6.out.mono (by omega))).trans (HB7.out.mono (by omega))).trans (hb8.mono (by omega))).setCell (by show w.heap.size ≤ p7; omega) _
      have hz9 : w5.heap.size ≤ (w8.setCell ⟨p7, 3, none⟩ (.slice (some ⟨g6, 0, none⟩) (i + 1) cap6)).heap.size := by simp [World.setCell]; exact hz8
      have HP9 := Lib.hid hp9
      have HT9 := Lib.hid hT9
      have HK9 := Lib.hid hk9
      have HB9 := Lib.hid hb9
      have HZ9 := Lib.hid hz9
      clear hT8 hb8 hkeep hp8 hz8 hgne hp9 hT9 hk9 hb9 hz9
      refine hK.out _ _ HS8.out ?_
      clear hK K
      try simp only [Act.put]
      refine wpTail_take (i := 6) (v := ?_) rfl (by kernel_rfl) (by kernel_rfl) (by kernel_rfl) (by kernel_rfl) (fun _ _ _ h => h) HS8.out ?_ rfl ?_
      rotate_left 1
      · intro w0 hS0
        obtain ⟨s1, s2⟩ := hS0
        go_simp
        try with_reducible rfl
      try simp only [Act.put]
      refine wpTail_last rfl (by kernel_rfl) (by kernel_rfl) (fun K hK => ?_)
      have s1 := HS8.out.1
      have s2 := HS8.out.2
      go_simp
      refine hK.out _ _ ?_
      clear hK K s1 s2 HS8 HS0 HS1 HS2
      go_wp2_with fail
      go_roundw
      case rel => exact ⟨i + 1, by omega, by go_num, _, HT9.out, HP9.out, HK9.out, HZ9, HB9.out⟩
      case measure => simp [intOf]; omega
    · have ek : n = i := by omega
      subst ek
      have hpr := HP.out
      have k0 : wr.cell? ⟨p7, 0, none⟩ = some (.int .i64 t) := hpr.cell 0
      have k1 : wr.cell? ⟨p7, 1, none⟩ = some (.slice (some ⟨gC, 0, none⟩) n cC) := hpr.cell 1
      have k2 : wr.cell? ⟨p7, 2, none⟩ = some (.slice none 0 0) := hpr.cell 2
      have k3 : wr.cell? ⟨p7, 3, none⟩ = some (.slice Av n qv) := hpr.cell 3
      have k4 : wr.cell? ⟨p7, 4, none⟩ = some (.slice (some ⟨gF, 0, none⟩) n cF) := hpr.cell 4
      have k5 : wr.cell? ⟨p7, 5, none⟩ = some (.slice (some ⟨gL, 0, none⟩) n cL) := hpr.cell 5
      have hr7 : Blk wr w.heap.size 37 _ := (HK.out _ (by omega) (by omega)).trans HR5.out
      have HR7 := Lib.hid hr7
      clear hpr hr7
      go_wp2_with (refine wpList_store_row rfl 37 (.tmp 6) (.tmp 32) rfl w.heap.size #[.int .i64 t, .slice (some ⟨gC, 0, none⟩) n cC, .slice none 0 0, .slice Av n qv, .slice (some ⟨gF, 0, none⟩) n cF, .slice (some ⟨gL, 0, none⟩) n cL] rfl rfl _ _ HR7.out (by kernel_rfl) rfl (by simp [Value.oneCell']) ?_)
      refine bodyPost_ret (results_cell_row rfl _ _ _ _ _ (0, 0) _ rfl (setRow_heap _ _ _ _ _ _ HR7.out) Tryd.underlying37 rfl (by kernel_rfl)) rfl ?_
      refine ⟨_, rfl, ?_, ?_⟩
      · obtain ⟨gH, cH, BH, CH, eH, hX⟩ := TabX.of_tab h1 HT.out
        have hc9 := HC5.out.same (w' := wr.setRow w.heap.size #[.int .i64 t, .slice (some ⟨gC, 0, none⟩) n cC, .slice none 0 0, .slice Av n qv, .slice (some ⟨gF, 0, none⟩) n cF, .slice (some ⟨gL, 0, none⟩) n cL]) fun b h1 h2 => (setRow_other _ w.heap.size b _ (by omega)).trans (HK.out b (by omega) (by omega))
        have hf9 := HF5.out.of_block (w' := wr.setRow w.heap.size #[.int .i64 t, .slice (some ⟨gC, 0, none⟩) n cC, .slice none 0 0, .slice Av n qv, .slice (some ⟨gF, 0, none⟩) n cF, .slice (some ⟨gL, 0, none⟩) n cL]) ((setRow_other _ w.heap.size gF _ (by omega)).trans (HK.out gF (by omega) (by omega)))
        have hg9 := HG5.out.of_block (w' := wr.setRow w.heap.size #[.int .i64 t, .slice (some ⟨gC, 0, none⟩) n cC, .slice none 0 0, .slice Av n qv, .slice (some ⟨gF, 0, none⟩) n cF, .slice (some ⟨gL, 0, none⟩) n cL]) ((setRow_other _ w.heap.size gL _ (by omega)).trans (HK.out gL (by omega) (by omega)))
        have hh9 := hX.same (w' := wr.setRow w.heap.size #[.int .i64 t, .slice (some ⟨gC, 0, none⟩) n cC, .slice none 0 0, .slice Av n qv, .slice (some ⟨gF, 0, none⟩) n cF, .slice (some ⟨gL, 0, none⟩) n cL]) fun b h1 h2 => setRow_other _ w.heap.size b _ (by omega)
        refine ⟨_, cC, none, 0, _, cH, _, cF, _, cL, by rw [eH]; rfl, hc9.matP fun b h _ => by show w.heap.size ≤ b; omega, fun i hi => absurd hi (by simp), fun _ => rfl, hh9.matP fun b h _ => by show w.heap.size ≤ b; omega, hf9.vecP (by show w.heap.size ≤ gF; omega), hg9.vecP (by show w.heap.size ≤ gL; omega)⟩
      · exact ⟨HB.out.os, HB.out.tape, HB.out.output, by rw [setRow_size]; exact HB.out.size, fun k hk => (setRow_other _ _ k _ (by omega)).trans (HB.out.block k hk)⟩

end Go.Proofs.YtminfghiejgieaaDoor

/- The walk of async's Waits. -/
namespace Go.Proofs.YtminfghiejgieaaDoor
open Go.RowKit
set_option linter.unusedVariables false

set_option maxRecDepth 100000 in
set_option maxHeartbeats 1000000 in
theorem asyncWaits (lab : Nat → List Nat) (A : AAd) (n t : Nat) (K : Nat → Nat → Int) (s : AS) (a b : Int) (w : World) (h : AN w lab A n t K s) (h8 : n ≤ 8) :
    Calls Tryd.prog 11 #[.pointer (some ⟨A.p, 0, none⟩), .int .i64 a, .int .i64 b] w fun e w' => e = .returned (if nearE n K a b = 0 then .tuple #[.int .i64 (s.q a.toNat b.toNat).length, .nilIface] else .tuple #[.int .i64 0, errNo (nearE n K a b)]) ∧ w' = w := by
  by_cases h0 : nearE n K a b = 0
  · have HC := Lib.hid (asyncNear_ok h h8 h0)
    rw [if_pos h0]
    obtain ⟨x, y, rfl, rfl, hx, hy, hne, hk⟩ := near_zero h0
    rw [show ((x : Int)).toNat = x by omega, show ((y : Int)).toNat = y by omega]
    have h8' : (n : Int) ≤ 8 := by omega
    have hx' : (x : Int) < n := by omega
    have hy' : (y : Int) < n := by omega
    have f2 := h.wayCell
    have r1 := h.way.cell hx
    have r2 := (h.wayr x hx).cell hy
    obtain ⟨Aq, cq, hv⟩ := (h.que x y hx hy).len
    rw [hv] at r2
    obtain ⟨L, hL⟩ : ∃ L, (s.q x y).length = L := ⟨_, rfl⟩
    rw [hL] at r2 ⊢
    clear h hv hL h0 hne hk
    go_enter Tryd.func11, Tryd.ntmps11
    go_wp2_with fail
    refine HC.out.mono ?_
    rintro e w1 ⟨rfl, h1⟩
    subst w1
    clear HC
    go_wp2_with fail
    go_ret2
    exact ⟨rfl, rfl⟩
  · have HC := Lib.hid (asyncNear_bad h h8 rfl h0)
    rw [if_neg h0]
    clear h
    obtain ⟨k, hk⟩ : ∃ k, nearE n K a b = k := ⟨_, rfl⟩
    rw [hk] at HC ⊢
    clear hk h0
    go_enter Tryd.func11, Tryd.ntmps11
    go_wp2_with fail
    refine HC.out.mono ?_
    rintro e w1 ⟨rfl, h1⟩
    subst w1
    clear HC
    go_wp2_with fail
    go_ret2
    exact ⟨rfl, rfl⟩

end Go.Proofs.YtminfghiejgieaaDoor

/- The net and the reference's net, side by side. -/
namespace Go.Proofs.YtminfghiejgieaaDoor
open Go.RowKit
set_option linter.unusedVariables false

structure QS (w : World) (lab : Nat → List Nat) (A : AAd) (p : Nat) (v : Array Value) (n t : Nat) (K : Nat → Nat → Int) (D e : Nat → Int) (s : AS) (h : Nat → Nat → Int) (f : Nat → Int) (W : WayL) : Prop where
  an : AN w lab A n t K s
  inv : AInv n t K D s
  blk : Blk w p 37 v
  lp : lab p = []
  qr : QR (fun b => lab b = [] ∧ b ≠ p) w v n t K h f e W

/-- Both think, heard and sent the same. -/
structure Syn (n : Nat) (s : AS) (h : Nat → Nat → Int) (f : Nat → Int) (W : WayL) : Prop where
  h : h = s.h
  f : f = s.f
  way : ∀ a b, s.q a b = onWay W a b
  mem : ∀ q, q ∈ W → q.1 < n ∧ q.2.1 < n

section
variable {w w' : World} {lab lab' : Nat → List Nat} {A A' : AAd} {p n t : Nat} {v v' : Array Value} {K : Nat → Nat → Int} {D e : Nat → Int} {s s' : AS} {h h' : Nat → Nat → Int} {f f' : Nat → Int} {W W' : WayL}
theorem QS.below (q : QS w lab A p v n t K D e s h f W) (hb : Below w.heap.size w w') : QS w' lab A p v n t K D e s h f W :=
  ⟨q.an.below hb, q.inv, (hb.block _ q.blk.lt).trans q.blk, q.lp, q.qr.below hb⟩
theorem QS.turn (q : QS w lab A p v n t K D e s h f W) (hA : AN w' lab' A' n t K s') (hI : AInv n t K D s') (hF : AF lab w lab' w') : QS w' lab' A' p v n t K D e s' h f W :=
  ⟨hA, hI, (hF.block q.blk.lt q.lp).trans q.blk, hF.free q.blk.lt q.lp, q.qr.same (fun b hb hlt => hF.block hlt hb.1) hF.size fun b hb hlt => ⟨hF.free hlt hb.1, hb.2⟩⟩
theorem QS.put (q : QS w lab A p v n t K D e s h f W) {B : Nat} (hv : QR (fun b => B ≤ b) w v' n t K h' f' e W') (hB : p < B) (hl : ∀ b, B ≤ b → lab b = []) : QS (w.setRow p v') lab A p v' n t K D e s h' f' W' :=
  ⟨q.an.same (fun b _ hb => setRow_other _ _ _ _ fun eb => hb (by rw [eb]; exact q.lp)) (by rw [setRow_size]; exact Nat.le_refl _), q.inv, setRow_heap _ _ _ _ _ _ q.blk, q.lp,
    hv.same (fun b hb _ => setRow_other _ _ _ _ (by omega)) (by rw [setRow_size]; exact Nat.le_refl _) fun b hb _ => ⟨hl b hb, by omega⟩⟩
theorem Syn.len (y : Syn n s h f W) (hI : AInv n t K D s) (h8 : n ≤ 8) : W.length ≤ 1280 := ways_len h8 y.mem fun a b ha hb => by rw [← y.way]; exact hI.few a b ha hb
theorem Syn.sendE (y : Syn n s h f W) (a b : Int) : qSendE n K W a b = s.sendE n K a b := by
  unfold qSendE AS.sendE
  rw [y.way]
theorem Syn.takeE (y : Syn n s h f W) (a b : Int) : qTakeE n K W a b = s.takeE n K a b := by
  unfold qTakeE AS.takeE
  rw [y.way]
theorem Syn.put (y : Syn n s h f W) {a b : Nat} (ha : a < n) (hb : b < n) : Syn n (s.put a b) h f (W ++ [(a, b, f a)]) := by
  refine ⟨y.h, y.f, fun x z => ?_, fun q hq => ?_⟩
  · show (if x = a ∧ z = b then s.q a b ++ [s.f a] else s.q x z) = _
    rw [onWay_snoc]
    by_cases hc : x = a ∧ z = b
    · rw [if_pos hc, if_pos ⟨hc.1.symm, hc.2.symm⟩, hc.1, hc.2, y.way, y.f]
    · rw [if_neg hc, if_neg (fun h' => hc ⟨h'.1.symm, h'.2.symm⟩), y.way]
  · rcases List.mem_append.1 hq with h1 | h1
    · exact y.mem q h1
    · simp at h1
      subst h1
      exact ⟨ha, hb⟩
theorem Syn.come (y : Syn n s h f W) (a b : Nat) : Syn n (s.come a b) (fun p q => if p = b ∧ q = a then (onWay W a b).headD 0 else h p q) f (dropW a b W) := by
  refine ⟨?_, y.f, fun x z => ?_, fun q hq => y.mem q (drop_mem _ hq)⟩
  · funext p q
    show _ = if p = b ∧ q = a then s.first a b else s.h p q
    unfold AS.first
    rw [y.way, y.h]
  · show (if x = a ∧ z = b then (s.q a b).tail else s.q x z) = _
    by_cases hc : x = a ∧ z = b
    · rw [if_pos hc, hc.1, hc.2, onWay_drop, y.way]
    · rw [if_neg hc, onWay_drop_other hc, y.way]
theorem Syn.think (y : Syn n s h f W) (b : Nat) : Syn n (s.think n t K b) h (fun i => if i = b ∧ b ≠ t then hearF K (h b) b n else f i) W :=
  ⟨y.h, by
    funext i
    show _ = if i = b ∧ b ≠ t then hearF K (s.h b) b n else s.f i
    rw [y.h, y.f], y.way, y.mem⟩
theorem Syn.new : Syn n (AS.new t) (fun _ _ => 16) (startF t) [] := ⟨rfl, rfl, fun _ _ => rfl, fun q hq => by cases hq⟩
theorem Syn.nonneg (y : Syn n s h f W) (hI : AInv n t K D s) (hD : ∀ i, i < n → 0 ≤ D i) : ∀ q, q ∈ W → 0 ≤ q.2.2 := fun q hq => by
  obtain ⟨h1, h2⟩ := y.mem q hq
  have hx : q.2.2 ∈ onWay W q.1 q.2.1 := by
    unfold onWay
    exact List.mem_map.2 ⟨q, List.mem_filter.2 ⟨hq, decide_eq_true ⟨rfl, rfl⟩⟩, rfl⟩
  rw [← y.way] at hx
  exact ((hI.asks hD).2 _ _ _ h1 h2 hx).1
end

end Go.Proofs.YtminfghiejgieaaDoor

/- Words for a slice of bools. -/
namespace Go.Proofs.YtminfghiejgieaaDoor
open Go.ChangeShapes Go.WideShapes Go.RowKit Go.Deep

/-- The slice at A reads, element by element, as f; it lies in what is there. -/
def VecB (w : World) (A : Option Addr) (n : Nat) (f : Nat → Bool) : Prop :=
  ∀ j, j < n → ∃ ad, A = some ad ∧ ad.block < w.heap.size ∧ w.cell? (ad.add j) = some (.bool (f j))

theorem VecB.keep {w w' : World} {A : Option Addr} {n : Nat} {f : Nat → Bool} (h : VecB w A n f) (hb : Below w.heap.size w w') : VecB w' A n f := by
  intro j hj
  obtain ⟨ad, rfl, hlt, hc⟩ := h j hj
  exact ⟨ad, rfl, Nat.lt_of_lt_of_le hlt hb.size, (hb.cell (by rw [block_of_add]; exact hlt)).trans hc⟩

section
variable {H : Type} {enc : TypeId × Value → H} {P : Program}
/-- An argument that is a slice of bools. -/
theorem open_vecB {W : World} {t e : TypeId} (ht : P.underlying t = some (.slice e)) (he : P.underlying e = some .bool) (hc : P.cellsOf e = 1) {r : Reach} {b0 : Nat} {v : Value} {d : DataW H} {ps : List MemPlace}
    (hok : Value.okWide P W r b0 t v) (h : DataW.Trod enc P W 0 (fun _ => true) true t v d ps) :
    ∃ (A : Option Addr) (n c : Nat) (f : Nat → Bool), v = .slice A n c ∧ n ≤ c ∧ c ≤ maxLen ∧ VecB W A n f := by
  obtain ⟨a0, len, cap, rfl⟩ := okWide_slice ht hok
  obtain ⟨fuel, hf⟩ := h
  rcases open_bools ht he hc hf with ⟨hcs, hx⟩ | ⟨a, len', cap', B, hcs, _, hl, hm, hx, hcell⟩
  · simp [Value.cells] at hcs
    obtain ⟨rfl, rfl, rfl⟩ := hcs
    exact ⟨none, 0, 0, fun _ => false, rfl, Nat.le_refl _, Nat.zero_le _, fun j hj => absurd hj (by omega)⟩
  · simp [Value.cells] at hcs
    obtain ⟨rfl, rfl, rfl⟩ := hcs
    refine ⟨some a, len, cap, B, rfl, hl, hm, fun j hj => ⟨a, rfl, ?_, hcell j (by omega)⟩⟩
    have := World.block_lt_of_cell? W _ (hcell j (by omega))
    rwa [block_of_add] at this
end

theorem cellsBool : Tryd.prog.cellsOf 4 = 1 := by kernel_rfl

end Go.Proofs.YtminfghiejgieaaDoor

/- The walk of the reference's GraphFault. -/
namespace Go.Proofs.YtminfghiejgieaaDoor
open Go.RowKit
set_option linter.unusedVariables false

theorem samePair_iff (a b : Nat → Int) (j : Nat) (u v : Int) : SamePair (a j) (b j) u v ↔ Mt a b j u v := by
  unfold SamePair Mt
  omega

set_option maxRecDepth 100000 in
set_option maxHeartbeats 2000000 in
theorem graphFault_to (n : Nat) (x : Int) (hx : x = (n : Int)) (A : Option Addr) (m cp : Nat) (a b c : Nat → Int) (w : World) (hl : Lnk w A m a b c) (h1 : 1 ≤ n) (h8 : n ≤ 8) (hm : m ≤ 9223372036854775807) (lim : Nat) (hlm : lim ≤ m) (hr : Right n lim a b c) (v : Int)
    (hv : (lim = m ∧ v = 0) ∨ (lim < m ∧ Wrong n lim a b c v)) :
    Calls Tryd.prog 8 #[.int .i64 x, .slice A m cp] w fun e w' => e = .returned (.int .i64 v) ∧ Below w.heap.size w w' := by
  subst hx
  have h1' : (1 : Int) ≤ n := by omega
  have h8' : (n : Int) ≤ 8 := by omega
  have HL := Lib.hid hl
  have HR := Lib.hid hr
  have HV := Lib.hid hv
  clear hl hr hv
  go_enter Tryd.func8, Tryd.ntmps8
  go_wp2_with fail
  go_loopw [5] (fun i wr => ∃ r : Nat, r ≤ lim ∧ i = .int .i64 r ∧ Below w.heap.size w wr) (fun i _ => lim - (intOf i).toNat)
  case atStart => exact ⟨0, by omega, rfl, Below.refl _ _⟩
  case round =>
    obtain ⟨r, hrm, rfl, hb⟩ := hrel
    obtain ⟨wo, hwo⟩ : ∃ wo, wo = wr := ⟨_, rfl⟩
    subst hwo
    by_cases hlt : r < lim
    · have hlt' : (r : Int) < m := by omega
      obtain ⟨ad, rfl, hc0, hc1, hc2⟩ := HL.out.cells hb r (by omega)
      obtain ⟨⟨ha0, ha1, hb0, hb1, hk0, hk1⟩, hne, hnew⟩ := HR.out r hlt
      have hd : (a r == b r) = false := beq_false_of_ne hne
      have HNEW : Hid (∀ j, j < r → ¬ Mt a b j (a r) (b r)) := fun j hj h => hnew j hj ((samePair_iff a b j _ _).2 h)
      have HB := Lib.hid hb
      clear hb hnew hne
      go_wp2_with fail
      go_loopw [7] (fun i wj => ∃ q : Nat, q ≤ r ∧ i = .int .i64 q ∧ ∃ N, wj = (wo.alloc (.cells #[.int .i64 (a r), .int .i64 (b r), .int .i64 (c r)] 69)).drewN N) (fun i _ => r - (intOf i).toNat)
      case atStart => exact ⟨0, by omega, rfl, 0, rfl⟩
      case round =>
        obtain ⟨q, hq, rfl, N, rfl⟩ := hrel
        by_cases hqr : q < r
        · have hqr' : (q : Int) < r := by omega
          have hqm : (q : Int) < m := by omega
          have hbN := (HB.out.alloc HB.out.size (.cells #[.int .i64 (a r), .int .i64 (b r), .int .i64 (c r)] 69))
          obtain ⟨ad', hA', hd0, hd1, hd2⟩ := HL.out.cells hbN q (by omega)
          obtain rfl : ad = ad' := Option.some.inj hA'
          have hmt := HNEW.out q hqr
          clear hA' hbN hd2
          by_cases e1 : a q = a r
          · have e2 : b q ≠ b r := fun e => hmt (.inl ⟨e1, e⟩)
            rw [e1] at hd0
            have hd3 : (b q == b r) = false := beq_false_of_ne e2
            clear e1 e2 hmt
            go_wp2_with fail
            go_quiet (fail)
            go_wp2_with fail
            go_roundw
            case rel => exact ⟨q + 1, by omega, by go_num, _, rfl⟩
            case measure => simp [intOf]; omega
          · have hd1' : (a q == a r) = false := beq_false_of_ne e1
            by_cases e3 : a q = b r
            · have e2 : b q ≠ a r := fun e => hmt (.inr ⟨e3, e⟩)
              have hd3 : (b q == a r) = false := beq_false_of_ne e2
              rw [e3] at hd0 hd1'
              clear e1 e2 e3 hmt
              go_wp2_with fail
              go_quiet (fail)
              go_wp2_with fail
              go_roundw
              case rel => exact ⟨q + 1, by omega, by go_num, _, rfl⟩
              case measure => simp [intOf]; omega
            · have hd3 : (a q == b r) = false := beq_false_of_ne e3
              clear e1 e3 hmt
              go_wp2_with fail
              go_quiet (fail)
              go_wp2_with fail
              go_roundw
              case rel => exact ⟨q + 1, by omega, by go_num, _, rfl⟩
              case measure => simp [intOf]; omega
        · obtain rfl : q = r := by omega
          have HB1 : Hid (Below w.heap.size w ((wo.alloc (.cells #[.int .i64 (a q), .int .i64 (b q), .int .i64 (c q)] 69)).drewN N)) := below_drewN (HB.out.alloc HB.out.size _) N
          go_wp2_with fail
          go_roundw
          case rel => exact ⟨q + 1, by omega, by go_num, HB1.out⟩
          case measure => simp [intOf]; omega
    · have er : r = lim := by omega
      subst er
      rcases HV.out with ⟨e1, rfl⟩ | ⟨hlm', hw⟩
      · subst e1
        go_wp2_with fail
        go_ret
        exact ⟨rfl, hb⟩
      · have hlt' : (r : Int) < m := by omega
        obtain ⟨ad, rfl, hc0, hc1, hc2⟩ := HL.out.cells hb r hlm'
        have HB := Lib.hid hb
        rcases hw with ⟨hbad, rfl⟩ | ⟨⟨ha0, ha1, hb0, hb1, hk0, hk1⟩, he, rfl⟩ | ⟨⟨ha0, ha1, hb0, hb1, hk0, hk1⟩, hne, hold, rfl⟩
        · have hbelow : Hid (Below w.heap.size w (wo.alloc (.cells #[.int .i64 (a r), .int .i64 (b r), .int .i64 (c r)] 69))) := HB.out.alloc HB.out.size _
          clear hb
          by_cases h1 : 0 ≤ a r
          · by_cases h2 : a r < n
            · by_cases h3 : 0 ≤ b r
              · by_cases h4 : b r < n
                · by_cases h5 : 1 ≤ c r
                  · have h6 : 15 < c r := by
                      rcases Int.lt_or_le 15 (c r) with h | h
                      · exact h
                      · exact absurd ⟨h1, h2, h3, h4, h5, h⟩ hbad
                    clear hbad
                    go_wp2_with fail
                    go_ret
                    exact ⟨rfl, hbelow.out⟩
                  · clear hbad
                    have h5' : c r < 1 := by omega
                    go_wp2_with fail
                    go_ret
                    exact ⟨rfl, hbelow.out⟩
                · clear hbad
                  have h4' : (n : Int) ≤ b r := by omega
                  go_wp2_with fail
                  go_ret
                  exact ⟨rfl, hbelow.out⟩
              · clear hbad
                have h3' : b r < 0 := by omega
                go_wp2_with fail
                go_ret
                exact ⟨rfl, hbelow.out⟩
            · clear hbad
              have h2' : (n : Int) ≤ a r := by omega
              go_wp2_with fail
              go_ret
              exact ⟨rfl, hbelow.out⟩
          · clear hbad
            have h1'' : a r < 0 := by omega
            go_wp2_with fail
            go_ret
            exact ⟨rfl, hbelow.out⟩
        · have hbelow : Hid (Below w.heap.size w (wo.alloc (.cells #[.int .i64 (a r), .int .i64 (a r), .int .i64 (c r)] 69))) := HB.out.alloc HB.out.size _
          rw [← he] at hc1
          clear hb he hb0 hb1
          go_wp2_with fail
          go_ret
          exact ⟨rfl, hbelow.out⟩
        · have hd : (a r == b r) = false := beq_false_of_ne hne
          have HOLD : Hid (∃ j, j < r ∧ Mt a b j (a r) (b r)) := by
            obtain ⟨j, hj, h⟩ := hold
            exact ⟨j, hj, (samePair_iff a b j _ _).1 h⟩
          clear hb hne hold
          go_wp2_with fail
          go_loopw [7] (fun i wj => ∃ q : Nat, q ≤ r ∧ i = .int .i64 q ∧ Hid (∀ j, j < q → ¬ Mt a b j (a r) (b r)) ∧ ∃ N, wj = (wo.alloc (.cells #[.int .i64 (a r), .int .i64 (b r), .int .i64 (c r)] 69)).drewN N) (fun i _ => r - (intOf i).toNat)
          case atStart => exact ⟨0, by omega, rfl, Lib.hid (fun j hj => absurd hj (by omega)), 0, rfl⟩
          case round =>
            obtain ⟨q, hq, rfl, hno, N, rfl⟩ := hrel
            have HNO := hno
            clear hno
            by_cases hqr : q < r
            · have hqr' : (q : Int) < r := by omega
              have hqm : (q : Int) < m := by omega
              have hbN := (HB.out.alloc HB.out.size (.cells #[.int .i64 (a r), .int .i64 (b r), .int .i64 (c r)] 69))
              obtain ⟨ad', hA', hd0, hd1, hd2⟩ := HL.out.cells hbN q (by omega)
              obtain rfl : ad = ad' := Option.some.inj hA'
              clear hA' hd2
              have HBE : Hid (∀ K, Below w.heap.size w ((wo.alloc (.cells #[.int .i64 (a r), .int .i64 (b r), .int .i64 (c r)] 69)).drewN K)) := fun K => below_drewN hbN K
              clear hbN
              by_cases hmt : Mt a b q (a r) (b r)
              · by_cases hfst : a q = a r ∧ b q = b r
                · obtain ⟨e1, e2⟩ := hfst
                  rw [e1] at hd0
                  rw [e2] at hd1
                  clear e1 e2 hmt
                  go_wp2_with fail
                  go_quiet (fail)
                  go_wp2_with fail
                  go_ret
                  exact ⟨rfl, by rw [World.drewN_drewN]; exact HBE.out _⟩
                · have hsnd : a q = b r ∧ b q = a r := hmt.resolve_left hfst
                  obtain ⟨e1, e2⟩ := hsnd
                  have hd3 : (b r == a r) = false := beq_false_of_ne fun e => hfst ⟨by omega, by omega⟩
                  rw [e1] at hd0
                  rw [e2] at hd1
                  clear e1 e2 hmt hfst
                  go_wp2_with fail
                  go_quiet (fail)
                  go_wp2_with fail
                  go_ret
                  exact ⟨rfl, by rw [World.drewN_drewN]; exact HBE.out _⟩
              · have HN1 : Hid (∀ j, j < q + 1 → ¬ Mt a b j (a r) (b r)) := fun j hj => by
                  rcases Nat.lt_or_ge j q with h | h
                  · exact HNO.out j h
                  · obtain rfl : j = q := by omega
                    exact hmt
                by_cases e1 : a q = a r
                · have e2 : b q ≠ b r := fun e => hmt (.inl ⟨e1, e⟩)
                  rw [e1] at hd0
                  have hd3 : (b q == b r) = false := beq_false_of_ne e2
                  clear e1 e2 hmt
                  go_wp2_with fail
                  go_quiet (fail)
                  go_wp2_with fail
                  go_roundw
                  case rel => exact ⟨q + 1, by omega, by go_num, HN1, _, rfl⟩
                  case measure => simp [intOf]; omega
                · have hd1' : (a q == a r) = false := beq_false_of_ne e1
                  by_cases e3 : a q = b r
                  · have e2 : b q ≠ a r := fun e => hmt (.inr ⟨e3, e⟩)
                    have hd3 : (b q == a r) = false := beq_false_of_ne e2
                    rw [e3] at hd0 hd1'
                    clear e1 e2 e3 hmt
                    go_wp2_with fail
                    go_quiet (fail)
                    go_wp2_with fail
                    go_roundw
                    case rel => exact ⟨q + 1, by omega, by go_num, HN1, _, rfl⟩
                    case measure => simp [intOf]; omega
                  · have hd3 : (a q == b r) = false := beq_false_of_ne e3
                    clear e1 e3 hmt
                    go_wp2_with fail
                    go_quiet (fail)
                    go_wp2_with fail
                    go_roundw
                    case rel => exact ⟨q + 1, by omega, by go_num, HN1, _, rfl⟩
                    case measure => simp [intOf]; omega
            · exfalso
              obtain ⟨j, hj, h⟩ := HOLD.out
              exact HNO.out j (by omega) h

theorem graphFault_good (x : Int) (A : Option Addr) (m cp : Nat) (a b c : Nat → Int) (w : World) (hl : Lnk w A m a b c) (hm : m ≤ 9223372036854775807) (h : GoodG x m a b c) :
    Calls Tryd.prog 8 #[.int .i64 x, .slice A m cp] w fun e w' => e = .returned (.int .i64 0) ∧ Below w.heap.size w w' := by
  obtain ⟨h1, h8, hr⟩ := h
  exact graphFault_to x.toNat x (by omega) A m cp a b c w hl (by omega) (by omega) hm m (Nat.le_refl _) hr _ (.inl ⟨rfl, rfl⟩)

set_option maxRecDepth 100000 in
set_option maxHeartbeats 1000000 in
theorem graphFault_size (x : Int) (A : Option Addr) (m c : Nat) (w : World) (hx : x < 1 ∨ 8 < x) :
    Calls Tryd.prog 8 #[.int .i64 x, .slice A m c] w fun e w' => e = .returned (.int .i64 1) ∧ Below w.heap.size w w' := by
  rcases hx with hx | hx
  · go_enter Tryd.func8, Tryd.ntmps8
    go_wp2_with fail
    go_ret
    exact ⟨rfl, Below.refl _ _⟩
  · go_enter Tryd.func8, Tryd.ntmps8
    go_wp2_with fail
    go_ret
    exact ⟨rfl, Below.refl _ _⟩

theorem graphFault_bad (x : Int) (A : Option Addr) (m cp : Nat) (a b c : Nat → Int) (w : World) (hl : Lnk w A m a b c) (hm : m ≤ 9223372036854775807) (k : Int) (h : FaultG x m a b c k) :
    Calls Tryd.prog 8 #[.int .i64 x, .slice A m cp] w fun e w' => e = .returned (.int .i64 k) ∧ Below w.heap.size w w' := by
  rcases h with ⟨h, rfl⟩ | ⟨h1, h8, i, hi, hr, hw⟩
  · exact graphFault_size x A m cp w h
  · exact graphFault_to x.toNat x (by omega) A m cp a b c w hl (by omega) (by omega) hm i (by omega) hr _ (.inr ⟨hi, hw⟩)

end Go.Proofs.YtminfghiejgieaaDoor

