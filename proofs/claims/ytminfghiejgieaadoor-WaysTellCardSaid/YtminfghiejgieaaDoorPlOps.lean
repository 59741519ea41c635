/- Package container/heap over spf's places: whatever their order. -/
import Derived.Test.YtminfghiejgieaaDoorPlaces
import Derived.Deep.AppendLies
import Derived.Deep.RegionLaw
import Derived.Deep.QuietTactic
import Derived.BigQuiet
namespace Go.Proofs.YtminfghiejgieaaDoor
open Go.RowKit
set_option linter.unusedVariables false

theorem plNil_len (p : Addr) (w : World) : (nilAhead 286 142 (.pointer (some p)) "Len").run Tryd.prog w = .ok (some false) w := by kernel_rfl
theorem plNil_less (p : Addr) (w : World) : (nilAhead 286 142 (.pointer (some p)) "Less").run Tryd.prog w = .ok (some false) w := by kernel_rfl
theorem plNil_swap (p : Addr) (w : World) : (nilAhead 286 142 (.pointer (some p)) "Swap").run Tryd.prog w = .ok (some false) w := by kernel_rfl
theorem plNil_push (p : Addr) (w : World) : (nilAhead 286 142 (.pointer (some p)) "Push").run Tryd.prog w = .ok (some false) w := by kernel_rfl
theorem plNil_pop (p : Addr) (w : World) : (nilAhead 286 142 (.pointer (some p)) "Pop").run Tryd.prog w = .ok (some false) w := by kernel_rfl
theorem plMeth_push (p : Addr) (w : World) : (method 286 142 (.pointer (some p)) "Push").run Tryd.prog w = .ok (115, .pointer (some p)) w := by kernel_rfl
theorem plMeth_pop (p : Addr) (w : World) : (method 286 142 (.pointer (some p)) "Pop").run Tryd.prog w = .ok (114, .pointer (some p)) w := by kernel_rfl
theorem plMeth_len0 (p : Addr) (w : World) : (method 286 142 (.pointer (some p)) "Len").run Tryd.prog w = Sem.run Tryd.prog (do let x ← loadVar 146 p; pure (73, x)) w := by kernel_rfl
theorem plMeth_less0 (p : Addr) (w : World) : (method 286 142 (.pointer (some p)) "Less").run Tryd.prog w = Sem.run Tryd.prog (do let x ← loadVar 146 p; pure (113, x)) w := by kernel_rfl
theorem plMeth_swap0 (p : Addr) (w : World) : (method 286 142 (.pointer (some p)) "Swap").run Tryd.prog w = Sem.run Tryd.prog (do let x ← loadVar 146 p; pure (116, x)) w := by kernel_rfl
theorem plMeth_len (p : Addr) (A : Option Addr) (n c : Nat) (w : World) (h : w.cell? p = some (.slice A n c)) : (method 286 142 (.pointer (some p)) "Len").run Tryd.prog w = .ok (73, .slice A n c) w := by
  rw [plMeth_len0]
  simp [h, go_sem]
theorem plMeth_less (p : Addr) (A : Option Addr) (n c : Nat) (w : World) (h : w.cell? p = some (.slice A n c)) : (method 286 142 (.pointer (some p)) "Less").run Tryd.prog w = .ok (113, .slice A n c) w := by
  rw [plMeth_less0]
  simp [h, go_sem]
theorem plMeth_swap (p : Addr) (A : Option Addr) (n c : Nat) (w : World) (h : w.cell? p = some (.slice A n c)) : (method 286 142 (.pointer (some p)) "Swap").run Tryd.prog w = .ok (116, .slice A n c) w := by
  rw [plMeth_swap0]
  simp [h, go_sem]

@[go_sem] theorem plAssert (v : Value) (w : World) : (Instr.typeAssert (.iface 144 v) 20 144 false).run Tryd.prog w = .ok v w := by kernel_rfl

/-- The places at p: n of them, in the block g. -/
structure Pl (w : World) (p g n cap : Nat) (F G : Nat → Int) : Prop where
  blk : Blk w p 146 #[.slice (some ⟨g, 0, none⟩) n cap]
  own : w.ownsRow 0 144 2 (.slice (some ⟨g, 0, none⟩) n cap) n ((List.range (n * 2)).map (placeC F G))
  ne : p ≠ g

/-- Its blocks. -/
def plS (p g : Nat) : Nat → Prop := fun k => k = p ∨ k = g

section
variable {w w' : World} {p g n cap : Nat} {F G F' G' : Nat → Int}
theorem Pl.row (h : Pl w p g n cap F G) : RowP w g 144 (n * 2) (placeC F G) := by
  have h' := h.own
  rcases h'.2 with ⟨e, _⟩ | ⟨g', cap', cur, hv, hb, hg, hnc, _, hcs, htake⟩
  · simp at e
  · simp only [Value.slice.injEq, Option.some.injEq, Addr.mk.injEq, and_true, true_and] at hv
    obtain ⟨rfl, rfl⟩ := hv
    refine ⟨cur, hg, by omega, fun i hi => ?_⟩
    have e : (cur.toList.take (n * 2))[i]? = ((List.range (n * 2)).map (placeC F G))[i]? := by rw [htake]
    rw [List.getElem?_take, if_pos (by omega)] at e
    simpa [hi] using e
theorem Pl.touch {S : Nat → Prop} (h : Pl w p g n cap F G) (k : Touch S w w') (hs : ∀ i, plS p g i → ¬ S i) : Pl w' p g n cap F G := by
  refine ⟨h.blk.touch k (hs p (.inl rfl)), ⟨h.own.1, ?_⟩, h.ne⟩
  rcases h.own.2 with h' | ⟨g', cap', cur, hv, hb, hg, hr⟩
  · exact .inl h'
  · have hlt : g' < w.heap.size := (Array.getElem?_eq_some_iff.1 hg).1
    have hv' := hv
    simp only [Value.slice.injEq, Option.some.injEq, Addr.mk.injEq, and_true, true_and] at hv'
    obtain ⟨rfl, rfl⟩ := hv'
    exact .inr ⟨g, cap, cur, hv, hb, (k.block g hlt (hs g (.inr rfl))).trans hg, hr⟩
theorem Pl.drewN (h : Pl w p g n cap F G) (k : Nat) : Pl (w.drewN k) p g n cap F G := ⟨h.blk, h.own, h.ne⟩
theorem Pl.drew (h : Pl w p g n cap F G) : Pl w.drew p g n cap F G := ⟨h.blk, h.own, h.ne⟩
theorem Pl.alloc (h : Pl w p g n cap F G) (o : Obj) : Pl (w.alloc o) p g n cap F G := h.touch ((Touch.refl (fun _ => False) w).alloc o) fun _ _ h => h
theorem Pl.head (h : Pl w p g n cap F G) : w.cell? ⟨p, 0, none⟩ = some (.slice (some ⟨g, 0, none⟩) n cap) := by simpa using h.blk.cell 0
theorem Pl.far (h : Pl w p g n cap F G) {i : Nat} (hi : i < n) : w.cell? ⟨g, i * 2, none⟩ = some (.int .i64 (F i)) := by
  rw [h.row.cell (show i * 2 < n * 2 by omega), placeC0]
theorem Pl.node (h : Pl w p g n cap F G) {i : Nat} (hi : i < n) : w.cell? ⟨g, i * 2 + 1, none⟩ = some (.int .i64 (G i)) := by
  rw [h.row.cell (show i * 2 + 1 < n * 2 by omega), placeC1]
theorem Pl.set4 (h : Pl w p g n cap F G) {i j : Nat} :
    Pl ((((w.setCell ⟨g, i * 2, none⟩ (.int .i64 (F j))).setCell ⟨g, i * 2 + 1, none⟩ (.int .i64 (G j))).setCell ⟨g, j * 2, none⟩ (.int .i64 (F i))).setCell ⟨g, j * 2 + 1, none⟩ (.int .i64 (G i))) p g n cap (swapV F i j) (swapV G i j) := by
  refine ⟨(((h.blk.far h.ne _).far h.ne _).far h.ne _).far h.ne _, ?_, h.ne⟩
  have hs := ((((h.own.stored (i * 2) (.int .i64 (F j))).1.stored (i * 2 + 1) (.int .i64 (G j))).1.stored (j * 2) (.int .i64 (F i))).1.stored (j * 2 + 1) (.int .i64 (G i))).1
  rw [map_range_set, map_range_set, map_range_set, map_range_set] at hs
  have e : (List.range (n * 2)).map (placeC (swapV F i j) (swapV G i j)) = (List.range (n * 2)).map (upd (upd (upd (upd (placeC F G) (i * 2) (.int .i64 (F j))) (i * 2 + 1) (.int .i64 (G j))) (j * 2) (.int .i64 (F i))) (j * 2 + 1) (.int .i64 (G i))) := by
    apply List.map_congr_left
    intro q _
    rcases Nat.mod_two_eq_zero_or_one q with hq | hq
    · obtain ⟨k, rfl⟩ : ∃ k, q = k * 2 := ⟨q / 2, by omega⟩
      rw [placeC0, swapV_at, upd_other _ _ (by omega)]
      by_cases e1 : k = j
      · subst e1; rw [if_pos rfl, upd_same]
      · rw [if_neg e1, upd_other _ _ (by omega), upd_other _ _ (by omega)]
        by_cases e2 : k = i
        · subst e2; rw [if_pos rfl, upd_same]
        · rw [if_neg e2, upd_other _ _ (by omega), placeC0]
    · obtain ⟨k, rfl⟩ : ∃ k, q = k * 2 + 1 := ⟨q / 2, by omega⟩
      rw [placeC1, swapV_at]
      by_cases e1 : k = j
      · subst e1; rw [if_pos rfl, upd_same]
      · rw [if_neg e1, upd_other _ _ (by omega), upd_other _ _ (by omega)]
        by_cases e2 : k = i
        · subst e2; rw [if_pos rfl, upd_same]
        · rw [if_neg e2, upd_other _ _ (by omega), upd_other _ _ (by omega), placeC1]
  rw [e]
  exact hs
theorem Pl.touch4 (S : Nat → Prop) (hg : S g) (i j : Nat) (a b c d : Value) :
    Touch S w ((((w.setCell ⟨g, i * 2, none⟩ a).setCell ⟨g, i * 2 + 1, none⟩ b).setCell ⟨g, j * 2, none⟩ c).setCell ⟨g, j * 2 + 1, none⟩ d) :=
  ((((Touch.refl S w).setCell (.inl hg) a).setCell (.inl hg) b).setCell (.inl hg) c).setCell (.inl hg) d
end

set_option maxHeartbeats 1000000 in
theorem plLen (A : Option Addr) (n c : Nat) (w : World) : Calls Tryd.prog 73 #[.slice A n c] w fun e w' => e = .returned (.int .i64 n) ∧ w = w' := by
  go_enter Tryd.func73, Tryd.ntmps73
  go_wp2
  go_ret
  exact ⟨rfl, rfl⟩

set_option maxHeartbeats 1000000 in
theorem plLess (p g n cap i j : Nat) (x y : Int) (hx : x = (i : Int)) (hy : y = (j : Int)) (F G : Nat → Int) (w : World) (h : Pl w p g n cap F G) (hi : i < n) (hj : j < n) :
    Calls Tryd.prog 113 #[.slice (some ⟨g, 0, none⟩) n cap, .int .i64 x, .int .i64 y] w fun e w' => e = .returned (.bool (decide (F i < F j))) ∧ ∃ k, w' = w.drewN k := by
  subst hx
  subst hy
  have ci := h.far hi
  have cj := h.far hj
  have hi' : (i : Int) < n := by omega
  have hj' : (j : Int) < n := by omega
  clear h
  go_enter Tryd.func113, Tryd.ntmps113
  go_wp2
  go_quiet (fail)
  go_wp2
  go_ret
  exact ⟨rfl, _, rfl⟩

set_option maxHeartbeats 1000000 in
theorem plSwap (p g n cap i j : Nat) (x y : Int) (hx : x = (i : Int)) (hy : y = (j : Int)) (F G : Nat → Int) (w : World) (h : Pl w p g n cap F G) (hi : i < n) (hj : j < n) (hij : i ≠ j) :
    Calls Tryd.prog 116 #[.slice (some ⟨g, 0, none⟩) n cap, .int .i64 x, .int .i64 y] w fun e w' => e = .returned (.tuple #[]) ∧ Pl w' p g n cap (swapV F i j) (swapV G i j) ∧ Touch (plS p g) w w' := by
  subst hx
  subst hy
  have ci := h.far hi
  have cj := h.far hj
  have di := h.node hi
  have dj := h.node hj
  have fz := h.row.frozen
  have hi' : (i : Int) < n := by omega
  have hj' : (j : Int) < n := by omega
  have H := Lib.hid h
  clear h
  go_enter Tryd.func116, Tryd.ntmps116
  go_wp2
  go_region
  all_goals
    go_end0
    exact ⟨rfl, H.out.set4.drew, (Pl.touch4 _ (.inr rfl) i j _ _ _ _).drew⟩

set_option maxHeartbeats 1000000 in
theorem plSwap_same (p g n cap i : Nat) (x y : Int) (hx : x = (i : Int)) (hy : y = (i : Int)) (F G : Nat → Int) (w : World) (h : Pl w p g n cap F G) (hi : i < n) :
    Calls Tryd.prog 116 #[.slice (some ⟨g, 0, none⟩) n cap, .int .i64 x, .int .i64 y] w fun e w' => e = .returned (.tuple #[]) ∧ Pl w' p g n cap (swapV F i i) (swapV G i i) ∧ Touch (plS p g) w w' := by
  subst hx
  subst hy
  have ci := h.far hi
  have di := h.node hi
  have fz := h.row.frozen
  have hi' : (i : Int) < n := by omega
  have H := Lib.hid h
  clear h
  go_enter Tryd.func116, Tryd.ntmps116
  go_wp2
  go_region
  all_goals
    go_end0
    exact ⟨rfl, H.out.set4.drew, (Pl.touch4 _ (.inr rfl) i i _ _ _ _).drew⟩

theorem infoPlace : (Tryd.prog.info? 144).map (fun i => (i.zero, i.size, i.bytes)) = some (some (.agg #[.int .i64 0, .int .i64 0]), 2, 16) := by kernel_rfl

theorem places_snoc (n : Nat) (F G : Nat → Int) (x y : Int) : (List.range (n * 2)).map (placeC F G) ++ [.int .i64 x, .int .i64 y] = (List.range ((n + 1) * 2)).map (placeC (upd F n x) (upd G n y)) := by
  rw [show (n + 1) * 2 = n * 2 + 1 + 1 by omega, List.range_succ, List.range_succ]
  simp only [List.map_append, List.map_cons, List.map_nil, List.append_assoc, List.cons_append, List.nil_append]
  congr 1
  · apply List.map_congr_left
    intro j hj
    have := List.mem_range.1 hj
    unfold placeC
    rw [upd_other _ _ (by omega), upd_other _ _ (by omega)]
  · rw [placeC0, placeC1, upd_same, upd_same]

/-- An append of one place, at a step of a region that draws its order. -/
theorem step_append_pl {w : World} {ops : Array Oper} {o : Oper} {act : Act} {K : Act → World → Prop} {Q : Exit → Act → World → Prop} {E : Prop} (hgd : o.guard = none) (s x : Operand)
    (ho : o.op = .call { callee := .builtin .append, args := #[s, x], argTypes := #[146, 146] })
    (g c n : Nat) (F G : Nat → Int) (hs : act.eval s = .slice (some ⟨g, 0, none⟩) n c) (hT : w.ownsRow 0 144 2 (.slice (some ⟨g, 0, none⟩) n c) n ((List.range (n * 2)).map (placeC F G))) (p q : Int) (ad : Addr) (hx : act.eval x = .slice (some ad) 1 1)
    (hnew : ∀ j u, [Value.int .i64 p, .int .i64 q][j]? = some u → w.cell? (ad.add j) = some u) (hn : n ≤ 1000000000000)
    (h : ∀ g' cap w', w'.ownsRow 0 144 2 (.slice (some ⟨g', 0, none⟩) (n + 1) cap) (n + 1) ((List.range ((n + 1) * 2)).map (placeC (upd F n p) (upd G n q))) → w.grownBy w' (some g) → (g' = g ∨ g' = w.heap.size) → K (act.put o.dst (.slice (some ⟨g', 0, none⟩) (n + 1) cap)) w') :
    if Region.wanted o (yielded ops act.tmps) = true then Oper.wp Tryd.prog o act w K Q else E := by
  obtain ⟨i0, hi0, hz0, hz1, hz2⟩ := info_parts infoPlace
  refine step_append_lies w hgd s x 146 ho 0 144 i0 _ 2 16 Tryd.underlying146 hi0 hz0 hz1 hz2 rfl (by decide) _ n _ hs hT ad 1 1 [.int .i64 p, .int .i64 q] hx rfl hnew (by simp [Value.oneCell']) (by omega) (by unfold maxLen; omega) (by omega) (Nat.zero_le _) _ rfl ?_
  intro g' cap w' h1 h2 h3 _
  rw [places_snoc] at h1
  refine h g' cap w' h1 h2 ?_
  rcases h3 with h3 | h3
  · left
    have : g = g' := by simpa [Value.ownBlock] using h3
    exact this.symm
  · exact .inr h3

/-- The cells of a new block of two. -/
theorem cell_new2_at (w : World) (x y : Value) (t : TypeId) {s : Nat} (hs : s = w.heap.size) : ∀ j u, [x, y][j]? = some u → (w.alloc (.cells #[x, y] t)).cell? ((⟨s, 0, none⟩ : Addr).add j) = some u := by
  subst hs
  intro j u hj
  rw [Addr.add_lit, Nat.zero_add]
  match j, hj with
  | 0, hj => simpa using hj
  | 1, hj => simpa using hj

theorem Pl.owned {w w1 : World} {p g g' n m cap cap' : Nat} {F G F' G' : Nat → Int} {o : Obj} (h : Pl w p g n cap F G) (hown : w1.ownsRow 0 144 2 (.slice (some ⟨g', 0, none⟩) m cap') m ((List.range (m * 2)).map (placeC F' G')))
    (hgr : (w.alloc o).drew.grownBy w1 (some g)) (hat : g' = g ∨ g' = (w.alloc o).drew.heap.size) :
    Blk w1 p 146 #[.slice (some ⟨g, 0, none⟩) n cap] ∧ p ≠ g' ∧ Touch (plS p g) w w1 := by
  have hb := (h.blk.alloc o).drew
  have hlt := h.blk.lt
  refine ⟨hb.grown hgr (fun e => h.ne (by injection e)), ?_, ?_⟩
  · rcases hat with e | e
    · rw [e]; exact h.ne
    · rw [e]
      have : (w.alloc o).drew.heap.size = w.heap.size + 1 := by simp
      omega
  · refine ((Touch.refl (plS p g) w).alloc o).drew.grown hgr fun k e => .inl (.inr (by injection e with e; exact e.symm))

theorem Pl.stored {w1 : World} {p g g' n m cap cap' : Nat} {F' G' : Nat → Int} (hb : Blk w1 p 146 #[.slice (some ⟨g, 0, none⟩) n cap]) (hne : p ≠ g') (hown : w1.ownsRow 0 144 2 (.slice (some ⟨g', 0, none⟩) m cap') m ((List.range (m * 2)).map (placeC F' G'))) :
    Pl (w1.setCell ⟨p, 0, none⟩ (.slice (some ⟨g', 0, none⟩) m cap')) p g' m cap' F' G' := by
  refine ⟨by simpa using hb.set_ 0 (.slice (some ⟨g', 0, none⟩) m cap'), ?_, hne⟩
  exact hown.kept (row := some p) ⟨rfl, rfl, rfl, by simp [World.setCell], fun k hk hne => Below.heap_setCell _ _ _ _ (fun e => hne (by rw [e]))⟩ (.inr (by simp [Value.ownBlock]; exact fun e => hne e.symm))

set_option maxHeartbeats 1000000 in
theorem plPush (p g n cap : Nat) (d k : Int) (F G : Nat → Int) (w : World) (h : Pl w p g n cap F G) (hn : n ≤ 1000000) :
    Calls Tryd.prog 115 #[.pointer (some ⟨p, 0, none⟩), .iface 144 (.agg #[.int .i64 d, .int .i64 k])] w fun e w' => e = .returned (.tuple #[]) ∧ ∃ g' cap', Pl w' p g' (n + 1) cap' (upd F n d) (upd G n k) ∧ (g' = g ∨ w.heap.size ≤ g') ∧ Touch (plS p g) w w' := by
  have c0 := h.head
  have c1 := fun o => (h.alloc o).head
  have H := Lib.hid h
  clear h
  go_enter Tryd.func115, Tryd.ntmps115
  go_wp2
  go_region_law (refine step_append_pl rfl (.tmp 7) (.tmp 10) rfl g cap n F G rfl ((H.out.alloc _).drew.own) d k ⟨w.heap.size, 0, none⟩ rfl (cell_new2_at _ _ _ _ rfl) (by omega) ?_; intro g3 cap3 w3 hT3 hb3 ht3; obtain ⟨b3, n3, t3⟩ := H.out.owned hT3 hb3 ht3; have hc := b3.cell 0; have hf := b3.frozen 0; simp at hc)
  all_goals
    go_end0
    refine ⟨rfl, g3, cap3, Pl.stored b3 n3 hT3, ?_, t3.setCell (.inl (.inl rfl)) _⟩
    rcases ht3 with e | e
    · exact .inl e
    · have : (w.alloc (.cells #[.int .i64 d, .int .i64 k] 144)).drew.heap.size = w.heap.size + 1 := by simp
      exact .inr (by omega)

/-- One place less. -/
theorem Pl.shrink {w : World} {p g n cap : Nat} {F G : Nat → Int} (h : Pl w p g (n + 1) cap F G) : Pl (w.setCell ⟨p, 0, none⟩ (.slice (some ⟨g, 0, none⟩) n cap)) p g n cap F G := by
  refine ⟨by simpa using h.blk.set_ 0 (.slice (some ⟨g, 0, none⟩) n cap), ?_, h.ne⟩
  have hk : w.grownBy (w.setCell ⟨p, 0, none⟩ (.slice (some ⟨g, 0, none⟩) n cap)) (some p) := ⟨rfl, rfl, rfl, by simp [World.setCell], fun k hk hne => Below.heap_setCell _ _ _ _ (fun e => hne (by rw [e]))⟩
  have ho := h.own.kept hk (.inr (by simp [Value.ownBlock]; exact fun e => h.ne e.symm))
  refine ⟨by simp, ?_⟩
  rcases ho.2 with ⟨e, _⟩ | ⟨g', c, cur, e, hb, hg, hnc, hcm, hcs, htake⟩
  · simp at e
  · simp only [Value.slice.injEq, Option.some.injEq, Addr.mk.injEq, and_true, true_and] at e
    obtain ⟨rfl, rfl⟩ := e
    refine .inr ⟨g, cap, cur, rfl, hb, hg, by omega, hcm, hcs, ?_⟩
    have e2 : cur.toList.take (n * 2) = (cur.toList.take ((n + 1) * 2)).take (n * 2) := by rw [List.take_take]; congr 1; omega
    rw [e2, htake, ← List.map_take, List.take_range]
    congr 2
    omega

theorem Pl.cap {w : World} {p g n cap : Nat} {F G : Nat → Int} (h : Pl w p g n cap F G) : n ≤ cap := by
  rcases h.own.2 with ⟨e, _⟩ | ⟨g', c, cur, e, hb, hg, hnc, _⟩
  · simp at e
  · simp only [Value.slice.injEq, Option.some.injEq, Addr.mk.injEq, and_true, true_and] at e
    omega

set_option maxHeartbeats 1000000 in
theorem plPop (p g n cap : Nat) (F G : Nat → Int) (w : World) (h : Pl w p g (n + 1) cap F G) (hn : n ≤ 1000000) :
    Calls Tryd.prog 114 #[.pointer (some ⟨p, 0, none⟩)] w fun e w' => e = .returned (.iface 144 (.agg #[.int .i64 (F n), .int .i64 (G n)])) ∧ Pl w' p g n cap F G ∧ Touch (plS p g) w w' := by
  have c0 := h.head
  have f0 := h.blk.frozen 0
  have cf := h.far (i := n) (by omega)
  have cn := h.node (i := n) (by omega)
  have hcap := h.cap
  have hcap' : (n : Int) ≤ cap := by omega
  have hlt := h.blk.lt
  have hlt2 := h.row.lt
  have H := Lib.hid h
  clear h
  go_enter Tryd.func114, Tryd.ntmps114
  go_wp2
  go_ret
  exact ⟨rfl, H.out.shrink.alloc _, ((Touch.refl _ _).setCell (.inl (.inl rfl)) _).alloc _⟩

end Go.Proofs.YtminfghiejgieaaDoor
