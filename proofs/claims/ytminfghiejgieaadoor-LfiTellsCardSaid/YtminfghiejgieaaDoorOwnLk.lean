/- A slice of links that the call itself makes by appends. -/
import Derived.Test.YtminfghiejgieaaDoorCut
namespace Go.Proofs.YtminfghiejgieaaDoor
open Go.RowKit
set_option linter.unusedVariables false

/-- v has n links; it is nil, or lies in a block of its own from base on. -/
def OwnLk (w : World) (base : Nat) (v : Value) (n : Nat) (a b c : Nat → Int) : Prop := w.ownsRow base 69 3 v n ((List.range (n * 3)).map (linkC a b c))

section
variable {w w' : World} {base n : Nat} {v : Value} {a b c a' b' c' : Nat → Int}
theorem OwnLk.nil (w : World) (base : Nat) (a b c : Nat → Int) : OwnLk w base (.slice none 0 0) 0 a b c := World.ownsRow_nil _ _ _ _
theorem OwnLk.same (h : OwnLk w base v n a b c) (hs : ∀ g, base ≤ g → g < w.heap.size → w'.heap[g]? = w.heap[g]?) : OwnLk w' base v n a b c := by
  refine ⟨h.1, ?_⟩
  rcases h.2 with h' | ⟨g, cap, cur, hv, hb, hg, hr⟩
  · exact .inl h'
  · have hlt : g < w.heap.size := (Array.getElem?_eq_some_iff.1 hg).1
    exact .inr ⟨g, cap, cur, hv, hb, (hs g hb hlt).trans hg, hr⟩
theorem OwnLk.below (h : OwnLk w base v n a b c) (hb : Below w.heap.size w w') : OwnLk w' base v n a b c := h.same fun g _ hlt => hb.block g hlt
theorem OwnLk.alloc (h : OwnLk w base v n a b c) (o : Obj) : OwnLk (w.alloc o) base v n a b c := h.below ((Below.refl _ _).alloc (Nat.le_refl _) o)
theorem OwnLk.drew (h : OwnLk w base v n a b c) : OwnLk w.drew base v n a b c := h
theorem OwnLk.congr (h : OwnLk w base v n a b c) (ha : ∀ i, i < n → a i = a' i) (hb : ∀ i, i < n → b i = b' i) (hc : ∀ i, i < n → c i = c' i) : OwnLk w base v n a' b' c' := by
  unfold OwnLk
  have : (List.range (n * 3)).map (linkC a' b' c') = (List.range (n * 3)).map (linkC a b c) := List.map_congr_left fun j hj => by
    have := List.mem_range.1 hj
    unfold linkC
    rw [ha _ (by omega), hb _ (by omega), hc _ (by omega)]
  rw [this]; exact h
theorem OwnLk.form (h : OwnLk w base v n a b c) : (n = 0 ∧ v = .slice none 0 0) ∨ ∃ g q, v = .slice (some ⟨g, 0, none⟩) n q ∧ base ≤ g ∧ RowP w g 69 (n * 3) (linkC a b c) := by
  have h' := h
  rcases h.2 with ⟨hv, hn⟩ | ⟨g, cap, cur, hv, hb, hg, hc, _⟩
  · exact .inl ⟨hn, hv⟩
  · subst hv
    exact .inr ⟨g, cap, rfl, hb, (RowP.of_own_links h').2.2⟩
theorem OwnLk.lnk (h : OwnLk w base v n a b c) : ∃ A q, v = .slice A n q ∧ Lnk w A n a b c := by
  rcases h.form with ⟨rfl, rfl⟩ | ⟨g, q, rfl, _, hr⟩
  · exact ⟨none, 0, rfl, fun j hj => absurd hj (by omega)⟩
  · exact ⟨_, q, rfl, hr.lnk⟩
end

theorem links_snoc (n : Nat) (a b c : Nat → Int) (x y z : Int) : (List.range (n * 3)).map (linkC a b c) ++ [.int .i64 x, .int .i64 y, .int .i64 z] = (List.range ((n + 1) * 3)).map (linkC (upd a n x) (upd b n y) (upd c n z)) := by
  rw [show (n + 1) * 3 = n * 3 + 1 + 1 + 1 by omega, List.range_succ, List.range_succ, List.range_succ]
  simp only [List.map_append, List.map_cons, List.map_nil, List.append_assoc, List.cons_append, List.nil_append]
  congr 1
  · apply List.map_congr_left
    intro j hj
    have := List.mem_range.1 hj
    unfold linkC
    rw [upd_other _ _ (by omega), upd_other _ _ (by omega), upd_other _ _ (by omega)]
  · rw [linkC0, linkC1, show n * 3 + 1 + 1 = n * 3 + 2 from rfl, linkC2, upd_same, upd_same, upd_same]

/-- An append of one link, at a step of a region that draws its order. -/
theorem step_append_lnk {w : World} {ops : Array Oper} {o : Oper} {act : Act} {K : Act → World → Prop} {Q : Exit → Act → World → Prop} {E : Prop} (hgd : o.guard = none) (s x : Operand)
    (ho : o.op = .call { callee := .builtin .append, args := #[s, x], argTypes := #[22, 22] })
    (base : Nat) (v : Value) (n : Nat) (a b c : Nat → Int) (hs : act.eval s = v) (hT : OwnLk w base v n a b c) (p q r : Int) (ad : Addr) (hx : act.eval x = .slice (some ad) 1 1)
    (hnew : ∀ j u, [Value.int .i64 p, .int .i64 q, .int .i64 r][j]? = some u → w.cell? (ad.add j) = some u) (hn : n ≤ 1000000000000) (hbase : base ≤ w.heap.size)
    (h : ∀ g cap w', OwnLk w' base (.slice (some ⟨g, 0, none⟩) (n + 1) cap) (n + 1) (upd a n p) (upd b n q) (upd c n r) → Below base w w' → K (act.put o.dst (.slice (some ⟨g, 0, none⟩) (n + 1) cap)) w') :
    if Region.wanted o (yielded ops act.tmps) = true then Oper.wp Tryd.prog o act w K Q else E := by
  obtain ⟨i0, hi0, hz0, hz1, hz2⟩ := info_parts infoLink
  refine step_append_lies w hgd s x 22 ho base 69 i0 _ 3 24 Tryd.underlying22 hi0 hz0 hz1 hz2 rfl (by decide) v n _ hs hT ad 1 1 [.int .i64 p, .int .i64 q, .int .i64 r] hx rfl hnew (by simp [Value.oneCell']) (by omega) (by unfold maxLen; omega) (by omega) hbase _ rfl ?_
  intro g cap w' h1 h2 h3 _
  rw [links_snoc] at h1
  refine h g cap w' h1 ⟨h2.os, h2.tape, h2.output, h2.size, fun k hk => h2.block k (by omega) fun e => ?_⟩
  rcases hT.form with ⟨_, rfl⟩ | ⟨g', c', rfl, hb, _⟩
  · cases e
  · have e' : k = g' := by simpa [Value.ownBlock] using e
    omega

/-- The cells of a new block of three. -/
theorem cell_new3_at (w : World) (x y z : Value) (t : TypeId) {s : Nat} (hs : s = w.heap.size) : ∀ j u, [x, y, z][j]? = some u → (w.alloc (.cells #[x, y, z] t)).cell? ((⟨s, 0, none⟩ : Addr).add j) = some u := by
  subst hs
  intro j u hj
  rw [Addr.add_lit, Nat.zero_add]
  match j, hj with
  | 0, hj => simpa using hj
  | 1, hj => simpa using hj
  | 2, hj => simpa using hj

/-- What a region reads of a link. -/
def LnkS (ad : Addr) (i : Nat) (x y z : Int) (w : World) : Prop :=
  w.cell? (ad.add (i * 3)) = some (.int .i64 x) ∧ w.cell? ⟨(ad.add (i * 3)).block, (ad.add (i * 3)).off + 1, none⟩ = some (.int .i64 y) ∧ w.cell? ⟨(ad.add (i * 3)).block, (ad.add (i * 3)).off + 2, none⟩ = some (.int .i64 z)

theorem LnkS.keep {ad : Addr} {i : Nat} {x y z : Int} {w w' : World} {B : Nat} (h : LnkS ad i x y z w) (hb : Below B w w') (hlt : ad.block < B) : LnkS ad i x y z w' := by
  obtain ⟨h0, h1, h2⟩ := h
  exact ⟨(hb.cell (by rw [block_of_add]; exact hlt)).trans h0, (hb.cell (by show (ad.add (i * 3)).block < B; rw [block_of_add]; exact hlt)).trans h1, (hb.cell (by show (ad.add (i * 3)).block < B; rw [block_of_add]; exact hlt)).trans h2⟩

/-- The links in the other order, each the other way round. -/
def backF (m : Nat) (f : Nat → Int) (t : Nat) : Int := f (m - 1 - t)

section
variable {n m : Nat} {a b c : Nat → Int}
theorem nA_back (f : Nat → Int) (t : Nat) : nA (backF m f) t = nA f (m - 1 - t) := rfl
theorem right_back (hr : Right n m a b c) : Right n m (backF m b) (backF m a) (backF m c) := by
  intro t ht
  obtain ⟨⟨h0, h1, h2, h3, h4, h5⟩, h6, -⟩ := hr (m - 1 - t) (by omega)
  refine ⟨⟨h2, h3, h0, h1, h4, h5⟩, fun e => h6 e.symm, fun s hs hp => ?_⟩
  obtain ⟨-, -, h7⟩ := hr (m - 1 - s) (by omega)
  refine h7 (m - 1 - t) (by omega) ?_
  unfold SamePair backF at *
  omega
theorem edge_back {u v : Nat} {k : Int} : Edge m (backF m b) (backF m a) (backF m c) u v k ↔ Edge m a b c u v k := by
  constructor
  · rintro ⟨t, ht, hc, h⟩
    exact ⟨m - 1 - t, by omega, hc, h.elim (fun h => .inr ⟨h.2, h.1⟩) fun h => .inl ⟨h.2, h.1⟩⟩
  · rintro ⟨t, ht, hc, h⟩
    have e : m - 1 - (m - 1 - t) = t := by omega
    exact ⟨m - 1 - t, by omega, by unfold backF; rw [e]; exact hc, by rw [nA_back, nA_back, e]; exact h.elim (fun h => .inr ⟨h.2, h.1⟩) fun h => .inl ⟨h.2, h.1⟩⟩

/-- The same links, the same costs. -/
theorem costF_of_edges {m' : Nat} {a' b' c' : Nat → Int} (hr : Right n m a b c) (hr' : Right n m' a' b' c') (i k : Nat) (he : ∀ x, Edge m a b c i k x ↔ Edge m' a' b' c' i k x) : costF m a b c i k = costF m' a' b' c' i k := by
  unfold costF
  rcases costV_cases hr i k with ⟨e, e'⟩ | ⟨hne, e, hno⟩ | ⟨hne, h⟩
  · subst e; rw [e', costV_same]
  · rw [e]
    rcases costV_cases hr' i k with ⟨e', -⟩ | ⟨-, e', -⟩ | ⟨-, h'⟩
    · exact absurd e' hne
    · exact e'.symm
    · exact absurd ((he _).2 h') (hno _)
  · exact (costV_edge hr' ((he _).1 h)).symm
theorem costF_back (hr : Right n m a b c) (i k : Nat) : costF m a b c i k = costF m (backF m b) (backF m a) (backF m c) i k := costF_of_edges hr (right_back hr) i k fun _ => edge_back.symm
theorem costF_sym (hr : Right n m a b c) (i k : Nat) : costF m a b c i k = costF m a b c k i := by
  unfold costF
  rcases costV_cases hr i k with ⟨e, -⟩ | ⟨hne, e, hno⟩ | ⟨hne, h⟩
  · subst e; rfl
  · rw [e]
    rcases costV_cases hr k i with ⟨e', -⟩ | ⟨-, e', -⟩ | ⟨-, h'⟩
    · exact absurd e'.symm hne
    · exact e'.symm
    · exact absurd h'.symm (hno _)
  · exact (costV_edge hr h.symm).symm
end

theorem TabAt.mat' {w : World} {base g q : Nat} {B C : Nat → Nat} {n : Nat} {f : Nat → Nat → Int} (h1 : 1 ≤ n) (h : TabAt w base (.slice (some ⟨g, 0, none⟩) n q) B C n n f) : Mat w (some ⟨g, 0, none⟩) n (fun _ => n) f := by
  obtain ⟨g', c', e, hm⟩ := h.tab.mat h1
  have eg : g = g' := by
    simp only [Value.slice.injEq, Option.some.injEq, Addr.mk.injEq] at e
    exact e.1.1
  subst eg
  exact hm

end Go.Proofs.YtminfghiejgieaaDoor
