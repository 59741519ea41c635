/- The walks of a line's Step, Row, Next, New. Printed by gen_lineops.py. -/
import Derived.Test.YtlbdbfmgkappaaaDoorLineStep
import Derived.Test.YtlbdbfmgkappaaaDoorOwnV
namespace Go.Proofs.YtlbdbfmgkappaaaDoor
open Go.RowKit
set_option linter.unusedVariables false

theorem Blk.ne_row {w : World} {s g : Nat} {t t' : TypeId} {cs : Array Value} {n : Nat} {f : Nat → Value} (h : Blk w s t cs) (h' : RowP w g t' n f) (ht : t ≠ t') : g ≠ s := by
  rintro rfl
  obtain ⟨c, e, _⟩ := h'
  unfold Blk at h
  rw [e] at h
  simp at h
  exact ht h.2.symm

/-- But for the line's own blocks all is as it was. -/
def KeepO (w w' : World) : Prop := ∀ (g : Nat) (o : Obj), w.heap[g]? = some o → (∀ cs fr, o ≠ .cells cs 90 fr) → (∀ cs fr, o ≠ .cells cs 94 fr) → w'.heap[g]? = some o
theorem KeepO.of_below {w w' : World} (h : Below w.heap.size w w') : KeepO w w' := fun g o ho _ _ => (h.block g (Array.getElem?_eq_some_iff.1 ho).1).trans ho
theorem KeepO.trans {a b c : World} (h : KeepO a b) (k : KeepO b c) : KeepO a c := fun g o ho h1 h2 => k g o (h g o ho h1 h2) h1 h2
theorem KeepO.setS {w : World} {s : Nat} {cs : Array Value} (h : Blk w s 90 cs) (i : Nat) (v : Value) : KeepO w (w.setCell ⟨s, i, none⟩ v) := fun g o ho h1 _ => by
  by_cases e : g = s
  · subst e
    unfold Blk at h
    rw [h] at ho
    exact absurd (Option.some.inj ho).symm (h1 _ _)
  · exact (Below.heap_setCell _ _ _ _ e).trans ho
theorem KeepO.setR {w : World} {s n : Nat} {f : Nat → Value} (h : RowP w s 94 n f) (i : Nat) (v : Value) : KeepO w (w.setCell ⟨s, i, none⟩ v) := fun g o ho _ h2 => by
  by_cases e : g = s
  · subst e
    obtain ⟨c, hc, _⟩ := h
    rw [hc] at ho
    exact absurd (Option.some.inj ho).symm (h2 _ _)
  · exact (Below.heap_setCell _ _ _ _ e).trans ho
theorem RowP.keepO {w w' : World} {g n : Nat} {t : TypeId} {f : Nat → Value} (h : RowP w g t n f) (k : KeepO w w') (h1 : t ≠ 90) (h2 : t ≠ 94) : RowP w' g t n f := by
  obtain ⟨c, hc, h3⟩ := h
  exact ⟨c, k g _ hc (fun cs fr e => by simp at e; exact h1 e.2.1) (fun cs fr e => by simp at e; exact h2 e.2.1), h3⟩
theorem own_keepO {w w' : World} {base size n : Nat} {t : TypeId} {v : Value} {xs : List Value} (h : w.ownsRow base t size v n xs) (k : KeepO w w') (h1 : t ≠ 90) (h2 : t ≠ 94) : w'.ownsRow base t size v n xs := by
  refine ⟨h.1, ?_⟩
  rcases h.2 with h' | ⟨g, cap, cur, hv, hb, hg, hr⟩
  · exact .inl h'
  · exact .inr ⟨g, cap, cur, hv, hb, k g _ hg (fun cs fr e => by simp at e; exact h1 e.2.1) (fun cs fr e => by simp at e; exact h2 e.2.1), hr⟩

/-- What was there below lo is as it was, and what is none of the line's. -/
structure Fr (lo : Nat) (w w' : World) : Prop where
  bel : Below lo w w'
  keep : KeepO w w'
theorem Fr.size {lo : Nat} {w w' : World} (h : Fr lo w w') : w.heap.size ≤ w'.heap.size := h.bel.size
theorem Fr.refl (lo : Nat) (w : World) : Fr lo w w := ⟨Below.refl _ _, fun _ _ h _ _ => h⟩
theorem Fr.trans {lo : Nat} {a b c : World} (h : Fr lo a b) (k : Fr lo b c) : Fr lo a c := ⟨h.bel.trans k.bel, h.keep.trans k.keep⟩
theorem Fr.of_below {lo : Nat} {w w' : World} (h : Below w.heap.size w w') (hlo : lo ≤ w.heap.size) : Fr lo w w' := ⟨h.mono hlo, KeepO.of_below h⟩
theorem Fr.alloc {lo : Nat} {w a : World} (h : Fr lo w a) (hle : lo ≤ a.heap.size) (o : Obj) : Fr lo w (a.alloc o) := h.trans (Fr.of_below ((Below.refl _ _).alloc (Nat.le_refl _) o) hle)
theorem Fr.drewN {lo : Nat} {w a : World} (h : Fr lo w a) (n : Nat) : Fr lo w (a.drewN n) := ⟨below_drewN h.bel n, h.keep⟩
theorem Fr.setS {lo : Nat} {w a : World} (h : Fr lo w a) {s : Nat} {cs : Array Value} (hb : Blk a s 90 cs) (hlo : lo ≤ s) (i : Nat) (v : Value) : Fr lo w (a.setCell ⟨s, i, none⟩ v) := ⟨h.bel.setCell hlo _, h.keep.trans (KeepO.setS hb i v)⟩
theorem Fr.setR {lo : Nat} {w a : World} (h : Fr lo w a) {s n : Nat} {f : Nat → Value} (hb : RowP a s 94 n f) (hlo : lo ≤ s) (i : Nat) (v : Value) : Fr lo w (a.setCell ⟨s, i, none⟩ v) := ⟨h.bel.setCell hlo _, h.keep.trans (KeepO.setR hb i v)⟩

set_option maxRecDepth 100000 in
set_option maxHeartbeats 1000000 in
theorem lineStep (s n m : Nat) (lo : Nat) (po : Bool) (a b c : Nat → Int) (F G : Nat → Nat → Int) (w : World) (hN : NobT w) (h : LineH w lo s po n m a b c F G) (h1 : 1 ≤ n) (h8 : n ≤ 8) (hm : m ≤ 9223372036854775807) (hr : Right n m a b c)
    (hF : ∀ k t, k < n → t < n → 0 ≤ F k t ∧ F k t ≤ 16) (hlo : lo ≤ w.heap.size) :
    Calls Tryd.prog 12 #[.pointer (some ⟨s, 0, none⟩)] w fun e w' => e = .returned (.tuple #[]) ∧
      LineH w' lo s po n m a b c (fun i t => (thinkF po n t (costF m a b c) (fun k => F k t) (fun k => G k t) i).1) (fun i t => (thinkF po n t (costF m a b c) (fun k => F k t) (fun k => G k t) i).2) ∧ Fr lo w w' := by
  obtain ⟨lA, lc, gr, gc, B, C, h⟩ := h
  have hcall := stepped_walk s n m lo po lA lc gr gc B C a b c F G w hN h h1 h8 hm hr hF
  have HC := Lib.hid hcall
  have HW := Lib.hid h
  have HLO := Lib.hid hlo
  clear hcall h hr hF hN hlo
  go_enter Tryd.func12, Tryd.ntmps12
  go_wp2_with fail
  refine HC.out.mono ?_
  rintro e w1 ⟨v, B', C', rfl, hT, hb1⟩
  obtain ⟨g', c', hv, hg', hgl, -⟩ := hT.cells h1
  rw [hv] at hT ⊢
  have hw1 := HW.out.below hb1
  have hcs := hw1.blk.cell 2
  have hfs := hw1.blk.frozen 2
  simp at hcs
  have hsl := HW.out.blk.lt
  have HF : Hid (LineW (w1.setCell ⟨s, 2, none⟩ (.slice (some ⟨g', 0, none⟩) n c')) lo s po lA lc g' c' B' C' n m a b c (fun i t => (thinkF po n t (costF m a b c) (fun k => F k t) (fun k => G k t) i).1) (fun i t => (thinkF po n t (costF m a b c) (fun k => F k t) (fun k => G k t) i).2) ∧ Fr lo w (w1.setCell ⟨s, 2, none⟩ (.slice (some ⟨g', 0, none⟩) n c'))) := by
    refine ⟨⟨by simpa using hw1.blk.set_ 2 (.slice (some ⟨g', 0, none⟩) n c'), ?_, ?_, hw1.lo⟩, (Fr.of_below hb1 HLO.out).setS hw1.blk hw1.lo _ _⟩
    · rcases hw1.lks with e | ⟨gl, e, h2, hr⟩
      · exact .inl e
      · exact .inr ⟨gl, e, h2, hr.setOther (hw1.blk.ne_row hr (by decide)) _⟩
    · refine (hT.same fun b hb _ => ?_).lift HLO.out
      refine Below.heap_setCell _ _ _ _ ?_
      show b ≠ s
      omega
  clear hT hb1 hw1 hv HW HC hgl hg' hsl
  go_wp2_with fail
  go_end0
  exact ⟨rfl, ⟨lA, lc, g', c', B', C', HF.out.1⟩, HF.out.2⟩

set_option maxRecDepth 100000 in
set_option maxHeartbeats 1000000 in
theorem lineRowClo (x y : Int) (w : World) : Calls Tryd.prog 54 #[.agg #[.int .i64 x, .int .i64 y]] w fun e w' => e = .returned (.int .i64 x) ∧ Below w.heap.size w w' := by
  go_enter Tryd.func54, Tryd.ntmps54
  go_wp2_with fail
  go_ret
  exact ⟨rfl, (Below.refl _ _).alloc (Nat.le_refl _) _⟩

set_option maxRecDepth 100000 in
set_option maxHeartbeats 2000000 in
theorem lineRow_row (s n m i : Nat) (x : Int) (hx : x = (i : Int)) (lo : Nat) (po : Bool) (a b c : Nat → Int) (F G : Nat → Nat → Int) (w : World) (h : LineH w lo s po n m a b c F G) (hi : i < n) (h8 : n ≤ 8) :
    Calls Tryd.prog 53 #[.pointer (some ⟨s, 0, none⟩), .int .i64 x, .func (.func 54) #[] #[]] w fun e w' => ∃ v, e = .returned (.tuple #[v, .nilIface]) ∧ OwnV w' w.heap.size v n (F i) ∧ Below w.heap.size w w' := by
  subst hx
  obtain ⟨lA, lc, gr, gc, B, C, h⟩ := h
  have h1 : 1 ≤ n := by omega
  have c2 := h.blk.cell 2
  simp at c2
  have cr := (h.outer h1).cell hi
  have HROW := Lib.hid (h.tht.row i hi).2
  have hi' : (i : Int) < n := by omega
  have h8' : (n : Int) ≤ 8 := by omega
  have hd1 : decide ((i : Int) < 0) = false := decide_eq_false (by omega)
  have hd2 : decide (n ≤ i) = false := decide_eq_false (by omega)
  clear h
  go_enter Tryd.func53, Tryd.ntmps53
  go_wp2_with fail
  go_loopw [8, 31] (fun v q wr => ∃ k : Nat, k ≤ n ∧ q = .int .i64 k ∧ OwnV wr w.heap.size v k (F i) ∧ Below w.heap.size w wr) (fun _ q _ => n - (intOf q).toNat)
  case atStart => exact ⟨0, by omega, rfl, OwnV.nil _ _ _, Below.refl _ _⟩
  case round =>
    obtain ⟨k, hk, rfl, hT, hb⟩ := hrel
    have HT := Lib.hid hT
    have HB := Lib.hid hb
    clear hT hb
    by_cases hkn : k < n
    · have hkn' : (k : Int) < n := by omega
      have hrow := HROW.out.below HB.out HROW.out.lt
      have cf := hrow.cell (i := k * 2) (by omega)
      have cn := hrow.cell (i := k * 2 + 1) (by omega)
      rw [placeC0] at cf
      rw [placeC1] at cn
      have hcl := lineRowClo (F i k) (G i k) (wr.alloc (.cells #[.int .i64 (F i k), .int .i64 (G i k)] 94))
      have HC := Lib.hid hcl
      clear hrow hcl c2 cr
      go_wp2_with fail
      refine HC.out.mono ?_
      rintro e w3 ⟨rfl, hb3⟩
      have HT3 := Lib.hid ((HT.out.alloc (.cells #[.int .i64 (F i k), .int .i64 (G i k)] 94)).below hb3)
      have HB3 : Hid (Below w.heap.size w w3) := (HB.out.alloc HB.out.size _).trans (hb3.mono (by have := HB.out.size; simp; omega))
      clear hb3 HC HT HB cf cn
      go_wp2_with (at_builtin; refine wpList_append_int rfl (.tmp 35) (.tmp 39) rfl w.heap.size _ k _ rfl (HT3.out.alloc _) (F i k) _ rfl (cell_new_at _ _ _ rfl) (by omega) (by have := HB3.out.size; simp; omega) ?_)
      intro g4 cap4 w4 hV4 hb4 _ _
      have HV4 := Lib.hid (hV4.congr (f' := F i) fun j hj => by
        unfold upd
        split
        · rename_i e; rw [e]
        · rfl)
      have HB4 := Lib.hid ((HB3.out.alloc HB3.out.size _).trans hb4)
      clear hV4 hb4
      go_wp2_with fail
      go_roundw
      case rel => exact ⟨k + 1, by omega, by go_num, HV4.out, HB4.out⟩
      case measure => simp [intOf]; omega
    · obtain rfl : k = n := by omega
      go_wp2_with fail
      go_ret2
      exact ⟨_, rfl, HT.out, HB.out⟩

set_option maxRecDepth 100000 in
set_option maxHeartbeats 1000000 in
theorem lineRow_ok (s n m i : Nat) (x : Int) (hx : x = (i : Int)) (lo : Nat) (po : Bool) (a b c : Nat → Int) (F G : Nat → Nat → Int) (w : World) (h : LineH w lo s po n m a b c F G) (hi : i < n) (h8 : n ≤ 8) :
    Calls Tryd.prog 15 #[.pointer (some ⟨s, 0, none⟩), .int .i64 x] w fun e w' => ∃ v, e = .returned (.tuple #[v, .nilIface]) ∧ OwnV w' w.heap.size v n (F i) ∧ Below w.heap.size w w' := by
  subst hx
  have hcall := lineRow_row s n m i i rfl lo po a b c F G w h hi h8
  have HC := Lib.hid hcall
  clear hcall h
  go_enter Tryd.func15, Tryd.ntmps15
  go_wp2_with fail
  refine HC.out.mono ?_
  rintro e w1 ⟨v, rfl, hV, hb⟩
  go_wp2_with fail
  go_ret2
  exact ⟨_, rfl, hV, hb⟩

set_option maxRecDepth 100000 in
set_option maxHeartbeats 1000000 in
theorem lineNextClo (x y : Int) (w : World) : Calls Tryd.prog 64 #[.agg #[.int .i64 x, .int .i64 y]] w fun e w' => e = .returned (.int .i64 y) ∧ Below w.heap.size w w' := by
  go_enter Tryd.func64, Tryd.ntmps64
  go_wp2_with fail
  go_ret
  exact ⟨rfl, (Below.refl _ _).alloc (Nat.le_refl _) _⟩

set_option maxRecDepth 100000 in
set_option maxHeartbeats 2000000 in
theorem lineNext_row (s n m i : Nat) (x : Int) (hx : x = (i : Int)) (lo : Nat) (po : Bool) (a b c : Nat → Int) (F G : Nat → Nat → Int) (w : World) (h : LineH w lo s po n m a b c F G) (hi : i < n) (h8 : n ≤ 8) :
    Calls Tryd.prog 53 #[.pointer (some ⟨s, 0, none⟩), .int .i64 x, .func (.func 64) #[] #[]] w fun e w' => ∃ v, e = .returned (.tuple #[v, .nilIface]) ∧ OwnV w' w.heap.size v n (G i) ∧ Below w.heap.size w w' := by
  subst hx
  obtain ⟨lA, lc, gr, gc, B, C, h⟩ := h
  have h1 : 1 ≤ n := by omega
  have c2 := h.blk.cell 2
  simp at c2
  have cr := (h.outer h1).cell hi
  have HROW := Lib.hid (h.tht.row i hi).2
  have hi' : (i : Int) < n := by omega
  have h8' : (n : Int) ≤ 8 := by omega
  have hd1 : decide ((i : Int) < 0) = false := decide_eq_false (by omega)
  have hd2 : decide (n ≤ i) = false := decide_eq_false (by omega)
  clear h
  go_enter Tryd.func53, Tryd.ntmps53
  go_wp2_with fail
  go_loopw [8, 31] (fun v q wr => ∃ k : Nat, k ≤ n ∧ q = .int .i64 k ∧ OwnV wr w.heap.size v k (G i) ∧ Below w.heap.size w wr) (fun _ q _ => n - (intOf q).toNat)
  case atStart => exact ⟨0, by omega, rfl, OwnV.nil _ _ _, Below.refl _ _⟩
  case round =>
    obtain ⟨k, hk, rfl, hT, hb⟩ := hrel
    have HT := Lib.hid hT
    have HB := Lib.hid hb
    clear hT hb
    by_cases hkn : k < n
    · have hkn' : (k : Int) < n := by omega
      have hrow := HROW.out.below HB.out HROW.out.lt
      have cf := hrow.cell (i := k * 2) (by omega)
      have cn := hrow.cell (i := k * 2 + 1) (by omega)
      rw [placeC0] at cf
      rw [placeC1] at cn
      have hcl := lineNextClo (F i k) (G i k) (wr.alloc (.cells #[.int .i64 (F i k), .int .i64 (G i k)] 94))
      have HC := Lib.hid hcl
      clear hrow hcl c2 cr
      go_wp2_with fail
      refine HC.out.mono ?_
      rintro e w3 ⟨rfl, hb3⟩
      have HT3 := Lib.hid ((HT.out.alloc (.cells #[.int .i64 (F i k), .int .i64 (G i k)] 94)).below hb3)
      have HB3 : Hid (Below w.heap.size w w3) := (HB.out.alloc HB.out.size _).trans (hb3.mono (by have := HB.out.size; simp; omega))
      clear hb3 HC HT HB cf cn
      go_wp2_with (at_builtin; refine wpList_append_int rfl (.tmp 35) (.tmp 39) rfl w.heap.size _ k _ rfl (HT3.out.alloc _) (G i k) _ rfl (cell_new_at _ _ _ rfl) (by omega) (by have := HB3.out.size; simp; omega) ?_)
      intro g4 cap4 w4 hV4 hb4 _ _
      have HV4 := Lib.hid (hV4.congr (f' := G i) fun j hj => by
        unfold upd
        split
        · rename_i e; rw [e]
        · rfl)
      have HB4 := Lib.hid ((HB3.out.alloc HB3.out.size _).trans hb4)
      clear hV4 hb4
      go_wp2_with fail
      go_roundw
      case rel => exact ⟨k + 1, by omega, by go_num, HV4.out, HB4.out⟩
      case measure => simp [intOf]; omega
    · obtain rfl : k = n := by omega
      go_wp2_with fail
      go_ret2
      exact ⟨_, rfl, HT.out, HB.out⟩

set_option maxRecDepth 100000 in
set_option maxHeartbeats 1000000 in
theorem lineNext_ok (s n m i : Nat) (x : Int) (hx : x = (i : Int)) (lo : Nat) (po : Bool) (a b c : Nat → Int) (F G : Nat → Nat → Int) (w : World) (h : LineH w lo s po n m a b c F G) (hi : i < n) (h8 : n ≤ 8) :
    Calls Tryd.prog 35 #[.pointer (some ⟨s, 0, none⟩), .int .i64 x] w fun e w' => ∃ v, e = .returned (.tuple #[v, .nilIface]) ∧ OwnV w' w.heap.size v n (G i) ∧ Below w.heap.size w w' := by
  subst hx
  have hcall := lineNext_row s n m i i rfl lo po a b c F G w h hi h8
  have HC := Lib.hid hcall
  clear hcall h
  go_enter Tryd.func35, Tryd.ntmps35
  go_wp2_with fail
  refine HC.out.mono ?_
  rintro e w1 ⟨v, rfl, hV, hb⟩
  go_wp2_with fail
  go_ret2
  exact ⟨_, rfl, hV, hb⟩

set_option maxRecDepth 100000 in
set_option maxHeartbeats 1000000 in
theorem lineNew_bad (x : Int) (A : Option Addr) (m cp : Nat) (po : Bool) (a b c : Nat → Int) (w : World) (hl : Lnk w A m a b c) (hm : m ≤ 9223372036854775807) (v : Int) (h : FaultG x m a b c v) :
    Calls Tryd.prog 10 #[.int .i64 x, .slice A m cp, .bool po] w fun e w' => e = .returned (.tuple #[.pointer none, errNo v]) ∧ Below w.heap.size w w' := by
  have HL := Lib.hid hl
  have HF := Lib.hid h
  clear hl h
  go_enter Tryd.func10, Tryd.ntmps10
  go_wp2_with fail
  refine (graphCheck_bad x A m cp a b c w HL.out hm v HF.out).mono ?_
  rintro e w1 ⟨rfl, hb1⟩
  go_wp2_with fail
  go_ret2
  exact ⟨rfl, hb1⟩

theorem clone_any (A : Option Addr) (m cp : Nat) (a b c : Nat → Int) (w : World) (hl : Lnk w A m a b c) (hm : m ≤ 1000000000000) :
    Calls Tryd.prog 49 #[.slice A m cp] w fun e w' => ∃ B q, e = .returned (.slice B m q) ∧ LkB w' w.heap.size B m a b c ∧ Below w.heap.size w w' := by
  by_cases h0 : m = 0
  · subst h0
    refine (clone_links_nil A cp w).mono ?_
    rintro e w' ⟨B, q, he, hb⟩
    exact ⟨B, q, he, .inl rfl, hb⟩
  · refine (clone_links A m cp a b c w hl (by omega) hm).mono ?_
    rintro e w' ⟨g, q, he, hg, -, hr, hb⟩
    exact ⟨some ⟨g, 0, none⟩, q, he, .inr ⟨g, rfl, hg, hr⟩, hb⟩

set_option maxRecDepth 100000 in
set_option maxHeartbeats 4000000 in
theorem lineNew_ok (n : Nat) (x : Int) (hx : x = (n : Int)) (A : Option Addr) (m cp : Nat) (po : Bool) (a b c : Nat → Int) (w : World) (hN : NobT w) (hl : Lnk w A m a b c) (hm : m ≤ 9223372036854775807) (hg : GoodG x m a b c) :
    Calls Tryd.prog 10 #[.int .i64 x, .slice A m cp, .bool po] w fun e w' => ∃ s, e = .returned (.tuple #[.pointer (some ⟨s, 0, none⟩), .nilIface]) ∧ LineH w' w.heap.size s po n m a b c (fun i t => startF t i) (fun _ _ => -1) ∧ Below w.heap.size w w' := by
  subst hx
  have h1 : 1 ≤ n := by have := hg.1; omega
  have h8 : n ≤ 8 := by have := hg.2.1; omega
  have hR : Right n m a b c := by simpa using hg.2.2
  have hm64 := right_small hR h8
  have h1' : (1 : Int) ≤ n := by omega
  have h8' : (n : Int) ≤ 8 := by omega
  have HL := Lib.hid hl
  have HG := Lib.hid hg
  have HN := Lib.hid hN
  clear hl hg hN hR
  go_enter Tryd.func10, Tryd.ntmps10
  go_wp2_with fail
  refine (graphCheck_good n A m cp a b c w HL.out hm HG.out).mono ?_
  rintro e w1 ⟨rfl, hb1⟩
  have HB1 := Lib.hid hb1
  clear hb1
  go_wp2_with fail
  have hcall := clone_any A m cp a b c w1 (HL.out.keep HB1.out) (by omega)
  refine hcall.mono ?_
  clear hcall
  rintro e w2 ⟨lA, lc, rfl, hlk, hb2⟩
  have HB2 := Lib.hid (keep HB1.out hb2)
  have HLK : Hid (LkB w2 w.heap.size lA m a b c) := by
    rcases hlk with e | ⟨g, e, h1, hr⟩
    · exact .inl e
    · exact .inr ⟨g, e, Nat.le_trans HB1.out.size h1, hr⟩
  have HN2 := Lib.hid (HN.out.keep HB2.out)
  have HN0 := Lib.hid HN.out
  have HLT : Hid (∀ g, lA = some ⟨g, 0, none⟩ → m = 0 ∨ g < w2.heap.size) := fun g e => by
    rcases hlk with e' | ⟨g', e', -, hr⟩
    · exact .inl e'
    · rw [e'] at e
      simp only [Option.some.injEq, Addr.mk.injEq, and_true] at e
      subst e
      exact .inr hr.lt
  clear hlk hb2 HB1 HN
  go_wp2_with fail
  obtain ⟨s, hs⟩ : ∃ s, w2.heap.size = s := ⟨_, rfl⟩
  have HSZ : Hid (w.heap.size ≤ s) := by
    show w.heap.size ≤ s
    rw [← hs]; exact HB2.out.size
  have HBL : Hid (Blk (w2.alloc (.cells #[.slice lA m lc, .bool po, .slice none 0 0] 90)) s 90 #[.slice lA m lc, .bool po, .slice none 0 0]) := by
    have := Blk.new w2 90 #[.slice lA m lc, .bool po, .slice none 0 0]
    rw [hs] at this
    exact this
  have hbw : Below w2.heap.size w2 (w2.alloc (.cells #[.slice lA m lc, .bool po, .slice none 0 0] 90)) := (Below.refl _ _).alloc (Nat.le_refl _) _
  have HLK2 : Hid (LkB (w2.alloc (.cells #[.slice lA m lc, .bool po, .slice none 0 0] 90)) w.heap.size lA m a b c) := by
    rcases HLK.out with e | ⟨g, e, h1, hr⟩
    · exact .inl e
    · exact .inr ⟨g, e, h1, hr.alloc _⟩
  have HN3 := Lib.hid (HN2.out.keep hbw)
  have HB3 := Lib.hid (keep HB2.out hbw)
  have hsz : (w2.alloc (.cells #[.slice lA m lc, .bool po, .slice none 0 0] 90)).heap.size = s + 1 := by simp [hs]
  obtain ⟨ws, hws⟩ : ∃ ws, w2.alloc (.cells #[.slice lA m lc, .bool po, .slice none 0 0] 90) = ws := ⟨_, rfl⟩
  rw [hws] at HBL HLK2 HN3 HB3 hsz ⊢
  rw [hs] at HLT
  rw [hs]
  have HWS := Lib.hid hsz
  clear hws hs hbw hsz HLK HN2 HB2
  go_loopw [24] (fun q wr => ∃ i : Nat, i ≤ n ∧ q = .int .i64 i ∧ ∃ v B C, Blk wr s 90 #[.slice lA m lc, .bool po, v] ∧ Tht wr (s + 1) v B C i n (fun i t => startF t i) (fun _ _ => -1) ∧ LkB wr w.heap.size lA m a b c ∧ NobT wr ∧ Below w.heap.size w wr ∧ s + 1 ≤ wr.heap.size) (fun q _ => n - (intOf q).toNat)
  case atStart => exact ⟨0, by omega, rfl, _, _, _, HBL.out, Tht.nil _ _ _ _ _, HLK2.out, HN3.out, HB3.out, by rw [HWS.out]; omega⟩
  case round =>
    obtain ⟨i, hi, rfl, v, B, C, hbl, hT, hlk, hn, hb, hsz⟩ := hrel
    clear HBL HLK2 HN3 HB3
    have HBL := Lib.hid hbl
    have HT := Lib.hid hT
    have HLK := Lib.hid hlk
    have HN := Lib.hid hn
    have HB := Lib.hid hb
    have HS := Lib.hid hsz
    clear hbl hT hlk hb hsz
    by_cases hlt : i < n
    · have hlt' : (i : Int) < n := by omega
      obtain ⟨n0, n1⟩ := hn
      go_wp2_with fail
      have hcall := repeat_thoughts wr.heap.size n n 16 (-1) (wr.alloc (.cells #[.int .i64 16, .int .i64 (-1)] 94)) rfl h1 h8 (by simp) (by simp)
      refine hcall.mono ?_
      clear hcall
      rintro e w3 ⟨rfl, hblk, hb3⟩
      have hs : (wr.alloc (.cells #[Value.int .i64 16, Value.int .i64 (-1)] 94)).heap.size = wr.heap.size + 1 := by simp
      rw [hs] at hblk hb3 ⊢
      have hr1 : RowP w3 (wr.heap.size + 1) 94 (n * 2) (placeC (fun _ => 16) (fun _ => -1)) := ⟨_, hblk, by simp [pairs2], fun j hj => by
        unfold pairs2 placeC
        rw [List.getElem?_toArray, List.getElem?_map, List.getElem?_range hj]
        rfl⟩
      have hc1 := hr1.cell (i := i * 2) (by omega)
      rw [placeC0] at hc1
      have hz1 := hr1.frozen (i * 2)
      have HR1 : Hid (RowP (w3.setCell ⟨wr.heap.size + 1, i * 2, none⟩ (.int .i64 0)) (wr.heap.size + 1) 94 (n * 2) (placeC (fun t => startF t i) (fun _ => -1))) := by
        refine (hr1.set (i * 2) (.int .i64 0)).congr fun q hq => ?_
        rcases Nat.mod_two_eq_zero_or_one q with hm | hm
        · obtain ⟨k, rfl⟩ : ∃ k, q = k * 2 := ⟨q / 2, by omega⟩
          rw [placeC0]
          unfold startF
          by_cases e : k = i
          · subst e; rw [upd_same]; simp
          · rw [upd_other _ _ (by omega), placeC0, if_neg (fun h => e h.symm)]
        · obtain ⟨k, rfl⟩ : ∃ k, q = k * 2 + 1 := ⟨q / 2, by omega⟩
          rw [placeC1, upd_other _ _ (by omega), placeC1]
      have HB4 : Hid (Below wr.heap.size wr (w3.setCell ⟨wr.heap.size + 1, i * 2, none⟩ (.int .i64 0))) :=
        ((Below.alloc (Below.refl _ _) (Nat.le_refl _) _).trans (hb3.mono (by omega))).setCell (by show wr.heap.size ≤ wr.heap.size + 1; omega) _
      have hbs := (HBL.out.below HB4.out HBL.out.lt)
      have hc2 := hbs.cell 2
      simp at hc2
      clear hblk hb3 hs hr1 n0 n1 hbs
      obtain ⟨gb, hgb⟩ : ∃ gb, wr.heap.size + 1 = gb := ⟨_, rfl⟩
      have HGB : Hid (wr.heap.size ≤ gb) := by
        show wr.heap.size ≤ gb
        omega
      rw [hgb] at hc1 hz1 HR1 HB4 hc2
      rw [hgb]
      clear hgb
      go_wp2_with (at_builtin; refine wpList_append_tht rfl (.tmp 39) (.tmp 41) rfl wr (s + 1) _ B C i n _ _ rfl HT.out (HB4.out.alloc HB4.out.size _) gb n HGB.out (HR1.out.alloc _) _ rfl (cell_new_at _ _ _ (by simp [World.setCell])) (by omega) HS.out ?_)
      intro v5 B5 C5 w5 hT5 hb5
      obtain ⟨g5, q5, hv5, -, -, -⟩ := hT5.cells (by omega)
      rw [hv5] at hT5 ⊢
      have hb45 : Below (s + 1) wr w5 := ((HB4.out.alloc HB4.out.size _).mono HS.out).trans hb5
      have hbl5 := HBL.out.below hb45 (by omega)
      have hc5 := hbl5.cell 2
      have hf5 := hbl5.frozen 2
      simp at hc5
      have hbl6 : Blk (w5.setCell ⟨s, 2, none⟩ (.slice (some ⟨g5, 0, none⟩) (i + 1) q5)) s 90 #[.slice lA m lc, .bool po, .slice (some ⟨g5, 0, none⟩) (i + 1) q5] := by simpa using hbl5.set_ 2 (.slice (some ⟨g5, 0, none⟩) (i + 1) q5)
      have HBL6 := Lib.hid hbl6
      have HT6 : Hid (Tht (w5.setCell ⟨s, 2, none⟩ (.slice (some ⟨g5, 0, none⟩) (i + 1) q5)) (s + 1) (.slice (some ⟨g5, 0, none⟩) (i + 1) q5) B5 C5 (i + 1) n (fun i t => startF t i) (fun _ _ => -1)) := hT5.same fun b hb _ => Below.heap_setCell _ _ _ _ (by show b ≠ s; omega)
      have HLK6 : Hid (LkB (w5.setCell ⟨s, 2, none⟩ (.slice (some ⟨g5, 0, none⟩) (i + 1) q5)) w.heap.size lA m a b c) := by
        rcases HLK.out with e | ⟨g, e, h1, hr⟩
        · exact .inl e
        · by_cases hm0 : m = 0
          · exact .inl hm0
          have hgs := HBL.out.ne_row hr (by decide)
          have hgl : g < s := (HLT.out g e).resolve_left hm0
          exact .inr ⟨g, e, h1, (hr.below hb45 (by omega)).setOther hgs _⟩
      have HB6 : Hid (Below w.heap.size w (w5.setCell ⟨s, 2, none⟩ (.slice (some ⟨g5, 0, none⟩) (i + 1) q5))) := (HB.out.trans (hb45.mono (by have := HSZ.out; omega))).setCell HSZ.out _
      have HN6 : Hid (NobT (w5.setCell ⟨s, 2, none⟩ (.slice (some ⟨g5, 0, none⟩) (i + 1) q5))) := HN0.out.keep HB6.out
      have HS6 : Hid (s + 1 ≤ (w5.setCell ⟨s, 2, none⟩ (.slice (some ⟨g5, 0, none⟩) (i + 1) q5)).heap.size) := by
        show s + 1 ≤ (w5.setCell ⟨s, 2, none⟩ (.slice (some ⟨g5, 0, none⟩) (i + 1) q5)).heap.size
        have h1 := hb45.size
        have h2 := HS.out
        simp only [World.size_setCell]
        omega
      clear hT5 hb5 hv5 hb45 hbl5 hbl6 HT HB4 HR1 hc1 hz1 hc2 HBL HLK HB HN HS
      go_wp2_with fail
      go_roundw
      case rel => exact ⟨i + 1, by omega, by go_num, _, B5, C5, HBL6.out, HT6.out, HLK6.out, HN6.out, HB6.out, HS6.out⟩
      case measure => simp [intOf]; omega
    · have ei : i = n := by omega
      subst ei
      obtain ⟨gr, gc, hgv, -, -, -⟩ := HT.out.cells h1
      go_wp2_with fail
      go_ret2
      refine ⟨s, rfl, ⟨lA, lc, gr, gc, B, C, ?_, HLK.out, ?_, HSZ.out⟩, HB.out⟩
      · rw [← hgv]; exact HBL.out
      · rw [← hgv]; exact HT.out.lift (by have := HSZ.out; omega)

end Go.Proofs.YtlbdbfmgkappaaaDoor
