/- ways.downs, ways.Count: the walks. -/
import Derived.Test.YtminfghiejgieaaDoorWaysCnt
namespace Go.Proofs.YtminfghiejgieaaDoor
open Go.RowKit Go.Maps
set_option linter.unusedVariables false

/-- A literal's entry. -/
theorem wpList_insert_own {H : Type} {P : Program} (w : World) {ops : Array Oper} {rest : List Oper} {o : Oper} {a : Act} {Q : Exit → Act → World → Prop}
    (hg : o.guard = none) (m x v : Operand) (t : TypeId) (hop : o.op = Op.insert t m x v)
    (k e : TypeId) (K : Keyed P k) (ht : P.underlying t = some (.map k e)) (R : Value → Option (DataW H × List MemPlace)) (b n : Nat) (D : DataW H)
    (hm : a.eval m = .map (some b)) (hown : w.ownsMap P k R b n D) (hn : n < maxLen) (key val : Value) (kl : Lit) (hx : a.eval x = key) (hv : a.eval v = val) (hkey : keyOf P k key = some kl)
    (d : DataW H) (ps : List MemPlace) (hval : R val = some (d, ps))
    (hK : ∀ w', w'.ownsMap P k R b (n + 1) (D.put kl d) → w.grownBy w' (some b) → wpList P ops Q rest (a.put o.dst undef) w') :
    wpList P ops Q (o :: rest) a w := by
  refine wpList_plain hg fun K' hK' => ?_
  obtain ⟨w', hrun, r1, r2⟩ := hown.update K ht hn hkey hval
  unfold Oper.wp
  simp [execOp, hop, hm, hx, hv, hrun, Result.andThen]
  exact hK' _ _ (hK w' r1 r2)

/-- What downs refuses, and how. -/
def BadW (x : Int) (m : Nat) (a b c : Nat → Int) (z y v : Int) : Prop :=
  FaultG x m a b c v ∨ (GoodG x m a b c ∧ ((y < 0 ∨ x ≤ y) ∨ (z < 0 ∨ x ≤ z)) ∧ v = 1)

set_option maxRecDepth 100000 in
set_option maxHeartbeats 1000000 in
theorem downs_bad (x z y : Int) (A : Option Addr) (m cp : Nat) (a b c : Nat → Int) (w : World) (hl : Lnk w A m a b c) (hm : m ≤ 9223372036854775807) (v : Int) (h : BadW x m a b c z y v) :
    Calls Tryd.prog 57 #[.int .i64 x, .slice A m cp, .int .i64 z, .int .i64 y] w fun e w' => e = .returned (.tuple #[.slice none 0 0, errNo v]) ∧ Below w.heap.size w w' := by
  by_cases hu : FaultG x m a b c v ∨ (GoodG x m a b c ∧ (y < 0 ∨ x ≤ y) ∧ v = 1)
  · have HL := Lib.hid hl
    have HF := Lib.hid hu
    clear hl h hu
    go_enter Tryd.func57, Tryd.ntmps57
    go_wp2_with fail
    refine (spfUps_bad x y A m cp a b c w HL.out hm v HF.out).mono ?_
    rintro e w1 ⟨rfl, hb1⟩
    go_wp2_with fail
    go_ret2
    exact ⟨rfl, hb1⟩
  · have hg : GoodG x m a b c ∧ (0 ≤ y ∧ y < x) ∧ (z < 0 ∨ x ≤ z) ∧ v = 1 := by
      rcases h with h | ⟨h1, h2, rfl⟩
      · exact absurd (.inl h) hu
      · have h3 : ¬ (y < 0 ∨ x ≤ y) := fun h3 => hu (.inr ⟨h1, h3, rfl⟩)
        exact ⟨h1, by omega, by omega, rfl⟩
    obtain ⟨hg, ⟨h0, h1⟩, hz, rfl⟩ := hg
    obtain ⟨n, rfl, hn1, hn8, hr⟩ := good_nat hg
    obtain ⟨t, rfl⟩ : ∃ t : Nat, y = t := ⟨y.toNat, by omega⟩
    have ht : t < n := by omega
    have HL := Lib.hid hl
    have HG := Lib.hid hg
    clear hl hg h hu hr
    go_enter Tryd.func57, Tryd.ntmps57
    go_wp2_with fail
    refine (spfUps_ok n t n t rfl rfl A m cp a b c w HL.out hm HG.out ht).mono ?_
    rintro e w1 ⟨vu, rfl, -, hb1⟩
    rcases hz with hz | hz
    · go_wp2_with fail
      go_ret2
      exact ⟨rfl, hb1⟩
    · by_cases hz0 : z < 0
      · go_wp2_with fail
        go_ret2
        exact ⟨rfl, hb1⟩
      · go_wp2_with fail
        go_ret2
        exact ⟨rfl, hb1⟩

set_option maxRecDepth 100000 in
set_option maxHeartbeats 1000000 in
theorem downs_ok (n s t : Nat) (x z y : Int) (hx : x = (n : Int)) (hz : z = (s : Int)) (hy : y = (t : Int)) (A : Option Addr) (m cp : Nat) (a b c : Nat → Int) (w : World) (hl : Lnk w A m a b c) (hm : m ≤ 9223372036854775807) (hg : GoodG x m a b c) (hs : s < n) (ht : t < n) :
    Calls Tryd.prog 57 #[.int .i64 x, .slice A m cp, .int .i64 z, .int .i64 y] w fun e w' => ∃ v, e = .returned (.tuple #[v, .nilIface]) ∧
      Rag w' w.heap.size v n (fun i => (upsL n t (costF m a b c) (endF t a b c m) i).length) (fun i => atL (upsL n t (costF m a b c) (endF t a b c m) i)) ∧ Below w.heap.size w w' := by
  subst hx
  subst hz
  subst hy
  have h8 : n ≤ 8 := by have := hg.2.1; omega
  have h8' : (n : Int) ≤ 8 := by omega
  have hs' : (s : Int) < n := by omega
  have HL := Lib.hid hl
  have HG := Lib.hid hg
  clear hl hg
  go_enter Tryd.func57, Tryd.ntmps57
  go_wp2_with fail
  refine (spfUps_ok n t n t rfl rfl A m cp a b c w HL.out hm HG.out ht).mono ?_
  rintro e w1 ⟨vu, rfl, hrag, hb1⟩
  have HT := Lib.hid hrag
  clear hrag
  go_wp2_with fail
  go_ret2
  exact ⟨_, rfl, HT.out, hb1⟩

set_option maxRecDepth 100000 in
set_option maxHeartbeats 1000000 in
theorem count_bad (x z y : Int) (A : Option Addr) (m cp : Nat) (a b c : Nat → Int) (w : World) (hl : Lnk w A m a b c) (hm : m ≤ 9223372036854775807) (v : Int) (h : BadW x m a b c z y v) :
    Calls Tryd.prog 39 #[.int .i64 x, .slice A m cp, .int .i64 z, .int .i64 y] w fun e w' => e = .returned (.tuple #[.int .i64 0, errNo v]) ∧ Below w.heap.size w w' := by
  have HL := Lib.hid hl
  have HF := Lib.hid h
  clear hl h
  go_enter Tryd.func39, Tryd.ntmps39
  go_wp2_with fail
  refine (downs_bad x z y A m cp a b c w HL.out hm v HF.out).mono ?_
  rintro e w1 ⟨rfl, hb1⟩
  go_wp2_with fail
  go_ret2
  exact ⟨rfl, hb1.alloc hb1.size _⟩

set_option maxRecDepth 100000 in
set_option maxHeartbeats 1000000 in
theorem count_ok (n s t : Nat) (x z y : Int) (hx : x = (n : Int)) (hz : z = (s : Int)) (hy : y = (t : Int)) (A : Option Addr) (m cp : Nat) (a b c : Nat → Int) (w : World) (hl : Lnk w A m a b c) (hm : m ≤ 9223372036854775807) (hg : GoodG x m a b c) (hs : s < n) (ht : t < n) :
    Calls Tryd.prog 39 #[.int .i64 x, .slice A m cp, .int .i64 z, .int .i64 y] w fun e w' => e = .returned (.tuple #[.int .i64 (waysF n t (costF m a b c) (endF t a b c m) s), .nilIface]) ∧ Below w.heap.size w w' := by
  subst hx
  subst hz
  subst hy
  have h8 : n ≤ 8 := by have := hg.2.1; omega
  have h1 : 1 ≤ n := by have := hg.1; omega
  have hr : Right n m a b c := by simpa using hg.2.2
  have h8' : (n : Int) ≤ 8 := by omega
  have HL := Lib.hid hl
  have HG := Lib.hid hg
  have HR := Lib.hid hr
  have hkey : keyOf Tryd.prog 3 (.int .i64 t) = some (.int .i64 t) := keyOf_int_mk Tryd.underlying3 (wf_of (by omega) (by omega))
  clear hl hg hr
  have hmm := @run_makeMap Tryd.prog
  have hmf : ∀ (fn : Fn) (first cap : Array Value) (w : World), (Instr.makeFunc fn first cap).run Tryd.prog w = .ok (.func fn first cap) w := fun _ _ _ _ => rfl
  have hsf : ∀ (a : Addr) (fn : Fn) (first cap : Array Value) (m : Mode) (w : World), (store a (.func fn first cap) m).run Tryd.prog w = stored Tryd.prog w a (.func fn first cap) m := fun a _ _ _ m w => run_store Tryd.prog w a _ m rfl
  go_enter Tryd.func39, Tryd.ntmps39
  go_wp2_with fail
  refine (downs_ok n s t n s t rfl rfl rfl A m cp a b c w HL.out hm HG.out hs ht).mono ?_
  rintro e w1 ⟨vu, rfl, hrag, hb1⟩
  obtain ⟨Au, cu, rfl, hmat⟩ := hrag.mat
  have HT := Lib.hid hmat
  have hmade : ((w1.alloc (.cells #[.slice Au n cu] 34)).alloc (.map #[] 0)).ownsMap Tryd.prog 3 (plainElem Tryd.prog 3) (w1.heap.size + 1) 0 (.map [] : DataW Unit) := by
    have h := World.ownsMap_made (H := Unit) (w1.alloc (.cells #[.slice Au n cu] 34)) Tryd.prog 3 (plainElem Tryd.prog 3)
    rwa [show (w1.alloc (.cells #[.slice Au n cu] 34)).heap.size = w1.heap.size + 1 from by simp] at h
  clear hrag hmat
  go_wp2_with (first
    | (refine wpList_insert_own _ rfl _ _ _ 97 rfl 3 3 keyedW Tryd.underlying97 (plainElem Tryd.prog 3) (w1.heap.size + 1) 0 (.map [] : DataW Unit) rfl hmade (by unfold maxLen; omega) _ _ _ rfl rfl hkey _ [] (plainElem_int Tryd.underlying3 (wf_of (by omega) (by omega))) ?_; intro w2 hown2 hgrow2)
    | fail)
  have hlt2 := hown2.lt
  have hD := far_end HR.out ht
  have hK := cost_m HR.out
  have hself := ways_self ht hD
  have hz2 : ((w1.alloc (.cells #[.slice Au n cu] 34)).alloc (.map #[] 0)).heap.size = w1.heap.size + 2 := by simp
  have hS : CntS w1 w2.heap.size w1.heap.size (w2.heap.size + 1) (w1.heap.size + 1) n t (.slice Au n cu) (waysF n t (costF m a b c) (endF t a b c m)) 1
      ((w2.alloc (.cells #[.map (some (w1.heap.size + 1))] 97)).alloc (.cells #[cntV w2.heap.size w1.heap.size (w2.heap.size + 1)] 98)) := by
    refine ⟨?_, ?_, ?_, ?_, ?_⟩
    · refine Below.alloc (Below.alloc (below_only (Below.alloc (Below.alloc (Below.refl _ _) (Nat.le_refl _) _) (by simp) _) hgrow2 (by rw [hz2]; omega) (by omega)) (by omega) _) (by simp; omega) _
    · rw [World.cell?_alloc_past _ _ _ (by simp), World.cell?_alloc_at _ _ _ _ rfl]
      rfl
    · rw [World.cell?_alloc_past _ _ _ (by simp; omega), World.cell?_alloc_past _ _ _ (by omega)]
      refine hgrow2.cell ?_ (by simp)
      rw [World.cell?_alloc_past _ _ _ (by simp), World.cell?_alloc_at _ _ _ _ rfl]
      rfl
    · rw [World.cell?_alloc_at _ _ _ _ (by simp)]
      rfl
    · have hm : Maps.IsMap (.map [] : DataW Unit) := ⟨_, rfl⟩
      refine ⟨_, (hown2.alloc _).alloc _, Maps.has_put_same hm (by simp [WideAt.IsKeyLit]) _, fun i hi hh => ?_⟩
      by_cases e : i = t
      · subst e
        rw [hself]
        exact Maps.atKey_put_same hm (by simp [WideAt.IsKeyLit]) _ _
      · rw [Maps.has_put_other (fun h => e (by injection h with _ h; omega))] at hh
        exact absurd hh (by simp [Maps.has])
  have hcall := count_any HT.out hK hD ht (by omega) (by omega) (by omega) (by omega) (by omega) 17 s _ 1 hs (by have := end_ranged (t := t) HR.out s hs; omega) (by decide) hS
  refine hcall.mono ?_
  rintro e w3 ⟨rfl, hS3⟩
  have HB := Lib.hid (Below.trans hb1 (Below.mono hS3.bel hb1.size))
  clear hcall hS hS3 hself
  go_wp2_with fail
  go_ret2
  exact ⟨rfl, HB.out⟩

set_option maxRecDepth 100000 in
set_option maxHeartbeats 1000000 in
theorem first_bad (x z y : Int) (A : Option Addr) (m cp : Nat) (a b c : Nat → Int) (w : World) (hl : Lnk w A m a b c) (hm : m ≤ 9223372036854775807) (v : Int) (h : BadW x m a b c z y v) :
    Calls Tryd.prog 40 #[.int .i64 x, .slice A m cp, .int .i64 z, .int .i64 y] w fun e w' => e = .returned (.tuple #[.slice none 0 0, errNo v]) ∧ Below w.heap.size w w' := by
  have HL := Lib.hid hl
  have HF := Lib.hid h
  clear hl h
  go_enter Tryd.func40, Tryd.ntmps40
  go_wp2_with fail
  refine (downs_bad x z y A m cp a b c w HL.out hm v HF.out).mono ?_
  rintro e w1 ⟨rfl, hb1⟩
  go_wp2_with fail
  go_ret2
  exact ⟨rfl, hb1⟩

end Go.Proofs.YtminfghiejgieaaDoor
