/- ways.downs, ways.Count: the walks. -/
import Derived.Test.YtgcogffhnabdlaaWaysCnt
namespace Go.Proofs.Ytgcogffhnabdlaa
open Go.RowKit Go.Maps
set_option linter.unusedVariables false

/-- A literal's entry. -/
theorem wpList_insert_own {H : Type} {P : Program} (w : World) {ops : Array Oper} {rest : List Oper} {o : Oper} {a : Act} {Q : Exit → Act → World → Prop}
    (hg : o.guard = none) (m x v : Operand) (t : TypeId) (hop : o.op = Op.insert t m x v)
    (k e : TypeId) (K : Keyed P k) (ht : P.underlying t = some (.map k e)) (R : Value → Option (DataW H × List MemPlace)) (b n : Nat) (D : DataW H)
    (hm : a.eval m = .map (some b)) (hown : w.ownsMap P k R b n D) (hn : n < maxLen) (key val : Value) (kl : Lit) (hx : a.eval x = key) (hv : a.eval v = val) (hkey : keyOf P k key = some kl)
    (d : DataW H) (ps : List MemPlace) (hval : R val = some (d, ps))
    (hK : ∀ w', w'.ownsMap P k R b (n + 1) (D.put kl d) → w.grownBy w' (some b) → wpList P ops Q rest (a.put o.dst undef) w') :
    wpList P ops Q (o :: rest) a w := by
  refine wpList_plain hg fun K' hK' => ?_
  obtain ⟨w', hrun, r1, r2⟩ := hown.update K ht hn hkey hval
  unfold Oper.wp
  simp [execOp, hop, hm, hx, hv, hrun, Result.andThen]
  exact hK' _ _ (hK w' r1 r2)

/-- What downs refuses, and how. -/
def BadW (x : Int) (m : Nat) (a b c : Nat → Int) (z y v : Int) : Prop :=
  FaultG x m a b c v ∨ (GoodG x m a b c ∧ ((y < 0 ∨ x ≤ y) ∨ (z < 0 ∨ x ≤ z)) ∧ v = 1)

set_option maxRecDepth 100000 in
set_option maxHeartbeats 1000000 in
theorem downs_bad (x z y : Int) (A : Option Addr) (m cp : Nat) (a b c : Nat → Int) (w : World) (hl : Lnk w A m a b c) (hm : m ≤ 9223372036854775807) (v : Int) (h : BadW x m a b c z y v) :
    Calls Try.prog 10 #[.int .i64 x, .slice A m cp, .int .i64 z, .int .i64 y] w fun e w' => e = .returned (.tuple #[.slice none 0 0, errNo v]) ∧ Below w.heap.size w w' := by
  by_cases hu : FaultG x m a b c v ∨ (GoodG x m a b c ∧ (y < 0 ∨ x ≤ y) ∧ v = 1)
  · have HL := Lib.hid hl
    have HF := Lib.hid hu
    clear hl h hu
    go_enter Try.func10, Try.ntmps10
    go_wp2_with fail
    refine (spfUps_bad x y A m cp a b c w HL.out hm v HF.out).mono ?_
    rintro e w1 ⟨rfl, hb1⟩
    go_wp2_with fail
    go_ret2
    exact ⟨rfl, hb1⟩
  · have hg : GoodG x m a b c ∧ (0 ≤ y ∧ y < x) ∧ (z < 0 ∨ x ≤ z) ∧ v = 1 := by
      rcases h with h | ⟨h1, h2, rfl⟩
      · exact absurd (.inl h) hu
      · have h3 : ¬ (y < 0 ∨ x ≤ y) := fun h3 => hu (.inr ⟨h1, h3, rfl⟩)
        exact ⟨h1, by omega, by omega, rfl⟩
    obtain ⟨hg, ⟨h0, h1⟩, hz, rfl⟩ := hg
    obtain ⟨n, rfl, hn1, hn8, hr⟩ := good_nat hg
    obtain ⟨t, rfl⟩ : ∃ t : Nat, y = t := ⟨y.toNat, by omega⟩
    have ht : t < n := by omega
    have HL := Lib.hid hl
    have HG := Lib.hid hg
    clear hl hg h hu hr
    go_enter Try.func10, Try.ntmps10
    go_wp2_with fail
    refine (spfUps_ok n t n t rfl rfl A m cp a b c w HL.out hm HG.out ht).mono ?_
    rintro e w1 ⟨vu, rfl, -, hb1⟩
    rcases hz with hz | hz
    · go_wp2_with fail
      go_ret2
      exact ⟨rfl, hb1⟩
    · by_cases hz0 : z < 0
      · go_wp2_with fail
        go_ret2
        exact ⟨rfl, hb1⟩
      · go_wp2_with fail
        go_ret2
        exact ⟨rfl, hb1⟩

set_option maxRecDepth 100000 in
set_option maxHeartbeats 1000000 in
theorem downs_ok (n s t : Nat) (x z y : Int) (hx : x = (n : Int)) (hz : z = (s : Int)) (hy : y = (t : Int)) (A : Option Addr) (m cp : Nat) (a b c : Nat → Int) (w : World) (hl : Lnk w A m a b c) (hm : m ≤ 9223372036854775807) (hg : GoodG x m a b c) (hs : s < n) (ht : t < n) :
    Calls Try.prog 10 #[.int .i64 x, .slice A m cp, .int .i64 z, .int .i64 y] w fun e w' => ∃ v, e = .returned (.tuple #[v, .nilIface]) ∧
      Rag w' w.heap.size v n (fun i => (upsL n t (costF m a b c) (endF t a b c m) i).length) (fun i => atL (upsL n t (costF m a b c) (endF t a b c m) i)) ∧ Below w.heap.size w w' := by
  subst hx
  subst hz
  subst hy
  have h8 : n ≤ 8 := by have := hg.2.1; omega
  have h8' : (n : Int) ≤ 8 := by omega
  have hs' : (s : Int) < n := by omega
  have HL := Lib.hid hl
  have HG := Lib.hid hg
  clear hl hg
  go_enter Try.func10, Try.ntmps10
  go_wp2_with fail
  refine (spfUps_ok n t n t rfl rfl A m cp a b c w HL.out hm HG.out ht).mono ?_
  rintro e w1 ⟨vu, rfl, hrag, hb1⟩
  have HT := Lib.hid hrag
  clear hrag
  go_wp2_with fail
  go_ret2
  exact ⟨_, rfl, HT.out, hb1⟩

set_option maxRecDepth 100000 in
set_option maxHeartbeats 1000000 in
theorem first_bad (x z y : Int) (A : Option Addr) (m cp : Nat) (a b c : Nat → Int) (w : World) (hl : Lnk w A m a b c) (hm : m ≤ 9223372036854775807) (v : Int) (h : BadW x m a b c z y v) :
    Calls Try.prog 5 #[.int .i64 x, .slice A m cp, .int .i64 z, .int .i64 y] w fun e w' => e = .returned (.tuple #[.slice none 0 0, errNo v]) ∧ Below w.heap.size w w' := by
  have HL := Lib.hid hl
  have HF := Lib.hid h
  clear hl h
  go_enter Try.func5, Try.ntmps5
  go_wp2_with fail
  refine (downs_bad x z y A m cp a b c w HL.out hm v HF.out).mono ?_
  rintro e w1 ⟨rfl, hb1⟩
  go_wp2_with fail
  go_ret2
  exact ⟨rfl, hb1⟩

end Go.Proofs.Ytgcogffhnabdlaa
