/- ways.First: the walk; the fact of ways: gone. -/
import Derived.Test.YtminfghiejgieaaDoorWays
import Derived.Test.YtminfghiejgieaaDoorBellFixed
import Derived.Test.YtminfghiejgieaaDoorInts
namespace Go.Proofs.YtminfghiejgieaaDoor
open Go.RowKit
set_option linter.unusedVariables false

/-- One number in a slice of one. -/
theorem OwnV.single (w : World) (base : Nat) (hb : base ≤ w.heap.size) (x : Int) (f : Nat → Int) (hf : f 0 = x) : OwnV (w.alloc (.cells #[.int .i64 x] 3)) base (.slice (some ⟨w.heap.size, 0, none⟩) 1 1) 1 f := by
  refine ⟨rfl, .inr ⟨w.heap.size, 1, #[.int .i64 x], rfl, hb, heap_alloc_new w _, Nat.le_refl _, by unfold maxLen; omega, rfl, ?_⟩⟩
  show [Value.int .i64 x] = [.int .i64 (f 0)]
  rw [hf]

/-- Where the first way leads on from i. -/
def stpF (n t : Nat) (K : Nat → Nat → Int) (D : Nat → Int) (i : Nat) : Nat := (atL (upsL n t K D i) 0).toNat
/-- Where it is behind k steps. -/
def fstF (n t : Nat) (K : Nat → Nat → Int) (D : Nat → Int) (s : Nat) : Nat → Nat
  | 0 => s
  | k + 1 => stpF n t K D (fstF n t K D s k)

section
variable {n t : Nat} {K : Nat → Nat → Int} {D : Nat → Int}
theorem stp_at (hK : CostM n K) (hD : FarD n t K D) {i : Nat} (hi : i < n) (h1 : i ≠ t) (h2 : D i < 16) :
    0 < (upsL n t K D i).length ∧ atL (upsL n t K D i) 0 = (stpF n t K D i : Nat) ∧ stpF n t K D i < n ∧ stpF n t K D i ≠ i ∧ D (stpF n t K D i) + K (stpF n t K D i) i = D i := by
  have h0 := ups_some hK hD hi h1 h2
  obtain ⟨p, hp, hpi, -, -, hF, hsum⟩ := ups_at hK hD hi h0
  have e : stpF n t K D i = p := by unfold stpF; rw [hF]; rfl
  rw [e]
  exact ⟨h0, hF, hp, hpi, hsum⟩
end

set_option maxRecDepth 100000 in
set_option maxHeartbeats 4000000 in
theorem first_ok (n s t : Nat) (x z y : Int) (hx : x = (n : Int)) (hz : z = (s : Int)) (hy : y = (t : Int)) (A : Option Addr) (m cp : Nat) (a b c : Nat → Int) (w : World) (hl : Lnk w A m a b c) (hm : m ≤ 9223372036854775807) (hg : GoodG x m a b c) (hs : s < n) (ht : t < n) (h16 : endF t a b c m s < 16) :
    Calls Tryd.prog 40 #[.int .i64 x, .slice A m cp, .int .i64 z, .int .i64 y] w fun e w' => ∃ k v, (fstF n t (costF m a b c) (endF t a b c m) s k = t ∧ ∀ j, j < k → fstF n t (costF m a b c) (endF t a b c m) s j ≠ t) ∧ k ≤ 16 ∧
      e = .returned (.tuple #[v, .nilIface]) ∧ OwnV w' w.heap.size v (k + 1) (fun j => fstF n t (costF m a b c) (endF t a b c m) s j) ∧ Below w.heap.size w w' := by
  subst hx
  subst hz
  subst hy
  have h8 : n ≤ 8 := by have := hg.2.1; omega
  have hr : Right n m a b c := by simpa using hg.2.2
  have h8' : (n : Int) ≤ 8 := by omega
  have HL := Lib.hid hl
  have HG := Lib.hid hg
  have HR := Lib.hid hr
  have h0s := (end_ranged (t := t) hr s hs).1
  have HST := Lib.hid (fun i hi h1 h2 => stp_at (t := t) (cost_m hr) (far_end hr ht) (i := i) hi h1 h2)
  have HLOW := Lib.hid (fun i hi => (cost_m hr).low i (k := s) hi)
  have HKL := Lib.hid (cost_m hr).low
  have HDL := Lib.hid (far_end hr ht).low
  have HLEN := Lib.hid (fun i => pickL_len (upB t (costF m a b c) (endF t a b c m) i) n)
  clear hl hg hr
  go_enter Tryd.func40, Tryd.ntmps40
  go_wp2_with fail
  refine (downs_ok n s t n s t rfl rfl rfl A m cp a b c w HL.out hm HG.out hs ht).mono ?_
  rintro e w1 ⟨vu, rfl, hrag, hb1⟩
  obtain ⟨Au, cu, rfl, hmat⟩ := hrag.mat
  have HT := Lib.hid hmat
  have HB1 := Lib.hid hb1
  have hsz := hb1.size
  have h15 := h16
  clear hrag hmat hb1 h16
  go_wp2_with fail
  go_loopw [2, 12] (fun q u wr => ∃ k : Nat, q = .int .i64 (fstF n t (costF m a b c) (endF t a b c m) s k : Nat) ∧ fstF n t (costF m a b c) (endF t a b c m) s k < n ∧ endF t a b c m (fstF n t (costF m a b c) (endF t a b c m) s k) + k ≤ endF t a b c m s ∧
      (∀ j, j < k → fstF n t (costF m a b c) (endF t a b c m) s j ≠ t) ∧ OwnV wr w1.heap.size u (k + 1) (fun j => fstF n t (costF m a b c) (endF t a b c m) s j) ∧ Below w1.heap.size w1 wr)
    (fun q _ _ => (endF t a b c m (intOf q).toNat).toNat)
  case atStart => exact ⟨0, rfl, hs, by simp [fstF], fun j hj => absurd hj (by omega), OwnV.single _ _ (Nat.le_refl _) _ _ rfl, (Below.refl _ _).alloc (Nat.le_refl _) _⟩
  case round =>
    obtain ⟨k, rfl, hi, hd, hne, hU, hb⟩ := hrel
    obtain ⟨i, hfi⟩ : ∃ i, fstF n t (costF m a b c) (endF t a b c m) s k = i := ⟨_, rfl⟩
    have HFI := Lib.hid hfi
    rw [hfi] at hi hd ⊢
    have HU := Lib.hid hU
    have HB := Lib.hid hb
    have HNE := Lib.hid hne
    clear hfi hU hb hne
    have hi' : (i : Int) < n := by omega
    have hdi := HDL.out i hi
    by_cases hit : i = t
    · have e1 : ((i : Int) != (t : Int)) = false := by simp [hit]
      have e2 : (i != t) = false := by simp [hit]
      have HIT := Lib.hid hit
      clear hit
      go_wp2_with fail
      go_ret2
      exact ⟨k, _, ⟨HFI.out.trans HIT.out, HNE.out⟩, by omega, rfl, HU.out.lift hsz, Below.trans HB1.out (Below.mono HB.out hsz)⟩
    · have e1 : ((i : Int) != (t : Int)) = true := bne_iff_ne.2 (by omega)
      have e2 : (i != t) = true := bne_iff_ne.2 hit
      obtain ⟨hlen, hF, hpn, hpi, hsum⟩ := HST.out i hi hit (by omega)
      have hlen8 := HLEN.out i
      obtain ⟨ad, Ai, ci, rfl, hal, hac, hav⟩ := HT.out i hi
      replace hac : w1.cell? (ad.add i) = some (.slice Ai (upsL n t (costF m a b c) (endF t a b c m) i).length ci) := hac
      obtain ⟨ad2, rfl, hal2, hac2⟩ := hav 0 hlen
      replace hac2 : w1.cell? (ad2.add 0) = some (.int .i64 (atL (upsL n t (costF m a b c) (endF t a b c m) i) 0)) := hac2
      rw [hF] at hac2
      have cr := (HB.out.cell (p := ad.add i) (by rw [block_of_add]; exact hal)).trans hac
      have cr2 := (HB.out.cell (p := ad2.add 0) (by rw [block_of_add]; exact hal2)).trans hac2
      have hcost := HKL.out _ i hpn hi hpi
      have HNX : Hid (fstF n t (costF m a b c) (endF t a b c m) s (k + 1) = stpF n t (costF m a b c) (endF t a b c m) i) := by
        show stpF n t (costF m a b c) (endF t a b c m) (fstF n t (costF m a b c) (endF t a b c m) s k) = _
        rw [HFI.out]
      have HIT := Lib.hid hit
      obtain ⟨p, hp⟩ : ∃ p, stpF n t (costF m a b c) (endF t a b c m) i = p := ⟨_, rfl⟩
      rw [hp] at cr2 hcost hpn hsum
      replace hlen8 : (upsL n t (costF m a b c) (endF t a b c m) i).length ≤ n := hlen8
      obtain ⟨l, hl⟩ : ∃ l, (upsL n t (costF m a b c) (endF t a b c m) i).length = l := ⟨_, rfl⟩
      rw [hl] at cr hlen hlen8
      have hne0 : ((l : Int) == 0) = false := beq_false_of_ne (by omega)
      have HP : Hid (fstF n t (costF m a b c) (endF t a b c m) s (k + 1) = p) := HNX.out.trans hp
      have hpd := HDL.out p hpn
      have cr3 : wr.cell? ad2 = some (.int .i64 (p : Int)) := by rw [Addr.add_zero'] at cr2; exact cr2
      clear hp hF hit hac hac2 hav HNX hl hpi
      go_wp2_with (at_builtin; refine wpList_append_int rfl (.tmp 42) (.tmp 44) rfl w1.heap.size _ _ _ rfl (HU.out.alloc _) p _ rfl (cell_new_at _ _ _ rfl) (by omega) (by have := HB.out.size; simp; omega) ?_)
      intro g3 cap3 w3 hT3 hb3 _ _
      have HT3 : Hid (OwnV w3 w1.heap.size (.slice (some ⟨g3, 0, none⟩) (k + 1 + 1) cap3) (k + 1 + 1) (fun j => fstF n t (costF m a b c) (endF t a b c m) s j)) := by
        refine OwnV.congr hT3 fun j _ => ?_
        unfold upd
        by_cases e : j = k + 1
        · rw [if_pos e, e, HP.out]
        · rw [if_neg e]
      have HB3 : Hid (Below w1.heap.size w1 w3) := (HB.out.alloc HB.out.size _).trans hb3
      clear hT3 hb3
      go_wp2_with fail
      go_roundw
      case rel =>
        refine ⟨k + 1, by rw [HP.out], by rw [HP.out]; exact hpn, by rw [HP.out]; omega, fun j hj => ?_, HT3.out, HB3.out⟩
        by_cases e : j = k
        · rw [e, HFI.out]; exact HIT.out
        · exact HNE.out j (by omega)
      case measure => simp [intOf]; omega

/-- Where nothing leads on: ErrNone. -/
theorem ups_far (n t : Nat) (K : Nat → Nat → Int) (D : Nat → Int) (hK : CostM n K) (hD : FarD n t K D) {s : Nat} (hs : s < n) (h : ¬ D s < 16) : (upsL n t K D s).length = 0 := ups_none hK hD hs (.inr h)

set_option maxRecDepth 100000 in
set_option maxHeartbeats 4000000 in
theorem first_none (n s t : Nat) (x z y : Int) (hx : x = (n : Int)) (hz : z = (s : Int)) (hy : y = (t : Int)) (A : Option Addr) (m cp : Nat) (a b c : Nat → Int) (w : World) (hl : Lnk w A m a b c) (hm : m ≤ 9223372036854775807) (hg : GoodG x m a b c) (hs : s < n) (ht : t < n) (h16 : ¬ endF t a b c m s < 16) :
    Calls Tryd.prog 40 #[.int .i64 x, .slice A m cp, .int .i64 z, .int .i64 y] w fun e w' => e = .returned (.tuple #[.slice none 0 0, errNo 2]) ∧ Below w.heap.size w w' := by
  subst hx
  subst hz
  subst hy
  have h8 : n ≤ 8 := by have := hg.2.1; omega
  have hr : Right n m a b c := by simpa using hg.2.2
  have h8' : (n : Int) ≤ 8 := by omega
  have hs' : (s : Int) < n := by omega
  have HL := Lib.hid hl
  have HG := Lib.hid hg
  have hu := ups_far n t _ _ (cost_m hr) (far_end hr ht) hs h16
  have hst : s ≠ t := fun e => h16 (by rw [e, (far_end hr ht).zero]; omega)
  have e1 : ((s : Int) != (t : Int)) = true := bne_iff_ne.2 (by omega)
  have e2 : (s != t) = true := bne_iff_ne.2 hst
  clear hl hg hr h16
  go_enter Tryd.func40, Tryd.ntmps40
  go_wp2_with fail
  refine (downs_ok n s t n s t rfl rfl rfl A m cp a b c w HL.out hm HG.out hs ht).mono ?_
  rintro e w1 ⟨vu, rfl, hrag, hb1⟩
  obtain ⟨Au, cu, rfl, hmat⟩ := hrag.mat
  obtain ⟨ad, Ai, ci, rfl, hal, hac, -⟩ := hmat s hs
  replace hac : w1.cell? (ad.add s) = some (.slice Ai (upsL n t (costF m a b c) (endF t a b c m) s).length ci) := hac
  rw [hu] at hac
  have hac2 : (w1.alloc (.cells #[.int .i64 s] 3)).cell? (ad.add s) = some (.slice Ai 0 ci) := (World.cell?_alloc_lt w1 _ _ (by rw [block_of_add]; exact hal)).trans hac
  have HB1 := Lib.hid hb1
  clear hrag hmat hb1
  go_wp2_with fail
  refine wp_loop_rounds 1 ?_
  rw [rounds_succ]
  go_wp2_with fail
  go_ret2
  exact ⟨rfl, HB1.out.alloc HB1.out.size _⟩

end Go.Proofs.YtminfghiejgieaaDoor
