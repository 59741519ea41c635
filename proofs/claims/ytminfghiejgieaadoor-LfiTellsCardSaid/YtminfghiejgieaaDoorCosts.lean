/- The walk of graph.Costs: the table of what links cost. -/
import Derived.Test.YtminfghiejgieaaDoorTabAt
import Derived.Test.YtminfghiejgieaaDoorCost
import Derived.Test.YtminfghiejgieaaDoorComm
import Derived.Test.YtminfghiejgieaaDoorMatOne
import Derived.Deep.RegionHeld3
namespace Go.Proofs.YtminfghiejgieaaDoor
open Go.RowKit
set_option linter.unusedVariables false

/-- The table of what m links cost. -/
def costF (m : Nat) (a b c : Nat → Int) (i k : Nat) : Int := costV m a b c i k

theorem costF_zero (a b c : Nat → Int) (i k : Nat) : oneF i k = costF 0 a b c i k := by
  unfold oneF costF
  by_cases h : i = k
  · subst h; rw [if_pos rfl, costV_same]
  · rw [if_neg h, costV_none (by omega) fun j hj => absurd hj (by omega)]

theorem firstM_skip {a b : Nat → Int} {u v : Int} {q : Nat} (h : ¬ Mt a b q u v) : firstM a b u v (q + 1) = firstM a b u v q := by
  show (match firstM a b u v q with | some j => some j | none => if Mt a b q u v then some q else none) = _
  cases firstM a b u v q with
  | some j => rfl
  | none => simp only [if_neg h]

theorem costF_succ {n q p s : Nat} {a b c : Nat → Int} (hr : Right n (q + 1) a b c) (hp : nA a q = p) (hs : nA b q = s) (i k : Nat) :
    costF (q + 1) a b c i k = if (i = p ∧ k = s) ∨ (i = s ∧ k = p) then c q else costF q a b c i k := by
  unfold costF
  have hmt : Mt a b q (i : Int) k ↔ ((i = p ∧ k = s) ∨ (i = s ∧ k = p)) := by
    rw [Mt.edge hr (show q < q + 1 by omega), hp, hs]
    omega
  obtain ⟨-, -, hne, -⟩ := right_nat hr (show q < q + 1 by omega)
  rw [hp, hs] at hne
  by_cases h : (i = p ∧ k = s) ∨ (i = s ∧ k = p)
  · rw [if_pos h]
    refine costV_at (by omega) (by omega) (fun j hj hm => ?_) (hmt.2 h)
    exact Edge.one_lt (u := i) (v := k) hr (show q < q + 1 by omega) hj ((Mt.edge hr (by omega)).1 (hmt.2 h)) ((Mt.edge hr (by omega)).1 hm)
  · rw [if_neg h]
    unfold costV
    rw [firstM_skip fun hm => h (hmt.1 hm)]

theorem cell_drew (w : World) (q : Addr) : w.drew.cell? q = w.cell? q := rfl
theorem cell_far {w : World} {p q : Addr} {v : Value} (h : q.block ≠ p.block) : (w.setCell p v).cell? q = w.cell? q := (Below.refl (q.block + 1) (w.setCell p v)).cell (Nat.lt_succ_self _) |>.trans (by
  unfold World.cell?
  rw [Below.heap_setCell w p v q.block h])

/-- What the exchange of a link's costs reads. -/
def CostsS (h g p s r : Nat) (x : Int) (B C : Nat → Nat) (w : World) : Prop :=
  w.cell? ⟨h, 0, none⟩ = some (.int .i64 p) ∧ w.cell? ⟨h, 1, none⟩ = some (.int .i64 s) ∧ w.cell? ⟨h, 2, none⟩ = some (.int .i64 x) ∧ w.cell? ⟨g, p, none⟩ = some (.slice (some ⟨B p, 0, none⟩) r (C p)) ∧ w.cell? ⟨g, s, none⟩ = some (.slice (some ⟨B s, 0, none⟩) r (C s))

theorem CostsS.keep {h g p s r : Nat} {x : Int} {B C : Nat → Nat} {w : World} (hS : CostsS h g p s r x B C w) {b o : Nat} {v : Value} (h1 : h ≠ b) (h2 : g ≠ b) : CostsS h g p s r x B C (w.setCell ⟨b, o, none⟩ v).drew := by
  obtain ⟨a1, a2, a3, a4, a5⟩ := hS
  exact ⟨(cell_far h1).trans a1, (cell_far h1).trans a2, (cell_far h1).trans a3, (cell_far h2).trans a4, (cell_far h2).trans a5⟩

theorem costs_bad (x : Int) (A : Option Addr) (m cp : Nat) (a b c : Nat → Int) (w : World) (hl : Lnk w A m a b c) (hm : m ≤ 9223372036854775807) (k : Int) (h : FaultG x m a b c k) :
    Calls Tryd.prog 41 #[.int .i64 x, .slice A m cp] w fun e w' => e = .returned (.tuple #[.slice none 0 0, errNo k]) ∧ Below w.heap.size w w' := by
  have HL := Lib.hid hl
  have HF := Lib.hid h
  clear hl h
  go_enter Tryd.func41, Tryd.ntmps41
  go_wp2_with fail
  refine (graphCheck_bad x A m cp a b c w HL.out hm k HF.out).mono ?_
  rintro e w1 ⟨rfl, hb1⟩
  go_wp2_with fail
  go_ret2
  exact ⟨rfl, hb1⟩

set_option maxRecDepth 100000 in
set_option maxHeartbeats 4000000 in
theorem costs_ok (n : Nat) (x : Int) (hx : x = (n : Int)) (A : Option Addr) (m cp : Nat) (a b c : Nat → Int) (w : World) (hl : Lnk w A m a b c) (hm : m ≤ 9223372036854775807) (hg : GoodG x m a b c) :
    Calls Tryd.prog 41 #[.int .i64 x, .slice A m cp] w fun e w' => ∃ g cg B C, e = .returned (.tuple #[.slice (some ⟨g, 0, none⟩) n cg, .nilIface]) ∧ w.heap.size ≤ g ∧ TabAt w' w.heap.size (.slice (some ⟨g, 0, none⟩) n cg) B C n n (costF m a b c) ∧ Below w.heap.size w w' := by
  subst hx
  have h1 : 1 ≤ n := by have := hg.1; omega
  have h8 : n ≤ 8 := by have := hg.2.1; omega
  have hR : Right n m a b c := by simpa using hg.2.2
  have HL := Lib.hid hl
  have HG := Lib.hid hg
  have HR := Lib.hid hR
  have h1' : (1 : Int) ≤ n := by omega
  have h8' : (n : Int) ≤ 8 := by omega
  clear hl hg hR
  go_enter Tryd.func41, Tryd.ntmps41
  go_wp2_with fail
  refine (graphCheck_good n A m cp a b c w HL.out hm HG.out).mono ?_
  rintro e w1 ⟨rfl, hb1⟩
  have HB1 := Lib.hid hb1
  have HS1 := Lib.hid hb1.size
  clear hb1
  go_wp2_with fail
  go_loopw [7, 19] (fun v i wr => ∃ r : Nat, r ≤ n ∧ i = .int .i64 r ∧ Tab wr w.heap.size v r n oneF ∧ Below w.heap.size w wr) (fun _ i _ => n - (intOf i).toNat)
  case atStart => exact ⟨0, by omega, rfl, Tab.nil _ _ _ _, HB1.out⟩
  case round =>
    obtain ⟨r, hr, rfl, hT, hb⟩ := hrel
    have HT := Lib.hid hT
    have HB := Lib.hid hb
    clear hT hb HB1
    by_cases hlt : r < n
    · have hlt' : (r : Int) < n := by omega
      go_wp2_with fail
      have hcall := repeat_ints wr.heap.size n n 16 (wr.alloc (.cells #[.int .i64 16] 3)) rfl h1 h8 (by simp)
      refine hcall.mono ?_
      clear hcall
      rintro e w1 ⟨rfl, hblk, hb1⟩
      have hs : (wr.alloc (.cells #[Value.int .i64 16] 3)).heap.size = wr.heap.size + 1 := by simp
      rw [hs] at hblk hb1 ⊢
      have HR1 : Hid (RowP (w1.setCell ⟨wr.heap.size + 1, r, none⟩ (.int .i64 0)) (wr.heap.size + 1) 3 n (fun j => .int .i64 (oneF r j))) := row_one hblk hlt
      have hB1 : Below wr.heap.size wr w1 := (Below.alloc (Below.refl _ _) (Nat.le_refl _) _).trans (hb1.mono (by omega))
      have HB1 : Hid (Below wr.heap.size wr (w1.setCell ⟨wr.heap.size + 1, r, none⟩ (.int .i64 0))) := hB1.setCell (by show wr.heap.size ≤ wr.heap.size + 1; omega) _
      have hc1 : w1.cell? ⟨wr.heap.size + 1, r, none⟩ = some (.int .i64 16) := by rw [hblk.cell]; simp [hlt]
      have hz1 : w1.frozen? ⟨wr.heap.size + 1, r, none⟩ = false := hblk.frozen r
      have hsz : wr.heap.size + 1 ≤ w1.heap.size := by rw [← hs]; exact hb1.size
      clear hblk hb1 hB1
      have HSZ := Lib.hid hsz
      clear hsz hs
      go_wp2_with (at_builtin; refine wpList_append_tab rfl (.tmp 28) (.tmp 30) rfl wr w.heap.size _ r n oneF rfl HT.out (HB1.out.alloc HB1.out.size _) (wr.heap.size + 1) n (by omega) (HR1.out.alloc _) _ rfl (cell_new_at _ _ _ (by simp [World.setCell])) (by omega) HB.out.size ?_)
      intro v2 w2 hT2 hb2
      have HT2 := Lib.hid hT2
      have HB2 : Hid (Below w.heap.size w w2) := (HB.out.trans (((HB1.out.alloc HB1.out.size _).mono HB.out.size))).trans hb2
      clear hT2 hb2 hc1 hz1
      go_wp2_with fail
      go_roundw
      case rel => exact ⟨r + 1, by omega, by go_num, HT2.out, HB2.out⟩
      case measure => simp [intOf]; omega
    · have er : r = n := by omega
      subst er
      obtain ⟨B, C, hat⟩ := HT.out.at_
      obtain ⟨g, cg, rfl, hgb, hgl, hgc, hgn⟩ := hat.cells h1
      have HGB := Lib.hid hgb
      have HAT := Lib.hid (hat.congr fun i k _ _ => costF_zero a b c i k)
      have HS : Hid (w.heap.size ≤ wr.heap.size) := HB.out.size
      clear hat hgb hgl hgc hgn HT HS1
      go_wp2_with fail
      go_loopw [35] (fun i wj => ∃ q : Nat, q ≤ m ∧ i = .int .i64 q ∧ TabAt wj w.heap.size (.slice (some ⟨g, 0, none⟩) r cg) B C r r (costF q a b c) ∧ Below w.heap.size w wj) (fun i _ => m - (intOf i).toNat)
      case atStart => exact ⟨0, by omega, rfl, HAT.out, HB.out⟩
      case round =>
        obtain ⟨q, hq, rfl, hat, hb⟩ := hrel
        clear HAT HB HS
        by_cases hql : q < m
        · have hql' : (q : Int) < m := by omega
          obtain ⟨ad, rfl, hc0, hc1, hc2⟩ := HL.out.cells hb q hql
          obtain ⟨hpn, hsn, hps, hk0, hk1, ea, eb⟩ := right_nat HR.out hql
          obtain ⟨p, hp⟩ : ∃ p, nA a q = p := ⟨_, rfl⟩
          obtain ⟨s, hs⟩ : ∃ s, nA b q = s := ⟨_, rfl⟩
          have HP := Lib.hid hp
          have HQ := Lib.hid hs
          rw [hp] at hpn hps ea
          rw [hs] at hsn hps eb
          rw [ea] at hc0
          rw [eb] at hc1
          clear hp hs ea eb
          have hpn' : (p : Int) < r := by omega
          have hsn' : (s : Int) < r := by omega
          have hat1 := hat.below ((Below.refl _ _).alloc (Nat.le_refl _) (.cells #[.int .i64 p, .int .i64 s, .int .i64 (c q)] 69))
          have hb1 := hb.alloc hb.size (.cells #[.int .i64 p, .int .i64 s, .int .i64 (c q)] 69)
          obtain ⟨g', cg', e, -, hgl, hgc, hgn⟩ := hat1.cells h1
          have eg : g = g' := by
            simp only [Value.slice.injEq, Option.some.injEq, Addr.mk.injEq] at e
            exact e.1.1
          subst eg
          have hcp := hgc p hpn
          have hcs := hgc s hsn
          have hx0 := (hat1.row p hpn).2.cell hsn
          have hx1 := (hat1.row s hsn).2.cell hpn
          have hz0 := (hat1.row p hpn).2.frozen s
          have hz1 := (hat1.row s hsn).2.frozen p
          have hgp := hgn p hpn
          have hgs := hgn s hsn
          have hwp : wr.heap.size ≠ B p := Nat.ne_of_gt (hat.row p hpn).2.lt
          have hws : wr.heap.size ≠ B s := Nat.ne_of_gt (hat.row s hsn).2.lt
          have hBne : B p ≠ B s := fun h => hps (hat1.inj p s hpn hsn h)
          have hBne' : B s ≠ B p := fun h => hBne h.symm
          have HX := Lib.hid (((hat1.set hpn s (c q)).set hsn p (c q)).congr fun i k _ _ => by
            show (if i = s ∧ k = p then c q else if i = p ∧ k = s then c q else costF q a b c i k) = costF (q + 1) a b c i k
            rw [costF_succ (fun i hi => HR.out i (by omega)) HP.out HQ.out i k]
            by_cases h1 : i = s ∧ k = p
            · rw [if_pos h1, if_pos (.inr h1)]
            · rw [if_neg h1]
              by_cases h2 : i = p ∧ k = s
              · rw [if_pos h2, if_pos (.inl h2)]
              · rw [if_neg h2, if_neg (fun h => h.elim h2 h1)])
          have HBX : Hid (Below w.heap.size w (((wr.alloc (.cells #[.int .i64 p, .int .i64 s, .int .i64 (c q)] 69)).setCell ⟨B p, s, none⟩ (.int .i64 (c q))).setCell ⟨B s, p, none⟩ (.int .i64 (c q)))) := (hb1.setCell (hat1.row p hpn).1 _).setCell (hat1.row s hsn).1 _
          have HS0 : Hid (CostsS wr.heap.size g p s r (c q) B C (wr.alloc (.cells #[.int .i64 p, .int .i64 s, .int .i64 (c q)] 69))) := ⟨by simp, by simp, by simp, hcp, hcs⟩
          have HS1 : Hid (CostsS wr.heap.size g p s r (c q) B C ((wr.alloc (.cells #[.int .i64 p, .int .i64 s, .int .i64 (c q)] 69)).setCell ⟨B p, s, none⟩ (.int .i64 (c q))).drew) := HS0.out.keep hwp hgp
          have HS2 : Hid (CostsS wr.heap.size g p s r (c q) B C (((wr.alloc (.cells #[.int .i64 p, .int .i64 s, .int .i64 (c q)] 69)).setCell ⟨B p, s, none⟩ (.int .i64 (c q))).setCell ⟨B s, p, none⟩ (.int .i64 (c q))).drew) := CostsS.keep (w := ((wr.alloc (.cells #[.int .i64 p, .int .i64 s, .int .i64 (c q)] 69)).setCell ⟨B p, s, none⟩ (.int .i64 (c q))).drew) HS1.out hws hgs
          clear hat hat1 hb hb1 hgc hgn hgl e HS0
          go_wp2_with fail
          go_region_held3 (fun w' => w'.cell? ⟨wr.heap.size, 0, none⟩ = some (.int .i64 p) ∧ w'.cell? ⟨wr.heap.size, 1, none⟩ = some (.int .i64 s) ∧ w'.cell? ⟨wr.heap.size, 2, none⟩ = some (.int .i64 (c q)) ∧ w'.cell? ⟨g, p, none⟩ = some (.slice (some ⟨B p, 0, none⟩) r (C p)) ∧ w'.cell? ⟨g, s, none⟩ = some (.slice (some ⟨B s, 0, none⟩) r (C s))) (first | exact HS1.out | exact HS2.out | go_keep) (fail)
          go_wp2_with fail
          go_roundw
          case rel => exact ⟨q + 1, by omega, by go_num, HX.out.drew, HBX.out.drew⟩
          case measure => simp [intOf]; omega
        · have eq : q = m := by omega
          subst eq
          have HX := Lib.hid hat
          have HBX := Lib.hid hb
          clear hat hb
          go_wp2_with fail
          go_ret2
          exact ⟨g, cg, B, C, rfl, HGB.out, HX.out, HBX.out⟩

end Go.Proofs.YtminfghiejgieaaDoor
