/- The walks of slices.Grow (of nothing) and slices.Concat (of a square table). -/
import Derived.Test.YtlbdbfmgkappaaaDoorTouch
import Derived.Maps.AppendAt
import Derived.Lib.AppendZerosOnto
namespace Go.Proofs.YtlbdbfmgkappaaaDoor
open Go.RowKit
set_option linter.unusedVariables false

theorem infoIntC : (Tryd.prog.info? 3).map (fun i => (i.zero, i.size, i.bytes)) = some (some (.int .i64 0), 1, 8) := by kernel_rfl

/-- An append whose run is known. -/
theorem wpList_append_run {P : Program} {w w' : World} {ops : Array Oper} {rest : List Oper} {o : Oper} {a : Act} {Q : Exit → Act → World → Prop} (hgd : o.guard = none) (s x : Operand) (t u : TypeId)
    (ho : o.op = .call { callee := .builtin .append, args := #[s, x], argTypes := #[t, u] }) (v y r : Value) (hs : a.eval s = v) (hx : a.eval x = y)
    (hr : (Builtin.append_ #[t, u] o.type #[v, y]).run P w = .ok r w') (h : wpList P ops Q rest (a.put o.dst r) w') : wpList P ops Q (o :: rest) a w :=
  wpList_plain hgd fun K hK => by
    unfold Oper.wp execOp
    simp only [ho, resolve, invoke, builtin, Sem.run_bind, Sem.run_pure, Result.andThen_ok, List.map_toArray, List.map_cons, List.map_nil, hs, hx, hr]
    exact hK _ _ h

set_option maxRecDepth 100000 in
set_option maxHeartbeats 1000000 in
theorem grow_nil (n : Nat) (x : Int) (hx : x = (n : Int)) (w : World) (h1 : 1 ≤ n) (h2 : n ≤ 1000) :
    Calls Tryd.prog 79 #[.slice none 0 0, .int .i64 x] w fun e w' => ∃ G, e = .returned (.slice (some ⟨w.heap.size, 0, none⟩) 0 G) ∧
      w'.ownsRow w.heap.size 3 1 (.slice (some ⟨w.heap.size, 0, none⟩) 0 G) 0 [] ∧ Below w.heap.size w w' := by
  subst hx
  obtain ⟨i0, hi0, hz0, hs0, hb0⟩ := info_parts infoIntC
  have hold : (Builtin.firstCells i0.size 0 (.slice none 0 0)).run Tryd.prog w.drew = .ok ([] : List Value).toArray w.drew := run_firstCells_none w.drew i0.size 0 0 0
  have hr := fun ty => Lib.run_append_grow_zeros w 23 3 ty 3 i0 (.int .i64 0) .i64 .i64 Tryd.underlying23 Tryd.underlying3 hi0 hz0 none 0 0 [] hold n (by omega) (by omega) (by omega) (by omega) (by rw [hb0]; omega) (growslice_fits (by omega) (by rw [hb0]; omega))
  rw [Nat.zero_add] at hr
  have hG := grownCap_ge w n 0 3
  have hG2 := grownCap_le_maxLen w n 0 3 (by unfold maxLen; omega)
  have hown : (w.drew.alloc (.cells (([] : List Value).toArray ++ Builtin.zeroCells (Value.int .i64 0).cells n ++ Builtin.zeroCells (Value.int .i64 0).cells (grownCap w n 0 3 - n)) 3)).ownsRow w.heap.size 3 1 (.slice (some ⟨w.heap.size, 0, none⟩) 0 (grownCap w n 0 3)) 0 [] := by
    refine World.ownsRow_made w.drew _ _ (Nat.le_refl _) hG2 ?_
    simp [size_zeroCells, Value.cells]
    omega
  have HO := Lib.hid hown
  have hb : Below w.heap.size w (w.drew.alloc (.cells (([] : List Value).toArray ++ Builtin.zeroCells (Value.int .i64 0).cells n ++ Builtin.zeroCells (Value.int .i64 0).cells (grownCap w n 0 3 - n)) 3)) := (Below.refl _ _).drew.alloc (Nat.le_refl _) _
  have HB := Lib.hid hb
  clear hown hb hold hi0 hz0 hs0 hb0
  generalize hcs : ([] : List Value).toArray ++ Builtin.zeroCells (Value.int .i64 0).cells n ++ Builtin.zeroCells (Value.int .i64 0).cells (grownCap w n 0 3 - n) = cs at *
  generalize hGe : grownCap w n 0 3 = G at *
  clear hcs hGe
  have h1' : (1 : Int) ≤ n := by omega
  have h2' : (n : Int) ≤ 1000 := by omega
  have hG3 : G ≤ 9223372036854775807 := by unfold maxLen at hG2; omega
  clear hG2
  have HR := Lib.hid hr
  clear hr
  go_enter Tryd.func79, Tryd.ntmps79
  go_wp2_with (at_builtin; refine wpList_append_run rfl (.tmp 20) (.tmp 21) 23 3 rfl _ _ _ rfl rfl (HR.out _) ?_)
  go_ret
  exact ⟨G, rfl, HO.out, HB.out⟩

theorem map_range_add {α : Type} (a b : Nat) (F : Nat → α) : (List.range a).map F ++ (List.range b).map (fun j => F (a + j)) = (List.range (a + b)).map F := by
  rw [List.range_add, List.map_append, List.map_map]
  rfl

/-- A row's numbers, as the append wants them. -/
theorem Vec.news {w : World} {ad : Addr} {n : Nat} {f : Nat → Int} (h : Vec w (some ad) n f) : ∀ j u, ((List.range n).map fun j => Value.int .i64 (f j))[j]? = some u → w.cell? (ad.add j) = some u := by
  intro j u hu
  have hj : j < n := by
    have := (List.getElem?_eq_some_iff.1 hu).1
    simpa using this
  obtain ⟨ad', e, _, hc⟩ := h j hj
  injection e with e
  subst e
  rw [hc]
  simpa [hj] using hu

theorem row_lit {n r : Nat} (h1 : 1 ≤ n) (f : Nat → Nat → Int) : (List.range n).map (fun j => Value.int .i64 (f r j)) = (List.range n).map (fun j => (fun q => Value.int .i64 (f (q / n) (q % n))) (r * n + j)) := by
  apply List.map_congr_left
  intro j hj
  have hj' := List.mem_range.1 hj
  have e1 : (r * n + j) / n = r := by
    rw [Nat.mul_comm, Nat.mul_add_div (by omega), Nat.div_eq_of_lt hj', Nat.add_zero]
  have e2 : (r * n + j) % n = j := by rw [Nat.mul_comm, Nat.mul_add_mod, Nat.mod_eq_of_lt hj']
  show Value.int .i64 (f r j) = Value.int .i64 (f ((r * n + j) / n) ((r * n + j) % n))
  rw [e1, e2]

set_option maxRecDepth 100000 in
set_option maxHeartbeats 1000000 in
theorem concat_square (A : Option Addr) (n c : Nat) (f : Nat → Nat → Int) (w : World) (hm : Mat w A n (fun _ => n) f) (h1 : 1 ≤ n) (h8 : n ≤ 8) :
    Calls Tryd.prog 71 #[.slice A n c] w fun e w' => ∃ v, e = .returned v ∧
      w'.ownsRow w.heap.size 3 1 v (n * n) ((List.range (n * n)).map fun q => .int .i64 (f (q / n) (q % n))) ∧ Below w.heap.size w w' := by
  obtain ⟨i0, hi0, hz0, hz1, hz2⟩ := info_parts infoIntC
  have HI := Lib.hid hi0
  have HZ := Lib.hid hz0
  have HZ1 := Lib.hid hz1
  have HZ2 := Lib.hid hz2
  clear hi0 hz0 hz1 hz2
  have HM := Lib.hid hm
  clear hm
  have h1' : (1 : Int) ≤ n := by omega
  have h8' : (n : Int) ≤ 8 := by omega
  go_enter Tryd.func71, Tryd.ntmps71
  go_wp2_with fail
  go_loop [3, 11] (fun s i => ∃ r p : Nat, r ≤ n ∧ Hid (p = r * n) ∧ i = .int .i64 r ∧ s = .int .i64 p) (fun _ i => n - (intOf i).toNat)
  case atStart => exact ⟨0, 0, by omega, Lib.hid (by simp), rfl, rfl⟩
  case round =>
    obtain ⟨r, p, hr, hp, rfl, rfl⟩ := hrel
    have hrn : p ≤ 64 := by
      rw [hp.out]
      exact Nat.le_trans (Nat.mul_le_mul hr (Nat.le_refl n)) (Nat.le_trans (Nat.mul_le_mul h8 h8) (by omega))
    by_cases hlt : r < n
    · obtain ⟨ad, Ai, ci, rfl, hadb, hc, hv⟩ := HM.out r hlt
      have hlt' : (r : Int) < n := by omega
      have hS : Hid (p + n = (r + 1) * n) := by
        show p + n = (r + 1) * n
        rw [Nat.succ_mul, hp.out]
      clear hv hadb hp
      go_wp2_with fail
      go_round
      case rel => exact ⟨r + 1, p + n, by omega, hS, by go_num, by go_num⟩
      case measure => simp [intOf]; omega
    · have er : r = n := by omega
      subst er
      have hnn : 1 ≤ p := by rw [hp.out]; exact Nat.mul_le_mul h1 h1
      have HP := hp
      clear hp
      go_wp2_with fail
      have hcall := grow_nil p _ rfl w hnn (by omega)
      refine hcall.mono ?_
      clear hcall
      rintro e w1 ⟨G, rfl, hown, hb⟩
      have HS : Hid (∃ v, w1.ownsRow w.heap.size 3 1 v (0 * r) ((List.range (0 * r)).map fun q => .int .i64 (f (q / r) (q % r))) ∧ v = .slice (some ⟨w.heap.size, 0, none⟩) 0 G ∧ Below w.heap.size w w1) :=
        ⟨_, by simpa using hown, rfl, hb⟩
      clear hown hb
      go_wp2_with fail
      go_loopw [6, 27] (fun v i wr => ∃ k : Nat, k ≤ r ∧ i = .int .i64 k ∧ wr.ownsRow w.heap.size 3 1 v (k * r) ((List.range (k * r)).map fun q => .int .i64 (f (q / r) (q % r))) ∧ Below w.heap.size w wr) (fun _ i _ => r - (intOf i).toNat)
      case atStart =>
        obtain ⟨v, ho, rfl, hb⟩ := HS.out
        exact ⟨0, by omega, rfl, ho, hb⟩
      case round =>
        obtain ⟨k, hk, rfl, hown, hbw⟩ := hrel
        clear HS
        by_cases hlt : k < r
        · obtain ⟨ad, Ai, ci, hA, hadb, hc, hv⟩ := HM.out k hlt
          have hc' : wr.cell? (ad.add k) = some (.slice Ai r ci) := (hbw.cell (by rw [block_of_add]; exact hadb)).trans hc
          obtain ⟨ad2, hA2, _, _⟩ := hv 0 (by show 0 < r; omega)
          subst hA
          subst hA2
          have hvw : Vec wr (some ad2) r (f k) := hv.keep hbw
          have HN := Lib.hid hvw.news
          have hkr : k * r ≤ 64 := Nat.le_trans (Nat.mul_le_mul hk (Nat.le_refl r)) (Nat.le_trans (Nat.mul_le_mul h8 h8) (by omega))
          have HO := Lib.hid hown
          have HB := Lib.hid hbw
          clear hv hvw hc hadb hown hbw
          go_wp2_with (at_builtin; refine wpList_append_own_at _ rfl (.tmp 31) (.tmp 32) 23 rfl w.heap.size 3 i0 (.int .i64 0) 1 8 Tryd.underlying23 HI.out HZ.out HZ1.out HZ2.out rfl (by decide) _ _ _ rfl HO.out ad2 r ci ((List.range r).map fun j => Value.int .i64 (f k j)) rfl (by simp) HN.out (by intro u hu; obtain ⟨_, _, rfl⟩ := List.mem_map.1 hu; rfl) (by unfold maxLen; omega) (by omega) HB.out.size ?_)
          intro v1 w2 hown1 hg1 hnil1 hat1
          have HO1 : Hid (w2.ownsRow w.heap.size 3 1 v1 ((k + 1) * r) ((List.range ((k + 1) * r)).map fun q => .int .i64 (f (q / r) (q % r)))) := by
            show w2.ownsRow w.heap.size 3 1 v1 ((k + 1) * r) ((List.range ((k + 1) * r)).map fun q => .int .i64 (f (q / r) (q % r)))
            rw [row_lit h1 f, map_range_add, ← Nat.succ_mul] at hown1
            exact hown1
          have HB1 : Hid (Below w.heap.size w w2) := HB.out.grown hg1 HB.out.size (fun b hb => (HO.out.lt b hb).1)
          clear hown1 hg1 hnil1 hat1
          go_wp2_with fail
          go_roundw
          case rel => exact ⟨k + 1, by omega, by go_num, HO1.out, HB1.out⟩
          case measure => simp [intOf]; omega
        · have ek : k = r := by omega
          subst ek
          have HO := Lib.hid hown
          clear hown
          go_wp2_with fail
          go_ret
          exact ⟨_, rfl, HO.out, hbw⟩

end Go.Proofs.YtlbdbfmgkappaaaDoor
