/- The walk of waywardenref2.LoopsOf. -/
import Derived.Test.YtjbilhpdnmgljaaDoorLoops
import Derived.Test.YtjbilhpdnmgljaaDoorDeep
import Derived.Test.YtjbilhpdnmgljaaDoorLoopLaw
namespace Go.Proofs.YtjbilhpdnmgljaaDoor
open Go.RowKit
set_option linter.unusedVariables false

theorem back_step {s : Nat → Int} {r k : Nat} {b : Bool} (h : b = true ↔ ∃ j, 1 ≤ j ∧ j < k ∧ itN s r j = r) (hk : 1 ≤ k) (b' : Bool) (hb : b' = true ↔ (b = true ∨ itN s r k = r)) : b' = true ↔ ∃ j, 1 ≤ j ∧ j < k + 1 ∧ itN s r j = r := by
  rw [hb, h]
  constructor
  · rintro (⟨j, h1, h2, h3⟩ | h1)
    · exact ⟨j, h1, by omega, h3⟩
    · exact ⟨k, hk, by omega, h1⟩
  · rintro ⟨j, h1, h2, h3⟩
    rcases Nat.lt_or_ge j k with hlt | hge
    · exact .inl ⟨j, h1, hlt, h3⟩
    · obtain rfl : j = k := by omega
      exact .inr h3

theorem back_end {s : Nat → Int} {n r : Nat} {b : Bool} (hs : OkN n s) (hr : r < n) (h : b = true ↔ ∃ j, 1 ≤ j ∧ j < n + 1 ∧ itN s r j = r) {p : Nat → Bool} (hp : p r = true ↔ OnC s r) : p r = b := by
  have e : b = true ↔ OnC s r := by
    rw [h]
    constructor
    · rintro ⟨j, h1, _, h3⟩
      exact ⟨j, h1, h3⟩
    · intro hc
      obtain ⟨j, h1, h2, h3⟩ := hc.short hs hr
      exact ⟨j, h1, by omega, h3⟩
  cases hb : b <;> cases hq : p r <;> simp_all

set_option maxRecDepth 100000 in
set_option maxHeartbeats 4000000 in
theorem loopsOf_walk (A : Option Addr) (n c : Nat) (s : Nat → Int) (w : World) (hA : Vec w A n s) (hn : n ≤ 17592186044415) (hs : OkN n s) (p : Nat → Bool) (hp : ∀ v, v < n → (p v = true ↔ OnC s v)) :
    Calls Tryd.prog 43 #[.slice A n c] w fun e w' => ∃ v, e = .returned v ∧ OwnV w' w.heap.size v (pickL p n).length (atL (pickL p n)) ∧ Below w.heap.size w w' := by
  have HA := Lib.hid hA
  have HS := Lib.hid hs
  have HP := Lib.hid hp
  have hn' : (n : Int) ≤ 17592186044415 := by omega
  clear hA hs hp
  go_enter Tryd.func43, Tryd.ntmps43
  go_wp2_with fail
  go_loopw [3, 4] (fun v i wr => ∃ r : Nat, r ≤ n ∧ i = .int .i64 r ∧ OwnV wr w.heap.size v (pickL p r).length (atL (pickL p r)) ∧ Below w.heap.size w wr) (fun _ i _ => n - (intOf i).toNat)
  case atStart => exact ⟨0, by omega, rfl, OwnV.nil _ _ _, Below.refl _ _⟩
  case round =>
    obtain ⟨r, hr, rfl, hT, hb⟩ := hrel
    have HT := Lib.hid hT
    have HB := Lib.hid hb
    clear hT hb
    by_cases hlt : r < n
    · have hlt' : (r : Int) < n := by omega
      obtain ⟨u1, hu1⟩ : ∃ u : World, u = wr := ⟨wr, rfl⟩
      subst hu1
      go_wp2_with fail
      go_loopw [5, 6] (fun v5 v6 wq => ∃ (b : Bool) (k : Nat), 1 ≤ k ∧ k ≤ n + 1 ∧ v5 = .bool b ∧ v6 = .int .i64 k ∧ Hid (b = true ↔ ∃ j, 1 ≤ j ∧ j < k ∧ itN s r j = r) ∧ wq = u1) (fun _ i _ => n + 1 - (intOf i).toNat)
      case atStart => exact ⟨false, 1, by omega, by omega, rfl, rfl, Lib.hid ⟨(fun h => by cases h), fun ⟨j, h1, h2, _⟩ => absurd h2 (by omega)⟩, rfl⟩
      case round =>
        obtain ⟨b, k, hk1, hkn, rfl, rfl, hbk, rfl⟩ := hrel
        have HBK := hbk
        clear hbk
        by_cases hkl : k ≤ n
        · have hkl' : (k : Int) ≤ n := by omega
          cases b with
          | true =>
            have HBK2 := Lib.hid (back_step HBK.out hk1 true ⟨fun _ => .inl rfl, fun _ => rfl⟩)
            go_wp2_with fail
            go_roundw
            case rel => exact ⟨true, k + 1, by omega, by omega, rfl, by go_num, Lib.hid ⟨fun _ => HBK2.out.1 (by trivial), fun _ => rfl⟩, trivial⟩
            case measure => simp [intOf]; omega
          | false =>
            have hcall := steps_walk A n c r k r k rfl rfl s _ (HA.out.keep HB.out) (by omega) (by omega) HS.out hlt
            by_cases he : itN s r k = r
            · have HBK2 := Lib.hid (back_step HBK.out hk1 true ⟨fun _ => .inr he, fun _ => rfl⟩)
              rw [he] at hcall
              clear he
              go_wp2_with fail
              refine hcall.mono ?_
              clear hcall
              rintro e w5 ⟨rfl, hw5⟩
              subst w5
              go_wp2_with fail
              go_roundw
              case rel => exact ⟨true, k + 1, by omega, by omega, rfl, by go_num, Lib.hid ⟨fun _ => HBK2.out.1 (by trivial), fun _ => rfl⟩, trivial⟩
              case measure => simp [intOf]; omega
            · have HBK2 := Lib.hid (back_step HBK.out hk1 false ⟨(fun h => by cases h), fun h => absurd h (by simp [he])⟩)
              have hne : (itN s r k == (r : Int)) = false := beq_false_of_ne he
              clear he
              go_wp2_with fail
              refine hcall.mono ?_
              clear hcall
              rintro e w5 ⟨rfl, hw5⟩
              subst w5
              go_wp2_with fail
              go_roundw
              case rel => exact ⟨false, k + 1, by omega, by omega, rfl, by go_num, HBK2, trivial⟩
              case measure => simp [intOf]; omega
        · obtain rfl : k = n + 1 := by omega
          have hpb := back_end HS.out hlt HBK.out (HP.out r hlt)
          have hlen := pickL_len p r
          cases b with
          | true =>
            have HPk := Lib.hid (pickL_yes hpb)
            clear hpb hkl
            go_wp2_with (at_builtin; refine wpList_append_int rfl (.tmp 29) (.tmp 31) rfl w.heap.size _ _ _ rfl (HT.out.alloc _) r _ rfl (cell_new_at _ _ _ rfl) (by omega) (by have := HB.out.size; simp; omega) ?_)
            intro g3 cap3 w3 hT3 hb3 _ _
            have HT3 : Hid (OwnV w3 w.heap.size (.slice (some ⟨g3, 0, none⟩) ((pickL p r).length + 1) cap3) (pickL p (r + 1)).length (atL (pickL p (r + 1)))) := by
              rw [HPk.out, List.length_append]
              exact OwnV.congr hT3 (atL_snoc _ _)
            have HB3 : Hid (Below w.heap.size w w3) := (HB.out.alloc HB.out.size _).trans hb3
            clear hT3 hb3 hlen
            go_wp2_with fail
            go_roundw
            case rel => exact ⟨r + 1, by omega, by go_num, HT3.out, HB3.out⟩
            case measure => simp [intOf]; omega
          | false =>
            have HPk := Lib.hid (pickL_no hpb)
            clear hpb hlen hkl
            go_wp2_with fail
            go_roundw
            case rel => exact ⟨r + 1, by omega, by go_num, by rw [HPk.out]; exact HT.out, HB.out⟩
            case measure => simp [intOf]; omega
    · obtain rfl : r = n := by omega
      go_wp2_with fail
      go_ret
      exact ⟨_, rfl, HT.out, HB.out⟩

end Go.Proofs.YtjbilhpdnmgljaaDoor
