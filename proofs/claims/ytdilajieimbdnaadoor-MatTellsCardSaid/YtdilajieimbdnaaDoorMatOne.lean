/- The walk of mat.One. -/
import Derived.Test.YtdilajieimbdnaaDoorTab
namespace Go.Proofs.YtdilajieimbdnaaDoor
open Go.RowKit
set_option linter.unusedVariables false

/-- The table that changes none. -/
def oneF (i j : Nat) : Int := if i = j then 0 else 16

theorem row_one {w : World} {g n i : Nat} (h : Blk w g 3 (List.replicate n (.int .i64 16)).toArray) (hi : i < n) :
    RowP (w.setCell ⟨g, i, none⟩ (.int .i64 0)) g 3 n (fun j => .int .i64 (oneF i j)) := by
  have h1 : RowP w g 3 n (fun _ => .int .i64 16) := ⟨_, h, by simp, fun j hj => by simp [hj]⟩
  refine (h1.set i (.int .i64 0)).congr fun j hj => ?_
  unfold upd oneF
  by_cases e : j = i
  · subst e; simp
  · rw [if_neg e, if_neg (fun h => e h.symm)]

set_option maxRecDepth 100000 in
set_option maxHeartbeats 1000000 in
theorem matOne_bad (x : Int) (w : World) (h : x < 1 ∨ 8 < x) :
    Calls Tryd.prog 51 #[.int .i64 x] w fun e w' => e = .returned (.tuple #[.slice none 0 0, errNo 1]) ∧ Below w.heap.size w w' := by
  rcases h with h | h
  · go_enter Tryd.func51, Tryd.ntmps51
    go_wp2_with fail
    go_ret2
    exact ⟨rfl, Below.refl _ _⟩
  · go_enter Tryd.func51, Tryd.ntmps51
    go_wp2_with fail
    go_ret2
    exact ⟨rfl, Below.refl _ _⟩

set_option maxRecDepth 100000 in
set_option maxHeartbeats 1000000 in
theorem matOne_ok (n : Nat) (x : Int) (hx : x = (n : Int)) (w : World) (h1 : 1 ≤ n) (h8 : n ≤ 8) :
    Calls Tryd.prog 51 #[.int .i64 x] w fun e w' => ∃ A c, e = .returned (.tuple #[.slice A n c, .nilIface]) ∧ Mat w' A n (fun _ => n) oneF ∧ Below w.heap.size w w' := by
  subst hx
  have h1' : (1 : Int) ≤ n := by omega
  have h8' : (n : Int) ≤ 8 := by omega
  go_enter Tryd.func51, Tryd.ntmps51
  go_wp2_with fail
  go_loopw [4, 15] (fun v i wr => ∃ r : Nat, r ≤ n ∧ i = .int .i64 r ∧ Tab wr w.heap.size v r n oneF ∧ Below w.heap.size w wr) (fun _ i _ => n - (intOf i).toNat)
  case atStart => exact ⟨0, by omega, rfl, Tab.nil _ _ _ _, Below.refl _ _⟩
  case round =>
    obtain ⟨r, hr, rfl, hT, hb⟩ := hrel
    by_cases hlt : r < n
    · have hlt' : (r : Int) < n := by omega
      have HT := Lib.hid hT
      have HB := Lib.hid hb
      clear hT hb
      go_wp2_with fail
      have hcall := repeat_ints wr.heap.size n n 16 (wr.alloc (.cells #[.int .i64 16] 3)) rfl h1 h8 (by simp)
      refine hcall.mono ?_
      clear hcall
      rintro e w1 ⟨rfl, hblk, hb1⟩
      have hs : (wr.alloc (.cells #[Value.int .i64 16] 3)).heap.size = wr.heap.size + 1 := by simp
      rw [hs] at hblk hb1 ⊢
      have HR : Hid (RowP (w1.setCell ⟨wr.heap.size + 1, r, none⟩ (.int .i64 0)) (wr.heap.size + 1) 3 n (fun j => .int .i64 (oneF r j))) := row_one hblk hlt
      have hB1 : Below wr.heap.size wr w1 := (Below.alloc (Below.refl _ _) (Nat.le_refl _) _).trans (hb1.mono (by omega))
      have HB1 : Hid (Below wr.heap.size wr (w1.setCell ⟨wr.heap.size + 1, r, none⟩ (.int .i64 0))) := hB1.setCell (by show wr.heap.size ≤ wr.heap.size + 1; omega) _
      have hc1 : w1.cell? ⟨wr.heap.size + 1, r, none⟩ = some (.int .i64 16) := by rw [hblk.cell]; simp [hlt]
      have hz1 : w1.frozen? ⟨wr.heap.size + 1, r, none⟩ = false := hblk.frozen r
      have hsz : wr.heap.size + 1 ≤ w1.heap.size := by rw [← hs]; exact hb1.size
      clear hblk hb1 hB1
      have HSZ := Lib.hid hsz
      clear hsz hs
      go_wp2_with (at_builtin; refine wpList_append_tab rfl (.tmp 24) (.tmp 26) rfl wr w.heap.size _ r n oneF rfl HT.out (HB1.out.alloc HB1.out.size _) (wr.heap.size + 1) n (by omega) (HR.out.alloc _) _ rfl (cell_new_at _ _ _ (by simp [World.setCell])) (by omega) HB.out.size ?_)
      intro v2 w2 hT2 hb2
      have HT2 := Lib.hid hT2
      have HB2 : Hid (Below w.heap.size w w2) := (HB.out.trans (((HB1.out.alloc HB1.out.size _).mono HB.out.size))).trans hb2
      clear hT2 hb2 hc1 hz1
      go_wp2_with fail
      go_roundw
      case rel => exact ⟨r + 1, by omega, by go_num, HT2.out, HB2.out⟩
      case measure => simp [intOf]; omega
    · have er : r = n := by omega
      subst er
      obtain ⟨g, c, rfl, hm⟩ := hT.mat h1
      have HM := Lib.hid hm
      clear hm hT
      go_wp2_with fail
      go_ret2
      exact ⟨_, _, rfl, HM.out, hb⟩

end Go.Proofs.YtdilajieimbdnaaDoor
