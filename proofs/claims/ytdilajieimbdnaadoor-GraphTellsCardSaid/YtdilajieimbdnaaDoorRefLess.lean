/- The walks of the reference's LessLink and of waywardensame.Links. -/
import Derived.Test.YtdilajieimbdnaaDoorOwnLk
import Derived.Deep.QuietTactic
import Derived.BigQuiet
namespace Go.Proofs.YtdilajieimbdnaaDoor
open Go.RowKit
set_option linter.unusedVariables false

/-- An append of one link, in a plain region. -/
theorem wpList_append_lnk {w : World} {ops : Array Oper} {rest : List Oper} {o : Oper} {act : Act} {Q : Exit → Act → World → Prop} (hgd : o.guard = none) (s x : Operand)
    (ho : o.op = .call { callee := .builtin .append, args := #[s, x], argTypes := #[50, 50] })
    (base : Nat) (v : Value) (n : Nat) (a b c : Nat → Int) (hs : act.eval s = v) (hT : OwnLk w base v n a b c) (p q r : Int) (ad : Addr) (hx : act.eval x = .slice (some ad) 1 1)
    (hnew : ∀ j u, [Value.int .i64 p, .int .i64 q, .int .i64 r][j]? = some u → w.cell? (ad.add j) = some u) (hn : n ≤ 1000000000000) (hbase : base ≤ w.heap.size)
    (h : ∀ g cap w', OwnLk w' base (.slice (some ⟨g, 0, none⟩) (n + 1) cap) (n + 1) (upd a n p) (upd b n q) (upd c n r) → Below base w w' → wpList Tryd.prog ops Q rest (act.put o.dst (.slice (some ⟨g, 0, none⟩) (n + 1) cap)) w') :
    wpList Tryd.prog ops Q (o :: rest) act w := by
  obtain ⟨i0, hi0, hz0, hz1, hz2⟩ := info_parts infoLink
  refine wpList_append_lies w hgd s x 50 ho base 95 i0 _ 3 24 Tryd.underlying50 hi0 hz0 hz1 hz2 rfl (by decide) v n _ hs hT ad 1 1 [.int .i64 p, .int .i64 q, .int .i64 r] hx rfl hnew (by simp [Value.oneCell']) (by omega) (by unfold maxLen; omega) (by omega) hbase _ rfl ?_
  intro g cap w' h1 h2 h3 _
  rw [links_snoc] at h1
  refine h g cap w' h1 ⟨h2.os, h2.tape, h2.output, h2.size, fun k hk => h2.block k (by omega) fun e => ?_⟩
  rcases hT.form with ⟨_, rfl⟩ | ⟨g', c', rfl, hb, _⟩
  · cases e
  · have e' : k = g' := by simpa [Value.ownBlock] using e
    omega

/-- How many of the first r are left without the one at jj. -/
def leftN (jj r : Nat) : Nat := if r ≤ jj then r else r - 1

theorem upd_dropF {jj r : Nat} (f : Nat → Int) (hne : r ≠ jj) (i : Nat) (hi : i < leftN jj r + 1) : upd (dropF jj f) (leftN jj r) (f r) i = dropF jj f i := by
  unfold leftN at hi ⊢
  by_cases h : r ≤ jj
  · rw [if_pos h] at hi ⊢
    by_cases e : i = r
    · subst e; rw [upd_same]; unfold dropF; rw [if_pos (by omega)]
    · rw [upd_other _ _ e]
  · rw [if_neg h] at hi ⊢
    by_cases e : i = r - 1
    · subst e; rw [upd_same]; unfold dropF; rw [if_neg (by omega), show r - 1 + 1 = r by omega]
    · rw [upd_other _ _ e]

theorem leftN_succ {jj r : Nat} (hne : r ≠ jj) : leftN jj r + 1 = leftN jj (r + 1) := by
  unfold leftN
  by_cases h : r ≤ jj
  · rw [if_pos h, if_pos (by omega)]
  · rw [if_neg h, if_neg (by omega)]; omega

theorem leftN_at (jj : Nat) : leftN jj (jj + 1) = leftN jj jj := by
  unfold leftN
  rw [if_neg (by omega), if_pos (by omega)]; omega

theorem leftN_le (jj r : Nat) : leftN jj r ≤ r := by
  unfold leftN
  split <;> omega

set_option maxRecDepth 100000 in
set_option maxHeartbeats 2000000 in
theorem lessLink_walk (A : Option Addr) (m cp jj : Nat) (a b c : Nat → Int) (u v : Int) (w : World) (hl : Lnk w A m a b c) (hm : m ≤ 1000000000) (hj : ∀ i, i < m → (Mt a b i u v ↔ i = jj)) :
    Calls Tryd.prog 37 #[.slice A m cp, .int .i64 u, .int .i64 v] w fun e w' => ∃ z, e = .returned z ∧ OwnLk w' w.heap.size z (leftN jj m) (dropF jj a) (dropF jj b) (dropF jj c) ∧ Below w.heap.size w w' := by
  have HL := Lib.hid hl
  have HJ := Lib.hid hj
  clear hl hj
  go_enter Tryd.func37, Tryd.ntmps37
  go_wp2_with fail
  go_loopw [7, 8] (fun z i wr => ∃ r : Nat, r ≤ m ∧ i = .int .i64 r ∧ OwnLk wr w.heap.size z (leftN jj r) (dropF jj a) (dropF jj b) (dropF jj c) ∧ Below w.heap.size w wr) (fun _ i _ => m - (intOf i).toNat)
  case atStart => exact ⟨0, by omega, rfl, OwnLk.nil _ _ _ _ _, Below.refl _ _⟩
  case round =>
    obtain ⟨r, hr, rfl, hO, hb⟩ := hrel
    have HO := Lib.hid hO
    have HB := Lib.hid hb
    clear hO hb
    by_cases hlt : r < m
    · have hlt' : (r : Int) < m := by omega
      obtain ⟨ad, rfl, hc0, hc1, hc2⟩ := HL.out.cells HB.out r hlt
      by_cases hmt : Mt a b r u v
      · have ej : r = jj := (HJ.out r hlt).1 hmt
        have HO1 : Hid (OwnLk wr w.heap.size u7 (leftN jj (r + 1)) (dropF jj a) (dropF jj b) (dropF jj c)) := by
          have := HO.out
          rw [ej] at this ⊢
          rw [leftN_at]
          exact this
        clear ej
        by_cases hfst : a r = u ∧ b r = v
        · obtain ⟨e1, e2⟩ := hfst
          rw [e1] at hc0
          rw [e2] at hc1
          clear e1 e2 hmt
          go_wp2_with fail
          go_roundw
          case rel => exact ⟨r + 1, by omega, by go_num, HO1.out, HB.out⟩
          case measure => simp [intOf]; omega
        · obtain ⟨e1, e2⟩ := hmt.resolve_left hfst
          have hd3 : (v == u) = false := beq_false_of_ne fun e => hfst ⟨by omega, by omega⟩
          rw [e1] at hc0
          rw [e2] at hc1
          clear e1 e2 hmt hfst
          go_wp2_with fail
          go_roundw
          case rel => exact ⟨r + 1, by omega, by go_num, HO1.out, HB.out⟩
          case measure => simp [intOf]; omega
      · have ej : r ≠ jj := fun e => hmt ((HJ.out r hlt).2 e)
        have hln := leftN_le jj r
        have EJ := Lib.hid ej
        obtain ⟨p, hp⟩ : ∃ p, leftN jj r = p := ⟨_, rfl⟩
        have HP := Lib.hid hp
        rw [hp] at hln
        have HO1 : Hid (OwnLk wr w.heap.size u7 p (dropF jj a) (dropF jj b) (dropF jj c)) := by
          have := HO.out
          rw [hp] at this
          exact this
        clear hp ej HO
        by_cases e1 : a r = u
        · have e2 : b r ≠ v := fun e => hmt (.inl ⟨e1, e⟩)
          have hd2 : (b r == v) = false := beq_false_of_ne e2
          have HE1 := Lib.hid e1
          rw [e1] at hc0
          by_cases e3 : u = v
          · have e4 : b r ≠ u := fun e => hmt (.inr ⟨by omega, e⟩)
            have hd4 : (b r == u) = false := beq_false_of_ne e4
            subst e3
            clear e1 e2 hmt e4
            go_wp2_with (at_builtin; refine wpList_append_lnk rfl (.tmp 50) (.tmp 55) rfl w.heap.size _ p _ _ _ rfl (HO1.out.alloc _) u (b r) (c r) ⟨wr.heap.size, 0, none⟩ rfl (cell_new3_at _ _ _ _ _ rfl) (by omega) (Nat.le_trans HB.out.size (by simp)) ?_)
            intro g cap w6 hO6 hb6
            have HO6 : Hid (OwnLk w6 w.heap.size (.slice (some ⟨g, 0, none⟩) (p + 1) cap) (leftN jj (r + 1)) (dropF jj a) (dropF jj b) (dropF jj c)) := by
              have h1 := upd_dropF a EJ.out
              have h2 := upd_dropF b EJ.out
              have h3 := upd_dropF c EJ.out
              rw [HP.out] at h1 h2 h3
              have h4 := leftN_succ EJ.out
              rw [HP.out] at h4
              rw [← HE1.out] at hO6
              rw [← h4]
              exact hO6.congr h1 h2 h3
            have HB6 := Lib.hid ((HB.out.alloc HB.out.size _).trans hb6)
            clear hO6 hb6
            go_wp2_with fail
            go_roundw
            case rel => exact ⟨r + 1, by omega, by go_num, HO6.out, HB6.out⟩
            case measure => simp [intOf]; omega
          · have hd3 : (u == v) = false := beq_false_of_ne e3
            clear e1 e2 hmt e3
            go_wp2_with (at_builtin; refine wpList_append_lnk rfl (.tmp 50) (.tmp 55) rfl w.heap.size _ p _ _ _ rfl (HO1.out.alloc _) u (b r) (c r) ⟨wr.heap.size, 0, none⟩ rfl (cell_new3_at _ _ _ _ _ rfl) (by omega) (Nat.le_trans HB.out.size (by simp)) ?_)
            intro g cap w6 hO6 hb6
            have HO6 : Hid (OwnLk w6 w.heap.size (.slice (some ⟨g, 0, none⟩) (p + 1) cap) (leftN jj (r + 1)) (dropF jj a) (dropF jj b) (dropF jj c)) := by
              have h1 := upd_dropF a EJ.out
              have h2 := upd_dropF b EJ.out
              have h3 := upd_dropF c EJ.out
              rw [HP.out] at h1 h2 h3
              have h4 := leftN_succ EJ.out
              rw [HP.out] at h4
              rw [← HE1.out] at hO6
              rw [← h4]
              exact hO6.congr h1 h2 h3
            have HB6 := Lib.hid ((HB.out.alloc HB.out.size _).trans hb6)
            clear hO6 hb6
            go_wp2_with fail
            go_roundw
            case rel => exact ⟨r + 1, by omega, by go_num, HO6.out, HB6.out⟩
            case measure => simp [intOf]; omega
        · have hd1 : (a r == u) = false := beq_false_of_ne e1
          by_cases e3 : a r = v
          · have e2 : b r ≠ u := fun e => hmt (.inr ⟨e3, e⟩)
            have hd2 : (b r == u) = false := beq_false_of_ne e2
            have HE1 := Lib.hid e3
            rw [e3] at hc0 hd1
            clear e1 e2 e3 hmt
            go_wp2_with (at_builtin; refine wpList_append_lnk rfl (.tmp 50) (.tmp 55) rfl w.heap.size _ p _ _ _ rfl (HO1.out.alloc _) v (b r) (c r) ⟨wr.heap.size, 0, none⟩ rfl (cell_new3_at _ _ _ _ _ rfl) (by omega) (Nat.le_trans HB.out.size (by simp)) ?_)
            intro g cap w6 hO6 hb6
            have HO6 : Hid (OwnLk w6 w.heap.size (.slice (some ⟨g, 0, none⟩) (p + 1) cap) (leftN jj (r + 1)) (dropF jj a) (dropF jj b) (dropF jj c)) := by
              have h1 := upd_dropF a EJ.out
              have h2 := upd_dropF b EJ.out
              have h3 := upd_dropF c EJ.out
              rw [HP.out] at h1 h2 h3
              have h4 := leftN_succ EJ.out
              rw [HP.out] at h4
              rw [← HE1.out] at hO6
              rw [← h4]
              exact hO6.congr h1 h2 h3
            have HB6 := Lib.hid ((HB.out.alloc HB.out.size _).trans hb6)
            clear hO6 hb6
            go_wp2_with fail
            go_roundw
            case rel => exact ⟨r + 1, by omega, by go_num, HO6.out, HB6.out⟩
            case measure => simp [intOf]; omega
          · have hd2 : (a r == v) = false := beq_false_of_ne e3
            clear e1 e3 hmt
            go_wp2_with (at_builtin; refine wpList_append_lnk rfl (.tmp 50) (.tmp 55) rfl w.heap.size _ p _ _ _ rfl (HO1.out.alloc _) (a r) (b r) (c r) ⟨wr.heap.size, 0, none⟩ rfl (cell_new3_at _ _ _ _ _ rfl) (by omega) (Nat.le_trans HB.out.size (by simp)) ?_)
            intro g cap w6 hO6 hb6
            have HO6 : Hid (OwnLk w6 w.heap.size (.slice (some ⟨g, 0, none⟩) (p + 1) cap) (leftN jj (r + 1)) (dropF jj a) (dropF jj b) (dropF jj c)) := by
              have h1 := upd_dropF a EJ.out
              have h2 := upd_dropF b EJ.out
              have h3 := upd_dropF c EJ.out
              rw [HP.out] at h1 h2 h3
              have h4 := leftN_succ EJ.out
              rw [HP.out] at h4
              rw [← h4]
              exact hO6.congr h1 h2 h3
            have HB6 := Lib.hid ((HB.out.alloc HB.out.size _).trans hb6)
            clear hO6 hb6
            go_wp2_with fail
            go_roundw
            case rel => exact ⟨r + 1, by omega, by go_num, HO6.out, HB6.out⟩
            case measure => simp [intOf]; omega
    · obtain rfl : r = m := by omega
      go_wp2_with fail
      go_ret
      exact ⟨_, rfl, HO.out, HB.out⟩

set_option maxRecDepth 100000 in
set_option maxHeartbeats 1000000 in
theorem links_same (A B : Option Addr) (n ca cb : Nat) (a b c : Nat → Int) (w : World) (hA : Lnk w A n a b c) (hB : Lnk w B n a b c) (hn : n ≤ 9223372036854775807) :
    Calls Tryd.prog 42 #[.slice A n ca, .slice B n cb] w fun e w' => e = .returned (.bool true) ∧ ∃ k, w' = w.drewN k := by
  have HA := Lib.hid hA
  have HB := Lib.hid hB
  clear hA hB
  go_enter Tryd.func42, Tryd.ntmps42
  go_wp2_with fail
  go_loopw [5] (fun i wr => ∃ r : Nat, r ≤ n ∧ i = .int .i64 r ∧ ∃ k, wr = w.drewN k) (fun i _ => n - (intOf i).toNat)
  case atStart => exact ⟨0, by omega, rfl, 0, rfl⟩
  case round =>
    obtain ⟨r, hr, rfl, k, rfl⟩ := hrel
    by_cases hlt : r < n
    · have hlt' : (r : Int) < n := by omega
      obtain ⟨ad, rfl, hc0, hc1, hc2⟩ := HA.out.cells (Below.refl _ _) r hlt
      obtain ⟨ad', rfl, hd0, hd1, hd2⟩ := HB.out.cells (Below.refl _ _) r hlt
      go_wp2_with fail
      go_quiet (fail)
      go_wp2_with fail
      go_roundw
      case rel => exact ⟨r + 1, by omega, by go_num, _, rfl⟩
      case measure => simp [intOf]; omega
    · obtain rfl : r = n := by omega
      go_wp2_with fail
      go_ret
      exact ⟨rfl, k, rfl⟩

end Go.Proofs.YtdilajieimbdnaaDoor
