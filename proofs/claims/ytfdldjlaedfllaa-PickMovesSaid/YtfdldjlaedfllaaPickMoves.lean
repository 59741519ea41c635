/- PickMoves: when a hop is gone, flows that it had go on by the next one in their order; all others stay; with one more each stays, or goes to that. For all arguments; no condition. -/
import Derived.Test.YtfdldjlaedfllaaPickPick
import Derived.Test.YtfdldjlaedfllaaOwnL
import Derived.Test.YtfdldjlaedfllaaIn
namespace Go.Proofs.Ytfdldjlaedfllaa
open Go.RowKit
set_option linter.unusedVariables false

/-- The hops that are not gone, of the first r. -/
def lessL (f : Nat → Int) (gone : Int) (r : Nat) : List Int := ((List.range r).map f).filter fun x => x != gone

theorem lessL_no {f : Nat → Int} {gone : Int} {r : Nat} (h : f r = gone) : lessL f gone (r + 1) = lessL f gone r := by
  unfold lessL
  rw [List.range_succ, List.map_append, List.filter_append]
  simp [h]
theorem lessL_yes {f : Nat → Int} {gone : Int} {r : Nat} (h : f r ≠ gone) : lessL f gone (r + 1) = lessL f gone r ++ [f r] := by
  unfold lessL
  rw [List.range_succ, List.map_append, List.filter_append]
  simp [h]
theorem lessL_len (f : Nat → Int) (gone : Int) (r : Nat) : (lessL f gone r).length ≤ r := by
  unfold lessL
  have := List.length_filter_le (fun x => x != gone) ((List.range r).map f)
  simpa using this

theorem once_range {n : Nat} {f : Nat → Int} : OnceV n f ↔ ((List.range n).map f).Nodup := by
  rw [← once_nodup]
  constructor
  · intro h i hi j hj
    have hi' : i < n := by simpa using hi
    rw [atL_range hi', atL_range (by omega)]
    exact h i hi' j hj
  · intro h i hi j hj
    have := h i (by simpa using hi) j hj
    rwa [atL_range hi, atL_range (by omega)] at this

theorem catF_range (n : Nat) (f : Nat → Int) (x : Int) : (List.range (n + 1)).map (upd f n x) = (List.range n).map f ++ [x] := by
  rw [List.range_succ, List.map_append]
  congr 1
  · apply List.map_congr_left
    intro i hi
    have := List.mem_range.1 hi
    unfold upd
    rw [if_neg (by omega)]
  · simp [upd]

set_option maxRecDepth 100000 in
set_option maxHeartbeats 4000000 in
theorem pickMoves_walk (fl : Int) (A : Option Addr) (n c : Nat) (f : Nat → Int) (gone more : Int) (w : World) (hV : Vec w A n f) (hnc : n ≤ c) (hcm : c ≤ maxLen) (hnil : A = none → c = 0) (hreach : n * 8 ≤ 140737488351232) :
    Calls Try.prog 5 #[.int .i64 fl, .slice A n c, .int .i64 gone, .int .i64 more] w fun e w' => e = .returned (.bool true) ∧ Below w.heap.size w w' := by
  have HV := Lib.hid hV
  have HN := Lib.hid hnil
  have HR := Lib.hid hreach
  have HC := Lib.hid hnc
  have HM := Lib.hid hcm
  clear hV hnil hreach hnc hcm
  go_enter Try.func5, Try.ntmps5
  go_wp2_with fail
  refine (pick_fact w).mono ?_
  rintro e w1 ⟨rfl, hb1⟩
  have HB1 := Lib.hid hb1
  have HV1 := Lib.hid (HV.out.keep hb1)
  clear hb1
  go_wp2_with fail
  by_cases hO : OnceV n f
  · rcases Nat.eq_zero_or_pos n with h0 | h0
    · subst h0
      refine (pick_none fl A c f w1 HN.out HM.out).mono ?_
      rintro e w2 ⟨rfl, hb2⟩
      have HB2 := Lib.hid (keep HB1.out hb2)
      have HV2 := Lib.hid (HV1.out.keep hb2)
      clear hb2
      go_wp2_with fail
      refine (order_ok fl A 0 c f w2 HV2.out HC.out HN.out (by omega) HM.out hO).mono ?_
      rintro e w3 ⟨A', c', rfl, -, -, hb3⟩
      have HB3 := Lib.hid (keep HB2.out hb3)
      clear hb3
      go_wp2_with fail
      go_ret
      exact ⟨rfl, HB3.out⟩
    · refine (pick_ok fl A n c f w1 HV1.out HC.out HN.out (by have := HR.out; omega) HM.out hO h0).mono ?_
      rintro e w2 ⟨rfl, hb2⟩
      have HB2 := Lib.hid (keep HB1.out hb2)
      have HV2 := Lib.hid (HV1.out.keep hb2)
      clear hb2
      go_wp2_with fail
      refine (order_ok fl A n c f w2 HV2.out HC.out HN.out (by have := HR.out; omega) HM.out hO).mono ?_
      rintro e w3 ⟨A', c', rfl, hc', hv3, hb3⟩
      have HB3 := Lib.hid (keep HB2.out hb3)
      have HV3 := Lib.hid (HV2.out.keep hb3)
      have HL3 := Lib.hid hv3
      clear hb3 hv3
      obtain ⟨k, hk⟩ : ∃ k, hopsF fl n f 0 = k := ⟨_, rfl⟩
      have HK := Lib.hid hk
      rw [hk]
      clear hk
      go_wp2_with fail
      go_loopw [15, 16] (fun v q wr => ∃ i : Nat, i ≤ n ∧ q = .int .i64 i ∧ OwnV wr w3.heap.size v (lessL f gone i).length (atL (lessL f gone i)) ∧ Below w3.heap.size w3 wr) (fun _ q _ => n - (intOf q).toNat)
      case atStart => exact ⟨0, by omega, rfl, OwnV.nil _ _ _, Below.refl _ _⟩
      case round =>
        obtain ⟨i, hi, rfl, hT, hb⟩ := hrel
        have HT := Lib.hid hT
        have HB := Lib.hid hb
        clear hT hb
        by_cases hlt : i < n
        · have hlt' : (i : Int) < n := by omega
          obtain ⟨ad, rfl, hab, hc⟩ := HV3.out i hlt
          replace hc := (HB.out.cell (p := ad.add i) (by rw [block_of_add]; exact hab)).trans hc
          clear hab
          have hlen := lessL_len f gone i
          have hn44 : i ≤ 17592186044415 := by have := HR.out; omega
          have hn45 : (i : Int) ≤ 17592186044415 := by omega
          by_cases hg : f i = gone
          · have hd : (f i != gone) = false := by simp [hg]
            have HE := Lib.hid (lessL_no hg)
            clear hg hlen hn44
            go_wp2_with fail
            go_roundw
            case rel => exact ⟨i + 1, by omega, by go_num, by rw [HE.out]; exact HT.out, HB.out⟩
            case measure => simp [intOf]; omega
          · have hd : (f i != gone) = true := by simp [hg]
            have HE := Lib.hid (lessL_yes hg)
            clear hg
            go_wp2_with (at_builtin; refine wpList_append_int rfl (.tmp 62) (.tmp 67) rfl w3.heap.size _ _ _ rfl (HT.out.alloc _) (f i) _ rfl (cell_new_at _ _ _ rfl) (by omega) (by have := HB.out.size; simp; omega) ?_)
            intro g4 cap4 w4 hT4 hb4 _ _
            have HT4 : Hid (OwnV w4 w3.heap.size (.slice (some ⟨g4, 0, none⟩) ((lessL f gone i).length + 1) cap4) (lessL f gone (i + 1)).length (atL (lessL f gone (i + 1)))) := by
              rw [HE.out, List.length_append]
              exact OwnV.congr hT4 (atL_snoc _ _)
            have HB4 : Hid (Below w3.heap.size w3 w4) := (HB.out.alloc HB.out.size _).trans hb4
            clear hT4 hb4 hc hlen
            go_wp2_with fail
            go_roundw
            case rel => exact ⟨i + 1, by omega, by go_num, HT4.out, HB4.out⟩
            case measure => simp [intOf]; omega
        · have ei : n = i := by omega
          subst ei
          clear hlt hi
          obtain ⟨A4, c4, e4, hv4, hnc4, hcm4, hnil4⟩ := HT.out.parts
          subst e4
          have hlen := lessL_len f gone n
          have HWr := Lib.hid (keep HB3.out HB.out)
          have HLr := Lib.hid (HL3.out.keep HB.out)
          have HL : Hid (lessL f gone n = ((List.range n).map f).filter fun x => x != gone) := Lib.hid rfl
          have HN4 := Lib.hid hnc4
          have HV4 := Lib.hid hv4
          have HM4 := Lib.hid hcm4
          have HNil4 := Lib.hid hnil4
          have HLen := Lib.hid hlen
          clear hv4 hcm4 hnil4 HT hnc4 hlen
          generalize lessL f gone n = L at *
          obtain ⟨l, hl⟩ : ∃ l, L.length = l := ⟨_, rfl⟩
          have HLl := Lib.hid hl
          rw [hl] at HV4 HN4 HLen ⊢
          clear hl
          rcases Nat.eq_zero_or_pos l with h00 | h00
          · subst h00
            go_wp2_with fail
            refine (pick_none fl A4 c4 (atL L) wr HNil4.out HM4.out).mono ?_
            rintro e w4 ⟨rfl, hb4⟩
            have HB4 := Lib.hid (keep HWr.out hb4)
            clear hb4
            have HBk : Hid (Below w.heap.size w w4) := Lib.hid ((HB4.out))
            have HVk := Lib.hid (HV.out.keep HBk.out)
            have hn44 : n ≤ 17592186044415 := by have := HR.out; omega
            go_wp2_with (first
              | (at_builtin; refine wpList_copy_all rfl (.tmp 106) (.tmp 107) rfl w4.heap.size _ rfl (OwnV.empty w4 _ (Nat.le_refl _) _) A n c f rfl h0 (HVk.out.keep ((Below.refl _ _).alloc (Nat.le_refl _) _)) (by omega) (by simp) ?_; intro B5 d5 w5 hT5 hb5 _
                 have HB5 : Hid (Below w4.heap.size w4 w5) := Lib.hid (((Below.refl _ _).alloc (Nat.le_refl _) _).trans hb5)
                 have HT5 := Lib.hid hT5
                 clear hT5 hb5)
              | (at_builtin; refine wpList_append_int rfl (.tmp 108) (.tmp 110) rfl w4.heap.size _ _ _ rfl (HT5.out.alloc _) more _ rfl (cell_new_at _ _ _ rfl) hn44 (by have := HB5.out.size; simp; omega) ?_; intro g6 cap6 w6 hT6 hb6 _ _
                 have HB6 : Hid (Below w4.heap.size w4 w6) := Lib.hid ((HB5.out.alloc HB5.out.size _).trans hb6)
                 have HT6 := Lib.hid hT6
                 clear hT6 hb6))
            clear hn44
            obtain ⟨A6, c6, e6, hv6, hnc6, hcm6, hnil6⟩ := HT6.out.parts
            cases e6
            by_cases hm : ∃ j, j < n ∧ f j = more
            · refine (pick_bad fl _ (n + 1) _ (upd f n more) w6 hv6 hnc6 hnil6 (by have := HR.out; omega) hcm6 ?_).mono ?_
              · rw [once_range, catF_range]
                intro h
                obtain ⟨j, hj, e⟩ := hm
                exact (List.nodup_append.1 h).2.2 more (List.mem_map.2 ⟨j, List.mem_range.2 hj, e⟩) more (by simp) rfl
              · rintro e w7 ⟨rfl, hb7⟩
                have HB7 := Lib.hid (keep (keep HBk.out HB6.out) hb7)
                have HV7 := Lib.hid (HV.out.keep HB7.out)
                have HX := Lib.hid hm
                clear hv6 hb7 hm hnc6 hcm6 hnil6 HT6
                go_wp2_with fail
                go_quiet ((go_at_call 15; exact Calls.quiet_of_same (in_walk A n c f more _ (HV7.out.drewN _) (by have := HR.out; omega) true ⟨fun _ => HX.out, fun _ => rfl⟩)))
                go_wp2_with fail
                go_ret
                exact ⟨rfl, below_drewN HB7.out _⟩
            · refine (pick_ok fl _ (n + 1) _ (upd f n more) w6 hv6 hnc6 hnil6 (by have := HR.out; omega) hcm6 ?_ (by omega)).mono ?_
              · rw [once_range, catF_range]
                refine List.nodup_append.2 ⟨once_range.1 hO, by simp, fun a ha b hb e => ?_⟩
                obtain ⟨j, hj, e2⟩ := List.mem_map.1 ha
                exact hm ⟨j, List.mem_range.1 hj, by rw [e2, e]; simpa using hb⟩
              · rintro e w7 ⟨rfl, hb7⟩
                have HB7 := Lib.hid (keep (keep HBk.out HB6.out) hb7)
                have HV7 := Lib.hid (HV.out.keep HB7.out)
                have HX := Lib.hid hm
                have hmore : hopsF fl (n + 1) (upd f n more) 0 = k ∨ hopsF fl (n + 1) (upd f n more) 0 = more := by
                  unfold hopsF
                  rw [catF_range, ← HK.out]
                  refine hops_more (fun h => ?_) (fun h => ?_)
                  · obtain ⟨j, hj, e2⟩ := List.mem_map.1 h
                    exact hm ⟨j, List.mem_range.1 hj, e2⟩
                  · have := congrArg List.length h
                    simp at this
                    omega
                obtain ⟨m, hme⟩ : ∃ m, hopsF fl (n + 1) (upd f n more) 0 = m := ⟨_, rfl⟩
                rw [hme] at hmore ⊢
                clear hv6 hb7 hm hnc6 hcm6 hnil6 HT6 hme
                by_cases hmk : m = k
                · subst hmk
                  clear hmore
                  go_wp2_with fail
                  go_quiet ((go_at_call 15; exact Calls.quiet_of_same (in_walk A n c f more _ (HV7.out.drewN _) (by have := HR.out; omega) false ⟨(fun h => by cases h), fun h => absurd h HX.out⟩)))
                  go_wp2_with fail
                  go_ret
                  exact ⟨rfl, below_drewN HB7.out _⟩
                · obtain rfl : m = more := by rcases hmore with h | h; exact absurd h hmk; exact h
                  have hne : (m == k) = false := beq_false_of_ne hmk
                  clear hmore hmk
                  go_wp2_with fail
                  go_quiet ((go_at_call 15; exact Calls.quiet_of_same (in_walk A n c f m _ (HV7.out.drewN _) (by have := HR.out; omega) false ⟨(fun h => by cases h), fun h => absurd h HX.out⟩)))
                  go_wp2_with fail
                  go_ret
                  exact ⟨rfl, below_drewN HB7.out _⟩
          · have hnod : L.Nodup := by rw [HL.out]; exact (once_range.1 hO).filter _
            have hne : L ≠ [] := fun h => by have := HLl.out; rw [h] at this; simp at this; omega
            have hj := hops_gone (fl := fl) (gone := gone) (once_range.1 hO) (by rw [← HL.out]; exact hne)
            rw [← HL.out] at hj
            have hjj : hopsF fl l (atL L) 0 = atL (hopsL fl L) 0 := by unfold hopsF; rw [← HLl.out, range_atL]
            rw [← hjj] at hj
            have h2 : k = gone → 2 ≤ n := fun hk => by
              rcases Nat.lt_or_ge n 2 with h | h
              · obtain rfl : n = 1 := by omega
                exfalso
                apply hne
                rw [HL.out]
                have e : k = f 0 := by rw [← HK.out]; simp [hopsF, hopsL, List.range_succ, atL]
                simp [List.range_succ, ← e, hk]
              · exact h
            have hcall := pick_ok fl A4 l c4 (atL L) wr HV4.out HN4.out HNil4.out (by have := HR.out; have := HLen.out; omega) HM4.out (by rw [← HLl.out]; exact once_nodup.2 hnod) h00
            obtain ⟨j, hje⟩ : ∃ j, hopsF fl l (atL L) 0 = j := ⟨_, rfl⟩
            rw [hje] at hj hcall
            have HCc := Lib.hid hcall
            have HJ := Lib.hid hj
            have H2 := Lib.hid h2
            have hl0 : (0 : Int) < l := by omega
            clear hcall hj hjj hje h2 hnod hne
            go_wp2_with fail
            refine HCc.out.mono ?_
            rintro e w4 ⟨rfl, hb4⟩
            have HB4 := Lib.hid (keep HWr.out hb4)
            have HL4 := Lib.hid (HLr.out.keep hb4)
            clear hb4 HCc
            by_cases hk : k = gone
            · obtain ⟨ad1, e1, -, hc1⟩ := HL4.out 1 (by have := H2.out hk; omega)
              have hj := HJ.out
              rw [if_pos (HK.out.trans hk)] at hj
              have hj' : hopsF fl n f 1 = j := hj.symm
              rw [hj'] at hc1
              cases e1
              have hcc : 1 < n := by have := H2.out hk; omega
              have hcc2 : (1 : Int) < n := by omega
              have hc1' : w4.cell? ⟨ad1.block, ad1.off + 1, none⟩ = some (.int .i64 j) := hc1
              clear hc1
              subst hk
              clear hj hj'
              have HBk : Hid (Below w.heap.size w w4) := Lib.hid ((HB4.out))
              have HVk := Lib.hid (HV.out.keep HBk.out)
              have hn44 : n ≤ 17592186044415 := by have := HR.out; omega
              go_wp2_with (first
                | (at_builtin; refine wpList_copy_all rfl (.tmp 106) (.tmp 107) rfl w4.heap.size _ rfl (OwnV.empty w4 _ (Nat.le_refl _) _) A n c f rfl h0 (HVk.out.keep ((Below.refl _ _).alloc (Nat.le_refl _) _)) (by omega) (by simp) ?_; intro B5 d5 w5 hT5 hb5 _
                   have HB5 : Hid (Below w4.heap.size w4 w5) := Lib.hid (((Below.refl _ _).alloc (Nat.le_refl _) _).trans hb5)
                   have HT5 := Lib.hid hT5
                   clear hT5 hb5)
                | (at_builtin; refine wpList_append_int rfl (.tmp 108) (.tmp 110) rfl w4.heap.size _ _ _ rfl (HT5.out.alloc _) more _ rfl (cell_new_at _ _ _ rfl) hn44 (by have := HB5.out.size; simp; omega) ?_; intro g6 cap6 w6 hT6 hb6 _ _
                   have HB6 : Hid (Below w4.heap.size w4 w6) := Lib.hid ((HB5.out.alloc HB5.out.size _).trans hb6)
                   have HT6 := Lib.hid hT6
                   clear hT6 hb6))
              clear hn44
              obtain ⟨A6, c6, e6, hv6, hnc6, hcm6, hnil6⟩ := HT6.out.parts
              cases e6
              by_cases hm : ∃ j, j < n ∧ f j = more
              · refine (pick_bad fl _ (n + 1) _ (upd f n more) w6 hv6 hnc6 hnil6 (by have := HR.out; omega) hcm6 ?_).mono ?_
                · rw [once_range, catF_range]
                  intro h
                  obtain ⟨j, hj, e⟩ := hm
                  exact (List.nodup_append.1 h).2.2 more (List.mem_map.2 ⟨j, List.mem_range.2 hj, e⟩) more (by simp) rfl
                · rintro e w7 ⟨rfl, hb7⟩
                  have HB7 := Lib.hid (keep (keep HBk.out HB6.out) hb7)
                  have HV7 := Lib.hid (HV.out.keep HB7.out)
                  have HX := Lib.hid hm
                  clear hv6 hb7 hm hnc6 hcm6 hnil6 HT6
                  go_wp2_with fail
                  go_quiet ((go_at_call 15; exact Calls.quiet_of_same (in_walk A n c f more _ (HV7.out.drewN _) (by have := HR.out; omega) true ⟨fun _ => HX.out, fun _ => rfl⟩)))
                  go_wp2_with fail
                  go_ret
                  exact ⟨rfl, below_drewN HB7.out _⟩
              · refine (pick_ok fl _ (n + 1) _ (upd f n more) w6 hv6 hnc6 hnil6 (by have := HR.out; omega) hcm6 ?_ (by omega)).mono ?_
                · rw [once_range, catF_range]
                  refine List.nodup_append.2 ⟨once_range.1 hO, by simp, fun a ha b hb e => ?_⟩
                  obtain ⟨j, hj, e2⟩ := List.mem_map.1 ha
                  exact hm ⟨j, List.mem_range.1 hj, by rw [e2, e]; simpa using hb⟩
                · rintro e w7 ⟨rfl, hb7⟩
                  have HB7 := Lib.hid (keep (keep HBk.out HB6.out) hb7)
                  have HV7 := Lib.hid (HV.out.keep HB7.out)
                  have HX := Lib.hid hm
                  have hmore : hopsF fl (n + 1) (upd f n more) 0 = k ∨ hopsF fl (n + 1) (upd f n more) 0 = more := by
                    unfold hopsF
                    rw [catF_range, ← HK.out]
                    refine hops_more (fun h => ?_) (fun h => ?_)
                    · obtain ⟨j, hj, e2⟩ := List.mem_map.1 h
                      exact hm ⟨j, List.mem_range.1 hj, e2⟩
                    · have := congrArg List.length h
                      simp at this
                      omega
                  obtain ⟨m, hme⟩ : ∃ m, hopsF fl (n + 1) (upd f n more) 0 = m := ⟨_, rfl⟩
                  rw [hme] at hmore ⊢
                  clear hv6 hb7 hm hnc6 hcm6 hnil6 HT6 hme
                  by_cases hmk : m = k
                  · subst hmk
                    clear hmore
                    go_wp2_with fail
                    go_quiet ((go_at_call 15; exact Calls.quiet_of_same (in_walk A n c f more _ (HV7.out.drewN _) (by have := HR.out; omega) false ⟨(fun h => by cases h), fun h => absurd h HX.out⟩)))
                    go_wp2_with fail
                    go_ret
                    exact ⟨rfl, below_drewN HB7.out _⟩
                  · obtain rfl : m = more := by rcases hmore with h | h; exact absurd h hmk; exact h
                    have hne : (m == k) = false := beq_false_of_ne hmk
                    clear hmore hmk
                    go_wp2_with fail
                    go_quiet ((go_at_call 15; exact Calls.quiet_of_same (in_walk A n c f m _ (HV7.out.drewN _) (by have := HR.out; omega) false ⟨(fun h => by cases h), fun h => absurd h HX.out⟩)))
                    go_wp2_with fail
                    go_ret
                    exact ⟨rfl, below_drewN HB7.out _⟩
            · have hj := HJ.out
              rw [if_neg (fun h => hk (HK.out.symm.trans h))] at hj
              have hj' : j = k := hj.trans HK.out
              subst hj'
              have hkd : (j != gone) = true := by simp [hk]
              have hkd2 : (j == gone) = false := by simp [hk]
              clear hj hk
              have HBk : Hid (Below w.heap.size w w4) := Lib.hid ((HB4.out))
              have HVk := Lib.hid (HV.out.keep HBk.out)
              have hn44 : n ≤ 17592186044415 := by have := HR.out; omega
              go_wp2_with (first
                | (at_builtin; refine wpList_copy_all rfl (.tmp 106) (.tmp 107) rfl w4.heap.size _ rfl (OwnV.empty w4 _ (Nat.le_refl _) _) A n c f rfl h0 (HVk.out.keep ((Below.refl _ _).alloc (Nat.le_refl _) _)) (by omega) (by simp) ?_; intro B5 d5 w5 hT5 hb5 _
                   have HB5 : Hid (Below w4.heap.size w4 w5) := Lib.hid (((Below.refl _ _).alloc (Nat.le_refl _) _).trans hb5)
                   have HT5 := Lib.hid hT5
                   clear hT5 hb5)
                | (at_builtin; refine wpList_append_int rfl (.tmp 108) (.tmp 110) rfl w4.heap.size _ _ _ rfl (HT5.out.alloc _) more _ rfl (cell_new_at _ _ _ rfl) hn44 (by have := HB5.out.size; simp; omega) ?_; intro g6 cap6 w6 hT6 hb6 _ _
                   have HB6 : Hid (Below w4.heap.size w4 w6) := Lib.hid ((HB5.out.alloc HB5.out.size _).trans hb6)
                   have HT6 := Lib.hid hT6
                   clear hT6 hb6))
              clear hn44
              obtain ⟨A6, c6, e6, hv6, hnc6, hcm6, hnil6⟩ := HT6.out.parts
              cases e6
              by_cases hm : ∃ j, j < n ∧ f j = more
              · refine (pick_bad fl _ (n + 1) _ (upd f n more) w6 hv6 hnc6 hnil6 (by have := HR.out; omega) hcm6 ?_).mono ?_
                · rw [once_range, catF_range]
                  intro h
                  obtain ⟨j, hj, e⟩ := hm
                  exact (List.nodup_append.1 h).2.2 more (List.mem_map.2 ⟨j, List.mem_range.2 hj, e⟩) more (by simp) rfl
                · rintro e w7 ⟨rfl, hb7⟩
                  have HB7 := Lib.hid (keep (keep HBk.out HB6.out) hb7)
                  have HV7 := Lib.hid (HV.out.keep HB7.out)
                  have HX := Lib.hid hm
                  clear hv6 hb7 hm hnc6 hcm6 hnil6 HT6
                  go_wp2_with fail
                  go_quiet ((go_at_call 15; exact Calls.quiet_of_same (in_walk A n c f more _ (HV7.out.drewN _) (by have := HR.out; omega) true ⟨fun _ => HX.out, fun _ => rfl⟩)))
                  go_wp2_with fail
                  go_ret
                  exact ⟨rfl, below_drewN HB7.out _⟩
              · refine (pick_ok fl _ (n + 1) _ (upd f n more) w6 hv6 hnc6 hnil6 (by have := HR.out; omega) hcm6 ?_ (by omega)).mono ?_
                · rw [once_range, catF_range]
                  refine List.nodup_append.2 ⟨once_range.1 hO, by simp, fun a ha b hb e => ?_⟩
                  obtain ⟨j, hj, e2⟩ := List.mem_map.1 ha
                  exact hm ⟨j, List.mem_range.1 hj, by rw [e2, e]; simpa using hb⟩
                · rintro e w7 ⟨rfl, hb7⟩
                  have HB7 := Lib.hid (keep (keep HBk.out HB6.out) hb7)
                  have HV7 := Lib.hid (HV.out.keep HB7.out)
                  have HX := Lib.hid hm
                  have hmore : hopsF fl (n + 1) (upd f n more) 0 = j ∨ hopsF fl (n + 1) (upd f n more) 0 = more := by
                    unfold hopsF
                    rw [catF_range, ← HK.out]
                    refine hops_more (fun h => ?_) (fun h => ?_)
                    · obtain ⟨j, hj, e2⟩ := List.mem_map.1 h
                      exact hm ⟨j, List.mem_range.1 hj, e2⟩
                    · have := congrArg List.length h
                      simp at this
                      omega
                  obtain ⟨m, hme⟩ : ∃ m, hopsF fl (n + 1) (upd f n more) 0 = m := ⟨_, rfl⟩
                  rw [hme] at hmore ⊢
                  clear hv6 hb7 hm hnc6 hcm6 hnil6 HT6 hme
                  by_cases hmk : m = j
                  · subst hmk
                    clear hmore
                    go_wp2_with fail
                    go_quiet ((go_at_call 15; exact Calls.quiet_of_same (in_walk A n c f more _ (HV7.out.drewN _) (by have := HR.out; omega) false ⟨(fun h => by cases h), fun h => absurd h HX.out⟩)))
                    go_wp2_with fail
                    go_ret
                    exact ⟨rfl, below_drewN HB7.out _⟩
                  · obtain rfl : m = more := by rcases hmore with h | h; exact absurd h hmk; exact h
                    have hne : (m == j) = false := beq_false_of_ne hmk
                    clear hmore hmk
                    go_wp2_with fail
                    go_quiet ((go_at_call 15; exact Calls.quiet_of_same (in_walk A n c f m _ (HV7.out.drewN _) (by have := HR.out; omega) false ⟨(fun h => by cases h), fun h => absurd h HX.out⟩)))
                    go_wp2_with fail
                    go_ret
                    exact ⟨rfl, below_drewN HB7.out _⟩
  · refine (pick_bad fl A n c f w1 HV1.out HC.out HN.out (by have := HR.out; omega) HM.out hO).mono ?_
    rintro e w2 ⟨rfl, hb2⟩
    have HB2 := Lib.hid (keep HB1.out hb2)
    have HV2 := Lib.hid (HV1.out.keep hb2)
    clear hb2
    go_wp2_with fail
    refine (order_bad fl A n c f w2 HV2.out HC.out HN.out (by have := HR.out; omega) HM.out hO).mono ?_
    rintro e w3 ⟨rfl, hb3⟩
    have HB3 := Lib.hid (keep HB2.out hb3)
    clear hb3
    go_wp2_with fail
    go_ret
    exact ⟨rfl, HB3.out⟩

end Go.Proofs.Ytfdldjlaedfllaa
