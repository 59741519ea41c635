/- DistOrder: whatever is added alike to two distances, the nearer one stays nearer. For all integers; no condition. -/
import Derived.Test.YtjijpcjbigdgjaaDist
import Derived.Test.YtjijpcjbigdgjaaRow
namespace Go.Proofs.Ytjijpcjbigdgjaa
open Go.RowKit

set_option maxHeartbeats 1600000 in
theorem distOrder_walk (a b c : Int) (w : World) :
    Calls Try.prog 3 #[.int .i64 a, .int .i64 b, .int .i64 c] w fun e w' => e = .returned (.bool true) ∧ Below w.heap.size w w' := by
  have K0 : (min (18 : Int) 16 != 16) = false := by decide
  have HB := Below.refl w.heap.size w
  rcases inOrOut a c with ⟨⟨ha0, ha1⟩, hc0, hc1⟩ | H1
  · rcases inOrOut b c with ⟨⟨hb0, hb1⟩, -, -⟩ | H2
    · by_cases hab : b < a
      · go_enter Try.func3, Try.ntmps3
        go_wp2_with (first | (go_at_call 15; (with_reducible refine (distAdd_ok _ _ _ (by omega) (by omega) (by omega) (by omega)).mono ?_); rintro e w' ⟨rfl, hb⟩; replace HB := keep HB hb))
        go_ret
        exact ⟨rfl, HB⟩
      · have K1 : min (a + c) 16 ≤ min (b + c) 16 := by omega
        go_enter Try.func3, Try.ntmps3
        go_wp2_with (first | (go_at_call 15; (with_reducible refine (distAdd_ok _ _ _ (by omega) (by omega) (by omega) (by omega)).mono ?_); rintro e w' ⟨rfl, hb⟩; replace HB := keep HB hb))
        go_ret
        exact ⟨rfl, HB⟩
    · go_enter Try.func3, Try.ntmps3
      go_wp2_with (first | (go_at_call 15; (with_reducible refine (distAdd_bad _ _ _ H2).mono ?_); rintro e w' ⟨rfl, hb⟩; replace HB := keep HB hb) | (go_at_call 15; (with_reducible refine (distAdd_ok _ _ _ (by omega) (by omega) (by omega) (by omega)).mono ?_); rintro e w' ⟨rfl, hb⟩; replace HB := keep HB hb))
      go_ret
      exact ⟨rfl, HB⟩
  · rcases inOrOut b c with ⟨⟨hb0, hb1⟩, hc0, hc1⟩ | H2
    · go_enter Try.func3, Try.ntmps3
      go_wp2_with (first | (go_at_call 15; (with_reducible refine (distAdd_bad _ _ _ H1).mono ?_); rintro e w' ⟨rfl, hb⟩; replace HB := keep HB hb) | (go_at_call 15; (with_reducible refine (distAdd_ok _ _ _ (by omega) (by omega) (by omega) (by omega)).mono ?_); rintro e w' ⟨rfl, hb⟩; replace HB := keep HB hb))
      go_ret
      exact ⟨rfl, HB⟩
    · go_enter Try.func3, Try.ntmps3
      go_wp2_with (first | (go_at_call 15; (with_reducible refine (distAdd_bad _ _ _ H1).mono ?_); rintro e w' ⟨rfl, hb⟩; replace HB := keep HB hb) | (go_at_call 15; (with_reducible refine (distAdd_bad _ _ _ H2).mono ?_); rintro e w' ⟨rfl, hb⟩; replace HB := keep HB hb) | (go_at_call 15; (with_reducible refine (distAdd_ok _ _ _ (by omega) (by omega) (by omega) (by omega)).mono ?_); rintro e w' ⟨rfl, hb⟩; replace HB := keep HB hb))
      go_ret
      exact ⟨rfl, HB⟩

end Go.Proofs.Ytjijpcjbigdgjaa
