/- portagelaw01.awake answers true, and leaves what was there alone. Conditions: none. -/
import Derived.WalkKit
import Derived.Lib.Hide
import Derived.Test.YtphafaohicageaaBitsPutR
import Derived.Test.YtphafaohicageaaBitsGet
import Derived.Test.YtphafaohicageaaStr
namespace Go.Proofs.Ytphafaohicageaa
open Go.RowKit

theorem awake_put : putV [] 258 2 = [1, 2] := by decide +kernel
theorem awake_putE : putE 258 2 = 0 := by decide +kernel
theorem awake_get : getV [1, 2] 0 2 = 258 := by decide +kernel
theorem awake_getE : getE [1, 2] 0 2 = 0 := by decide +kernel
theorem awake_cnt : cntTo 7 64 = 3 := by decide +kernel
theorem awake_str : strOfNums [1, 2] = ⟨#[1, 2]⟩ := by decide +kernel

set_option maxRecDepth 100000 in
set_option maxHeartbeats 1000000 in
theorem awake_any (w : World) :
    Calls Try.prog 13 #[] w fun e w' => e = .returned (.bool true) ∧ Below w.heap.size w w' := by
  go_enter Try.func13, Try.ntmps13
  go_wp2_with fail
  refine (put_any _ [] 258 2 _ (Reads.nil _ _) (by simp)).mono ?_
  rintro e w1 ⟨u, rfl, hown, hb⟩
  rw [awake_put] at hown
  rw [awake_putE]
  have hr := Reads.of_owns hown (by simp [maxLen])
  go_wp2_with fail
  refine (get_any _ [1, 2] 0 2 (by omega) (by unfold Hid; decide) _ hr).mono ?_
  rintro e w2 ⟨rfl, rfl⟩
  rw [awake_get, awake_getE]
  have hs := conv_reads hr
  rw [awake_str] at hs
  go_wp2_with fail
  refine (count_any 7 (by unfold Hid; decide) _).mono ?_
  rintro e w2 ⟨rfl, rfl⟩
  rw [awake_cnt]
  go_wp2
  go_ret
  exact ⟨rfl, hb⟩

end Go.Proofs.Ytphafaohicageaa
