/- portagelaw06.awake answers true, and leaves what was there alone. Conditions: none. -/
import Derived.WalkKit
import Derived.Lib.Hide
import Derived.Test.YtchghjghkemamaaWinSort
import Derived.Test.YtchghjghkemamaaWinSame
namespace Go.Proofs.Ytchghjghkemamaa
open Go.RowKit

theorem awake_sorted : sorted [1, 127] (win 126 128) = [127, 1] := by decide +kernel

theorem reads_two (w : World) (x y : Int) : Reads (Value.int .i64) (w.alloc (.cells #[.int .i64 x, .int .i64 y] 3)) (.slice (some ⟨w.heap.size, 0, none⟩) 2 2) [x, y] := by
  refine ⟨by simp [maxLen], _, _, rfl, (fun h => by cases h), fun i z hz => ⟨_, _, rfl, ?_⟩⟩
  rw [cell_of_row _ _ _ _ _ _ (heap_alloc_new _ _)]
  match i, hz with
  | 0, hz => simp at hz; subst hz; simp
  | 1, hz => simp at hz; subst hz; simp
  | n + 2, hz => simp at hz

set_option maxRecDepth 100000 in
set_option maxHeartbeats 1000000 in
theorem awake_any (w : World) :
    Calls Try.prog 13 #[] w fun e w' => e = .returned (.bool true) ∧ Below w.heap.size w w' := by
  go_enter Try.func13, Try.ntmps13
  go_wp2_with fail
  refine (way_any _ _ _).mono ?_
  rintro e w' ⟨rfl, rfl⟩
  go_wp2_with fail
  refine (in_any _ _ _ _).mono ?_
  rintro e w' ⟨rfl, rfl⟩
  go_wp2_with fail
  refine (in_any _ _ _ _).mono ?_
  rintro e w' ⟨rfl, rfl⟩
  go_wp2_with fail
  refine (sort_any _ _ _ _ (reads_two _ _ _)).mono ?_
  rintro e w1 ⟨u, rfl, hown, hb⟩
  rw [awake_sorted] at hown
  go_wp2_with fail
  refine (same_any _ _ [127, 1] [127, 1] _ (Reads.owned hown (by simp [maxLen]) (bl_alloc (bl_refl _) _)) (reads_two _ _ _)).mono ?_
  rintro e w2 ⟨rfl, hb2⟩
  go_wp2
  go_ret
  exact ⟨rfl, bl_trans (bl_alloc (bl_trans (bl_alloc (bl_refl w) _) hb) _) hb2⟩

end Go.Proofs.Ytchghjghkemamaa
