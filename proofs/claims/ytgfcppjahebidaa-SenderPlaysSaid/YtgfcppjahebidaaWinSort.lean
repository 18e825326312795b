/- The contract of window.Sort, for whatever numbers. Conditions: a list of no more numbers than an int can say. -/
import Derived.RangeFuncNested
import Derived.RangeFuncBound
import Derived.RangeFuncCalls
import Derived.RangeFuncLeaves
import Derived.Shelf.Abstract
import Derived.Shelf.RegionOpen
import Derived.WalkKit
import Derived.OwnWalkIn
import Derived.TacticsInMore
import Derived.LoopNIn
import Derived.LoopIn
import Derived.Maps.AppendAt
import Derived.Lib.Hide
import Derived.Test.YtgfcppjahebidaaWinEach
import Derived.Test.YtgfcppjahebidaaWinHas
import Derived.Test.YtgfcppjahebidaaBox
namespace Go.Proofs.Ytgfcppjahebidaa
open Go.RowKit Go.Shelf
attribute [local go_sem] Oper.semAt_some

theorem infoInt : (Try.prog.info? 3).map (fun i => (i.zero, i.size, i.bytes)) = some (some (.int .i64 0), 1, 8) := by kernel_rfl

/-- What Sort has gathered. -/
def sorted (l : List Int) (ys : List N7) : List Int := (ys.filter fun x => hasN l x.1).map (·.1)
theorem sorted_hit (l : List Int) (pre : List N7) {x : N7} (h : hasN l x.1 = true) : sorted l (pre ++ [x]) = sorted l pre ++ [x.1] := by simp [sorted, h]
theorem sorted_miss (l : List Int) (pre : List N7) {x : N7} (h : hasN l x.1 = false) : sorted l (pre ++ [x]) = sorted l pre := by simp [sorted, h]
theorem sorted_le (l : List Int) (pre : List N7) : (sorted l pre).length ≤ pre.length := by unfold sorted; rw [List.length_map]; exact List.length_filter_le _ _

end Go.Proofs.Ytgfcppjahebidaa
