/- The contract of window.Missing, for whatever numbers. Conditions: a list of no more numbers than an int can say. -/
import Derived.RangeFuncNested
import Derived.RangeFuncBound
import Derived.RangeFuncCalls
import Derived.RangeFuncLeaves
import Derived.Shelf.Abstract
import Derived.Shelf.RegionOpen
import Derived.WalkKit
import Derived.OwnWalkIn
import Derived.TacticsInMore
import Derived.LoopNIn
import Derived.LoopIn
import Derived.Maps.AppendAt
import Derived.Lib.Hide
import Derived.Test.YtgfcppjahebidaaWinEach
import Derived.Test.YtgfcppjahebidaaWinHas
import Derived.Test.YtgfcppjahebidaaWinSort
namespace Go.Proofs.Ytgfcppjahebidaa
open Go.RowKit Go.Shelf
attribute [local go_sem] Oper.semAt_some

theorem winLen_way (d : Int) : winLen (d % 128) = (d % 128).toNat := by unfold winLen; omega

/-- What Missing has gathered. -/
def missed (l : List Int) (ys : List N7) : List Int := (ys.filter fun x => !hasN l x.1).map (·.1)
theorem missed_hit (l : List Int) (pre : List N7) {x : N7} (h : hasN l x.1 = false) : missed l (pre ++ [x]) = missed l pre ++ [x.1] := by simp [missed, h]
theorem missed_miss (l : List Int) (pre : List N7) {x : N7} (h : hasN l x.1 = true) : missed l (pre ++ [x]) = missed l pre := by simp [missed, h]
theorem missed_le (l : List Int) (pre : List N7) : (missed l pre).length ≤ pre.length := by unfold missed; rw [List.length_map]; exact List.length_filter_le _ _

end Go.Proofs.Ytgfcppjahebidaa
