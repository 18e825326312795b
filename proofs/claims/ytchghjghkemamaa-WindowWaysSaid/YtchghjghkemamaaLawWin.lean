/- The walks of the laws of layer 6 that speak of ints alone. Conditions: none. -/
import Derived.WalkKit
import Derived.Lib.Hide
import Derived.Test.YtchghjghkemamaaWinRef
import Derived.Test.YtchghjghkemamaaWinAwake
namespace Go.Proofs.Ytchghjghkemamaa
open Go.RowKit

set_option linter.unusedVariables false
theorem walkWindowWays (a : Int) (_ : (Lit.int .i64 a).wf = true) (b : Int) (_ : (Lit.int .i64 b).wf = true) (w : World) :
    Calls Try.prog 3 #[.int .i64 a, .int .i64 b] w fun e w' => e = .returned (.bool true) ∧ Below w.heap.size w w' := by
  go_enter Try.func3, Try.ntmps3
  go_wp2_with fail
  refine (way_any _ _ _).mono ?_
  rintro e w' ⟨rfl, rfl⟩
  go_wp2_with fail
  refine (rway_any _ _ _).mono ?_
  rintro e w' ⟨rfl, rfl⟩
  go_wp2_with fail
  refine (awake_any _).mono ?_
  rintro e w1 ⟨rfl, hb⟩
  go_wp2
  go_ret
  exact ⟨rfl, hb⟩

end Go.Proofs.Ytchghjghkemamaa
