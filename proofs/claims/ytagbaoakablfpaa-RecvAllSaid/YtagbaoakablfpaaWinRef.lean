/- Contracts of the reference functions of layer 6 that only compute: Reduce, Way, In, Next, for every int. Conditions: none. -/
import Derived.WalkKit
import Derived.Lib.Hide
import Derived.Test.YtagbaoakablfpaaProg
import Derived.Test.YtagbaoakablfpaaRead
namespace Go.Proofs.Ytagbaoakablfpaa
open Go.RowKit


theorem rreduce_any (n : Int) (w : World) :
    Calls Try.prog 28 #[.int .i64 n] w fun e w' => e = .returned (.int .i64 (n % 128)) ∧ w = w' := by
  have h0 := Int.tmod_def n 128
  have h1 : -128 < n.tmod 128 ∧ n.tmod 128 < 128 ∧ n.tmod 128 % 128 = n % 128 := by
    have := Int.emod_add_mul_ediv n 128
    rcases Int.le_total 0 n with h | h
    · rw [Int.tmod_eq_emod_of_nonneg h]; omega
    · have e : n.tmod 128 = -((-n) % 128) := by
        rw [← Int.tmod_eq_emod_of_nonneg (by omega : (0 : Int) ≤ -n), Int.neg_tmod, Int.neg_neg]
      rw [e]; omega
  obtain ⟨h1, h2, h3⟩ := h1
  clear h0
  by_cases hn : n.tmod 128 < 0
  · go_enter Try.func28, Try.ntmps28
    go_wp2
    go_ret
    exact ⟨ret_i64 (by omega), rfl⟩
  · go_enter Try.func28, Try.ntmps28
    go_wp2
    go_ret
    exact ⟨ret_i64 (by omega), rfl⟩

end Go.Proofs.Ytagbaoakablfpaa
