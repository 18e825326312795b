/- Contracts of the functions of package bits and of its reference. -/
import Derived.WalkKit
import Derived.Lib.Hide
import Derived.BigQuiet
import Derived.Deep.QuietTactic
import Derived.Test.YtaembdlidaogdaaRead
import Derived.Test.YtaembdlidaogdaaBitsPlain
import Derived.Test.YtaembdlidaogdaaProg
namespace Go.Proofs.Ytaembdlidaogdaa
open Go.RowKit

theorem ret_u64 {a b : Int} (h : a = b) : Ending.returned (.int .u64 a) = .returned (.int .u64 b) := by rw [h]

theorem power_any (k : Nat) (h1 : k < 64) (w : World) :
    Calls Try.prog 30 #[.int .i64 k] w fun e w' => e = .returned (.int .u64 ((2 ^ k : Nat) : Int)) ∧ w = w' := by
  go_enter Try.func30, Try.ntmps30
  go_wp2
  go_loop [3, 4] (fun n k' => ∃ i : Nat, i ≤ k ∧ n = .int .u64 ((2 ^ i : Nat) : Int) ∧ k' = .int .i64 i) (fun _ k' => k - (intOf k').toNat)
  case atStart => exact ⟨0, by omega, by simp, rfl⟩
  case round =>
    obtain ⟨i, hi, rfl, rfl⟩ := hrel
    by_cases hlt : i < k
    · go_wp2
      go_round
      case rel => exact ⟨i + 1, by omega, by rw [power_step hlt h1], by go_num⟩
      case measure => simp [intOf]; omega
    · obtain rfl : i = k := by omega
      go_wp2
      go_ret
      exact ⟨ret_u64 (by simp), rfl⟩

theorem ret_bits {a b c d : Int} (h : a = b) (k : c = d) : Ending.returned (.tuple #[.int .u64 a, .int .i64 c]) = .returned (.tuple #[.int .u64 b, .int .i64 d]) := by rw [h, k]

/-- What Fits answers. -/
theorem fits_any (N s : Nat) (w : World) :
    Calls Try.prog 27 #[.int .u64 N, .int .i64 s] w fun e w' => e = .returned (.bool (decide (64 ≤ s ∨ N < 2 ^ s))) ∧ w = w' := by
  by_cases h : 64 ≤ s
  · go_enter Try.func27, Try.ntmps27
    go_wp2
    go_ret
    exact ⟨ret_bool (by simp), rfl⟩
  · go_enter Try.func27, Try.ntmps27
    go_wp2_with fail
    refine (power_any s (by omega) _).mono ?_
    rintro e w' ⟨rfl, rfl⟩
    go_wp2
    go_ret
    exact ⟨ret_bool (fits_val N s), rfl⟩

end Go.Proofs.Ytaembdlidaogdaa
