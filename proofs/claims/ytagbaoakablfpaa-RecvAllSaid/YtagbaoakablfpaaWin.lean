/- Contracts of the functions of package window that only compute: Reduce, Way, In, Next, for every int. Conditions: none. -/
import Derived.WalkKit
import Derived.Test.YtagbaoakablfpaaProg
import Derived.Test.YtagbaoakablfpaaWinPlain
namespace Go.Proofs.Ytagbaoakablfpaa
open Go.RowKit

theorem reduce_any (n : Int) (w : World) :
    Calls Try.prog 37 #[.int .i64 n] w fun e w' => e = .returned (.int .i64 (n % 128)) ∧ w = w' := by
  have h := and127 n
  go_enter Try.func37, Try.ntmps37
  go_wp2
  go_ret
  exact ⟨rfl, rfl⟩

theorem way_any (a b : Int) (w : World) :
    Calls Try.prog 36 #[.int .i64 a, .int .i64 b] w fun e w' => e = .returned (.int .i64 ((b - a) % 128)) ∧ w = w' := by
  have h1 : 0 ≤ a % 128 := by omega
  have h2 : a % 128 ≤ 127 := by omega
  have h3 : 0 ≤ b % 128 := by omega
  have h4 : b % 128 ≤ 127 := by omega
  go_enter Try.func36, Try.ntmps36
  go_wp2_with fail
  refine (reduce_any _ _).mono ?_
  rintro e w' ⟨rfl, rfl⟩
  go_wp2_with fail
  refine (reduce_any _ _).mono ?_
  rintro e w' ⟨rfl, rfl⟩
  go_wp2_with fail
  refine (reduce_any _ _).mono ?_
  rintro e w' ⟨rfl, rfl⟩
  go_wp2
  go_ret
  exact ⟨rfl, rfl⟩

theorem next_any (a : Int) (w : World) :
    Calls Try.prog 26 #[.int .i64 a] w fun e w' => e = .returned (.int .i64 ((a + 1) % 128)) ∧ w = w' := by
  have h1 : 0 ≤ a % 128 := by omega
  have h2 : a % 128 ≤ 127 := by omega
  go_enter Try.func26, Try.ntmps26
  go_wp2_with fail
  refine (reduce_any _ _).mono ?_
  rintro e w' ⟨rfl, rfl⟩
  go_wp2_with fail
  refine (reduce_any _ _).mono ?_
  rintro e w' ⟨rfl, rfl⟩
  go_wp2
  go_ret
  exact ⟨rfl, rfl⟩

theorem in_any (base size n : Int) (w : World) :
    Calls Try.prog 35 #[.int .i64 base, .int .i64 size, .int .i64 n] w fun e w' => e = .returned (.bool (decide ((n - base) % 128 < size))) ∧ w = w' := by
  go_enter Try.func35, Try.ntmps35
  go_wp2_with fail
  refine (way_any _ _ _).mono ?_
  rintro e w' ⟨rfl, rfl⟩
  go_wp2
  go_ret
  exact ⟨rfl, rfl⟩

end Go.Proofs.Ytagbaoakablfpaa
