/- The contract of control.kind. Conditions: none. -/
import Derived.WalkKit
import Derived.Lib.Hide
import Derived.Test.YtcglpdbnggekdaaCtlBase
namespace Go.Proofs.Ytcglpdbnggekdaa
open Go.RowKit

/-- The kind that a second byte tells; 0: none. -/
def kindN (x : Int) : Int :=
  if (bits .and .u8 x 1 == 0) = true then 1 else if (x == 1) = true then 2 else if (x == 5) = true then 3 else if (x == 13) = true then 4
  else if (bits .andNot .u8 x 16 == 111) = true then 5 else if (bits .andNot .u8 x 16 == 99) = true then 6 else if (bits .andNot .u8 x 16 == 15) = true then 7 else 0
def thirdB (k : Int) : Bool := decide (1 ≤ k) && decide (k ≤ 4)
theorem kind_any (x : Int) (w : World) :
    Calls Try.prog 25 #[.int .u8 x] w fun e w' => e = .returned (.tuple #[.int .i64 (kindN x), .bool (thirdB (kindN x))]) ∧ w = w' := by
  have hk : Hid (kindN x = if (bits .and .u8 x 1 == 0) = true then 1 else if (x == 1) = true then 2 else if (x == 5) = true then 3 else if (x == 13) = true then 4
    else if (bits .andNot .u8 x 16 == 111) = true then 5 else if (bits .andNot .u8 x 16 == 99) = true then 6 else if (bits .andNot .u8 x 16 == 15) = true then 7 else 0) := rfl
  cases h1 : (bits .and .u8 x 1 == 0) with
  | true =>
    have hv : kindN x = 1 := by rw [hk.out, if_pos h1]
    rw [hv]
    go_enter Try.func25, Try.ntmps25
    go_wp2
    go_ret2
    exact ⟨rfl, rfl⟩
  | false =>
  have g1 : ¬ ((bits .and .u8 x 1 == 0) = true) := by rw [h1]; decide
  cases h2 : (x == 1) with
  | true =>
    have hv : kindN x = 2 := by rw [hk.out, if_neg g1, if_pos h2]
    rw [hv]
    clear g1
    go_enter Try.func25, Try.ntmps25
    go_wp2
    go_ret2
    exact ⟨rfl, rfl⟩
  | false =>
  have g2 : ¬ ((x == 1) = true) := by rw [h2]; decide
  cases h3 : (x == 5) with
  | true =>
    have hv : kindN x = 3 := by rw [hk.out, if_neg g1, if_neg g2, if_pos h3]
    rw [hv]
    clear g1 g2
    go_enter Try.func25, Try.ntmps25
    go_wp2
    go_ret2
    exact ⟨rfl, rfl⟩
  | false =>
  have g3 : ¬ ((x == 5) = true) := by rw [h3]; decide
  cases h4 : (x == 13) with
  | true =>
    have hv : kindN x = 4 := by rw [hk.out, if_neg g1, if_neg g2, if_neg g3, if_pos h4]
    rw [hv]
    clear g1 g2 g3
    go_enter Try.func25, Try.ntmps25
    go_wp2
    go_ret2
    exact ⟨rfl, rfl⟩
  | false =>
  have g4 : ¬ ((x == 13) = true) := by rw [h4]; decide
  cases h5 : (bits .andNot .u8 x 16 == 111) with
  | true =>
    have hv : kindN x = 5 := by rw [hk.out, if_neg g1, if_neg g2, if_neg g3, if_neg g4, if_pos h5]
    rw [hv]
    clear g1 g2 g3 g4
    go_enter Try.func25, Try.ntmps25
    go_wp2
    go_ret2
    exact ⟨rfl, rfl⟩
  | false =>
  have g5 : ¬ ((bits .andNot .u8 x 16 == 111) = true) := by rw [h5]; decide
  cases h6 : (bits .andNot .u8 x 16 == 99) with
  | true =>
    have hv : kindN x = 6 := by rw [hk.out, if_neg g1, if_neg g2, if_neg g3, if_neg g4, if_neg g5, if_pos h6]
    rw [hv]
    clear g1 g2 g3 g4 g5
    go_enter Try.func25, Try.ntmps25
    go_wp2
    go_ret2
    exact ⟨rfl, rfl⟩
  | false =>
  have g6 : ¬ ((bits .andNot .u8 x 16 == 99) = true) := by rw [h6]; decide
  cases h7 : (bits .andNot .u8 x 16 == 15) with
  | true =>
    have hv : kindN x = 7 := by rw [hk.out, if_neg g1, if_neg g2, if_neg g3, if_neg g4, if_neg g5, if_neg g6, if_pos h7]
    rw [hv]
    clear g1 g2 g3 g4 g5 g6
    go_enter Try.func25, Try.ntmps25
    go_wp2
    go_ret2
    exact ⟨rfl, rfl⟩
  | false =>
    have g7 : ¬ ((bits .andNot .u8 x 16 == 15) = true) := by rw [h7]; decide
    have hv : kindN x = 0 := by rw [hk.out, if_neg g1, if_neg g2, if_neg g3, if_neg g4, if_neg g5, if_neg g6, if_neg g7]
    rw [hv]
    clear g1 g2 g3 g4 g5 g6 g7
    go_enter Try.func25, Try.ntmps25
    go_wp2
    go_ret2
    exact ⟨rfl, rfl⟩

end Go.Proofs.Ytcglpdbnggekdaa
