/- Contracts of the reference functions of layer 6 that only compute: Reduce, Way, In, Next, for every int. Conditions: none. -/
import Derived.WalkKit
import Derived.Lib.Hide
import Derived.Test.YtgfcppjahebidaaProg
import Derived.Test.YtgfcppjahebidaaRead
namespace Go.Proofs.Ytgfcppjahebidaa
open Go.RowKit


theorem rreduce_any (n : Int) (w : World) :
    Calls Try.prog 30 #[.int .i64 n] w fun e w' => e = .returned (.int .i64 (n % 128)) ∧ w = w' := by
  have h0 := Int.tmod_def n 128
  have h1 : -128 < n.tmod 128 ∧ n.tmod 128 < 128 ∧ n.tmod 128 % 128 = n % 128 := by
    have := Int.emod_add_mul_ediv n 128
    rcases Int.le_total 0 n with h | h
    · rw [Int.tmod_eq_emod_of_nonneg h]; omega
    · have e : n.tmod 128 = -((-n) % 128) := by
        rw [← Int.tmod_eq_emod_of_nonneg (by omega : (0 : Int) ≤ -n), Int.neg_tmod, Int.neg_neg]
      rw [e]; omega
  obtain ⟨h1, h2, h3⟩ := h1
  clear h0
  by_cases hn : n.tmod 128 < 0
  · go_enter Try.func30, Try.ntmps30
    go_wp2
    go_ret
    exact ⟨ret_i64 (by omega), rfl⟩
  · go_enter Try.func30, Try.ntmps30
    go_wp2
    go_ret
    exact ⟨ret_i64 (by omega), rfl⟩

theorem rnext_any (n : Int) (w : World) :
    Calls Try.prog 40 #[.int .i64 n] w fun e w' => e = .returned (.int .i64 ((n + 1) % 128)) ∧ w = w' := by
  have h1 : 0 ≤ n % 128 := by omega
  have h2 : n % 128 ≤ 127 := by omega
  by_cases hn : n % 128 = 127
  · have hb : (n % 128 == 127) = true := by simpa using hn
    clear hn
    go_enter Try.func40, Try.ntmps40
    go_wp2_with (go_at_call 30; refine (rreduce_any _ _).mono ?_; rintro e w' ⟨rfl, rfl⟩)
    go_ret
    exact ⟨ret_i64 (by simp at hb; omega), rfl⟩
  · have hb : (n % 128 == 127) = false := by simpa using hn
    clear hn
    go_enter Try.func40, Try.ntmps40
    go_wp2_with (go_at_call 30; refine (rreduce_any _ _).mono ?_; rintro e w' ⟨rfl, rfl⟩)
    go_ret
    exact ⟨ret_i64 (by simp at hb; omega), rfl⟩

theorem rway_any (a b : Int) (w : World) :
    Calls Try.prog 39 #[.int .i64 a, .int .i64 b] w fun e w' => e = .returned (.int .i64 ((b - a) % 128)) ∧ w = w' := by
  go_enter Try.func39, Try.ntmps39
  go_wp2_with (go_at_call 30; refine (rreduce_any _ _).mono ?_; rintro e w' ⟨rfl, rfl⟩)
  go_loop [5, 6] (fun n k => ∃ i : Int, 0 ≤ i ∧ i ≤ (b - a) % 128 ∧ n = .int .i64 ((a + i) % 128) ∧ k = .int .i64 i) (fun _ k => ((b - a) % 128 - intOf k).toNat)
  case atStart => exact ⟨0, by omega, by omega, by simp, rfl⟩
  case round =>
    obtain ⟨i, hi0, hi, rfl, rfl⟩ := hrel
    have hlt : i < 128 := by omega
    have h1 : 0 ≤ (a + i) % 128 := by omega
    have h2 : (a + i) % 128 ≤ 127 := by omega
    by_cases hend : i = (b - a) % 128
    · have hb : ((a + i) % 128 != b % 128) = false := by simp; omega
      have H := Lib.hid hend
      clear hend
      go_wp2_with (go_at_call 30; refine (rreduce_any _ _).mono ?_; rintro e w' ⟨rfl, rfl⟩)
      go_ret
      exact ⟨ret_i64 H.out, rfl⟩
    · have hb : ((a + i) % 128 != b % 128) = true := by simp; omega
      by_cases h128 : (a + i) % 128 = 127
      · have hc : ((a + i) % 128 + 1 == 128) = true := by simp; omega
        clear h128
        go_wp2_with (go_at_call 30; refine (rreduce_any _ _).mono ?_; rintro e w' ⟨rfl, rfl⟩)
        go_round
        case rel => exact ⟨i + 1, by omega, by omega, by congr 1; simp at hc; omega, rfl⟩
        case measure => simp [intOf]; omega
      · have hc : ((a + i) % 128 + 1 == 128) = false := by simp; omega
        clear h128
        go_wp2_with (go_at_call 30; refine (rreduce_any _ _).mono ?_; rintro e w' ⟨rfl, rfl⟩)
        go_round
        case rel => exact ⟨i + 1, by omega, by omega, by congr 1; simp at hc; omega, rfl⟩
        case measure => simp [intOf]; omega

end Go.Proofs.Ytgfcppjahebidaa
