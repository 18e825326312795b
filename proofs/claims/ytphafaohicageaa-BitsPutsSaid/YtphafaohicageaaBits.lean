/- Contracts of the functions of package bits and of its reference. -/
import Derived.WalkKit
import Derived.Lib.Hide
import Derived.BigQuiet
import Derived.Deep.QuietTactic
import Derived.Test.YtphafaohicageaaRead
import Derived.Test.YtphafaohicageaaBitsPlain
import Derived.Test.YtphafaohicageaaProg
namespace Go.Proofs.Ytphafaohicageaa
open Go.RowKit

theorem ret_u64 {a b : Int} (h : a = b) : Ending.returned (.int .u64 a) = .returned (.int .u64 b) := by rw [h]

theorem mask_any (s : Nat) (h1 : 1 ≤ s) (h2 : s ≤ 64) (w : World) :
    Calls Try.prog 26 #[.int .i64 s] w fun e w' => e = .returned (.int .u64 ((2 ^ s - 1 : Nat) : Int)) ∧ w = w' := by
  go_enter Try.func26, Try.ntmps26
  go_wp2
  go_ret
  exact ⟨ret_u64 (mask_val h1 h2), rfl⟩

theorem bit_any (N i : Nat) (h1 : i < 64) (w : World) :
    Calls Try.prog 28 #[.int .u64 N, .int .i64 i] w fun e w' => e = .returned (.bool (N.testBit i)) ∧ w = w' := by
  go_enter Try.func28, Try.ntmps28
  go_wp2
  go_ret
  exact ⟨ret_bool (bit_val N i), rfl⟩

theorem power_any (k : Nat) (h1 : k < 64) (w : World) :
    Calls Try.prog 29 #[.int .i64 k] w fun e w' => e = .returned (.int .u64 ((2 ^ k : Nat) : Int)) ∧ w = w' := by
  go_enter Try.func29, Try.ntmps29
  go_wp2
  go_loop [3, 4] (fun n k' => ∃ i : Nat, i ≤ k ∧ n = .int .u64 ((2 ^ i : Nat) : Int) ∧ k' = .int .i64 i) (fun _ k' => k - (intOf k').toNat)
  case atStart => exact ⟨0, by omega, by simp, rfl⟩
  case round =>
    obtain ⟨i, hi, rfl, rfl⟩ := hrel
    by_cases hlt : i < k
    · go_wp2
      go_round
      case rel => exact ⟨i + 1, by omega, by rw [power_step hlt h1], by go_num⟩
      case measure => simp [intOf]; omega
    · obtain rfl : i = k := by omega
      go_wp2
      go_ret
      exact ⟨ret_u64 (by simp), rfl⟩

theorem count_any (N : Nat) (hN : Hid (N < 2 ^ 64)) (w : World) :
    Calls Try.prog 22 #[.int .u64 N] w fun e w' => e = .returned (.int .i64 (cntTo N 64 : Nat)) ∧ w = w' := by
  go_enter Try.func22, Try.ntmps22
  go_wp2
  go_loop [3, 4, 5] (fun n _ k' => ∃ i : Nat, i ≤ 64 ∧ n = .int .i64 ((cntTo N i : Nat) : Int) ∧ k' = .int .i64 i) (fun _ _ k' => 64 - (intOf k').toNat)
  case atStart => exact ⟨0, by omega, by simp [cntTo_zero], rfl⟩
  case round =>
    obtain ⟨i, hi, rfl, rfl⟩ := hrel
    have hc := cntTo_le N i
    by_cases hlt : i < 64
    · go_wp2
      go_round
      case rel => exact ⟨i + 1, by omega, by rw [cnt_step hN.out hlt], by go_num⟩
      case measure => simp [intOf]; omega
    · obtain rfl : i = 64 := by omega
      go_wp2
      go_ret
      exact ⟨rfl, rfl⟩

theorem rcount_any (N : Nat) (w : World) :
    Calls Try.prog 23 #[.int .u64 N] w fun e w' => e = .returned (.int .i64 (cntTo N 64 : Nat)) ∧ w = w' := by
  go_enter Try.func23, Try.ntmps23
  go_wp2
  go_loop [3, 4] (fun n k' => ∃ i : Nat, i ≤ 64 ∧ n = .int .i64 ((cntTo N i : Nat) : Int) ∧ k' = .int .i64 i) (fun _ k' => 64 - (intOf k').toNat)
  case atStart => exact ⟨0, by omega, by simp [cntTo_zero], rfl⟩
  case round =>
    obtain ⟨i, hi, rfl, rfl⟩ := hrel
    have hc := cntTo_le N i
    by_cases hlt : i < 64
    · cases hb : N.testBit i with
      | true =>
        have hB := Lib.hid hb
        clear hb
        go_wp2_with (go_at_call 28; refine (bit_any N i hlt _).mono ?_; rintro e w' ⟨rfl, rfl⟩; rw [hB.out])
        go_round
        case rel => exact ⟨i + 1, by omega, by rw [← cnt_hit hB.out], by go_num⟩
        case measure => simp [intOf]; omega
      | false =>
        have hB := Lib.hid hb
        clear hb
        go_wp2_with (go_at_call 28; refine (bit_any N i hlt _).mono ?_; rintro e w' ⟨rfl, rfl⟩; rw [hB.out])
        go_round
        case rel => exact ⟨i + 1, by omega, by rw [← cnt_miss hB.out], by go_num⟩
        case measure => simp [intOf]; omega
    · obtain rfl : i = 64 := by omega
      go_wp2
      go_ret
      exact ⟨rfl, rfl⟩

theorem mirror_good (N s : Nat) (h1 : 1 ≤ s) (h2 : s ≤ 64) (hN : Hid (N < 2 ^ s)) (w : World) :
    Calls Try.prog 20 #[.int .u64 N, .int .i64 s] w fun e w' => e = .returned (.tuple #[.int .u64 (mirTo N s : Nat), .int .i64 0]) ∧ w = w' := by
  have hN64 : Hid (N < 2 ^ 64) := Nat.lt_of_lt_of_le hN.out (pow_le64 h2)
  have hfit : (bits .andNot .u64 (N : Int) ((2 ^ s - 1 : Nat) : Int) != 0) = false := by rw [andNot_mask hN64.out h2]; have := hN.out; simp; omega
  go_enter Try.func20, Try.ntmps20
  go_wp2_with fail
  refine (mask_any s h1 h2 _).mono ?_
  rintro e w' ⟨rfl, rfl⟩
  go_wp2_with fail
  go_loop [0, 6, 19] (fun n out k => ∃ i : Nat, i ≤ s ∧ n = .int .u64 ((shrN N i : Nat) : Int) ∧ out = .int .u64 ((mirTo N i : Nat) : Int) ∧ k = .int .i64 i) (fun _ _ k => s - (intOf k).toNat)
  case atStart => exact ⟨0, by omega, by rw [shrN_zero], by simp [mirTo_zero], rfl⟩
  case round =>
    obtain ⟨i, hi, rfl, rfl, rfl⟩ := hrel
    by_cases hlt : i < s
    · go_wp2
      go_round
      case rel => exact ⟨i + 1, by omega, by rw [shr_step], by rw [mir_or hN64.out (by omega)], by go_num⟩
      case measure => simp [intOf]; omega
    · obtain rfl : i = s := by omega
      go_wp2
      go_ret2
      exact ⟨rfl, rfl⟩

theorem ret_bits {a b c d : Int} (h : a = b) (k : c = d) : Ending.returned (.tuple #[.int .u64 a, .int .i64 c]) = .returned (.tuple #[.int .u64 b, .int .i64 d]) := by rw [h, k]

theorem mirror_any (N : Nat) (hN : N < 2 ^ 64) (s : Int) (w : World) :
    Calls Try.prog 20 #[.int .u64 N, .int .i64 s] w fun e w' => e = .returned (.tuple #[.int .u64 (mirV N s : Nat), .int .i64 (mirE N s)]) ∧ w = w' := by
  have hH := Lib.hid hN
  clear hN
  by_cases h1 : s < 1
  · have hr := Lib.hid (mir_bad (N := N) (.inl h1))
    go_enter Try.func20, Try.ntmps20
    go_wp2
    go_ret2
    exact ⟨ret_bits (by rw [hr.out.2]; rfl) hr.out.1.symm, rfl⟩
  · by_cases h2 : 64 < s
    · have hr := Lib.hid (mir_bad (N := N) (.inr h2))
      go_enter Try.func20, Try.ntmps20
      go_wp2
      go_ret2
      exact ⟨ret_bits (by rw [hr.out.2]; rfl) hr.out.1.symm, rfl⟩
    · obtain ⟨n, rfl⟩ := Int.eq_ofNat_of_zero_le (show 0 ≤ s by omega)
      by_cases h3 : 2 ^ n ≤ N
      · have hr := Lib.hid (mir_long (N := N) (by omega) (by omega) h3)
        have hfit : (bits .andNot .u64 (N : Int) ((2 ^ n - 1 : Nat) : Int) != 0) = true := by rw [andNot_mask hH.out (by omega)]; simpa using h3
        clear h3
        go_enter Try.func20, Try.ntmps20
        go_wp2_with fail
        refine (mask_any n (by omega) (by omega) _).mono ?_
        rintro e w' ⟨rfl, rfl⟩
        go_wp2
        go_ret2
        exact ⟨ret_bits (by rw [hr.out.2]; rfl) hr.out.1.symm, rfl⟩
      · have hr := mir_good (N := N) (by omega) (by omega) (Nat.lt_of_not_le h3)
        refine (mirror_good N n (by omega) (by omega) (Nat.lt_of_not_le h3) w).mono ?_
        rintro e w' ⟨rfl, rfl⟩
        exact ⟨ret_bits (by rw [hr.2]) hr.1.symm, rfl⟩

/-- What Fits answers. -/
theorem fits_any (N s : Nat) (w : World) :
    Calls Try.prog 24 #[.int .u64 N, .int .i64 s] w fun e w' => e = .returned (.bool (decide (64 ≤ s ∨ N < 2 ^ s))) ∧ w = w' := by
  by_cases h : 64 ≤ s
  · go_enter Try.func24, Try.ntmps24
    go_wp2
    go_ret
    exact ⟨ret_bool (by simp), rfl⟩
  · go_enter Try.func24, Try.ntmps24
    go_wp2_with fail
    refine (power_any s (by omega) _).mono ?_
    rintro e w' ⟨rfl, rfl⟩
    go_wp2
    go_ret
    exact ⟨ret_bool (fits_val N s), rfl⟩

theorem rmirror_good (N s : Nat) (h1 : 1 ≤ s) (h2 : s ≤ 64) (hN : Hid (N < 2 ^ s)) (w : World) :
    Calls Try.prog 21 #[.int .u64 N, .int .i64 s] w fun e w' => e = .returned (.tuple #[.int .u64 (mirTo N s : Nat), .int .i64 0]) ∧ w = w' := by
  have hf : Hid (decide (64 ≤ s ∨ N < 2 ^ s) = true) := by unfold Hid; have := hN.out; simp; omega
  go_enter Try.func21, Try.ntmps21
  go_wp2_with fail
  refine (fits_any N s _).mono ?_
  rintro e w' ⟨rfl, rfl⟩
  rw [hf.out]
  go_wp2_with fail
  go_loop [6, 7] (fun out k => ∃ i : Nat, i ≤ s ∧ out = .int .u64 ((mirTo N i : Nat) : Int) ∧ k = .int .i64 i) (fun _ k => s - (intOf k).toNat)
  case atStart => exact ⟨0, by omega, by simp [mirTo_zero], rfl⟩
  case round =>
    obtain ⟨i, hi, rfl, rfl⟩ := hrel
    by_cases hlt : i < s
    · cases hb : N.testBit i with
      | true =>
        have hB := Lib.hid hb
        clear hb
        go_wp2_with fail
        refine (bit_any N i (by omega) _).mono ?_
        rintro e w' ⟨rfl, rfl⟩
        rw [hB.out]
        go_wp2
        go_round
        case rel => exact ⟨i + 1, by omega, by rw [mir_hit hB.out (by omega)], by go_num⟩
        case measure => simp [intOf]; omega
      | false =>
        have hB := Lib.hid hb
        clear hb
        go_wp2_with fail
        refine (bit_any N i (by omega) _).mono ?_
        rintro e w' ⟨rfl, rfl⟩
        rw [hB.out]
        go_wp2
        go_round
        case rel => exact ⟨i + 1, by omega, by rw [mir_miss hB.out (by omega)], by go_num⟩
        case measure => simp [intOf]; omega
    · obtain rfl : i = s := by omega
      go_wp2
      go_ret2
      exact ⟨rfl, rfl⟩

theorem rmirror_any (N : Nat) (hN : N < 2 ^ 64) (s : Int) (w : World) :
    Calls Try.prog 21 #[.int .u64 N, .int .i64 s] w fun e w' => e = .returned (.tuple #[.int .u64 (mirV N s : Nat), .int .i64 (mirE N s)]) ∧ w = w' := by
  have hH := Lib.hid hN
  by_cases h1 : s < 1
  · have hr := Lib.hid (mir_bad (N := N) (.inl h1))
    clear hN
    go_enter Try.func21, Try.ntmps21
    go_wp2
    go_ret2
    exact ⟨ret_bits (by rw [hr.out.2]; rfl) hr.out.1.symm, rfl⟩
  · by_cases h2 : 64 < s
    · have hr := Lib.hid (mir_bad (N := N) (.inr h2))
      clear hN
      go_enter Try.func21, Try.ntmps21
      go_wp2
      go_ret2
      exact ⟨ret_bits (by rw [hr.out.2]; rfl) hr.out.1.symm, rfl⟩
    · obtain ⟨n, rfl⟩ := Int.eq_ofNat_of_zero_le (show 0 ≤ s by omega)
      by_cases h3 : 64 ≤ n ∨ N < 2 ^ n
      · have h4 : N < 2 ^ n := by
          rcases h3 with h | h
          · rw [show n = 64 by omega]; exact hN
          · exact h
        have hr := mir_good (N := N) (by omega) (by omega) h4
        refine (rmirror_good N n (by omega) (by omega) h4 w).mono ?_
        rintro e w' ⟨rfl, rfl⟩
        exact ⟨ret_bits (by rw [hr.2]) hr.1.symm, rfl⟩
      · have hr := Lib.hid (mir_long (N := N) (s := n) (by omega) (by omega) (by omega))
        clear hN
        have hf : Hid (decide (64 ≤ n ∨ N < 2 ^ n) = false) := by unfold Hid; simpa using h3
        clear h3
        go_enter Try.func21, Try.ntmps21
        go_wp2_with fail
        refine (fits_any N n _).mono ?_
        rintro e w' ⟨rfl, rfl⟩
        rw [hf.out]
        go_wp2
        go_ret2
        exact ⟨ret_bits (by rw [hr.out.2]; rfl) hr.out.1.symm, rfl⟩

end Go.Proofs.Ytphafaohicageaa
