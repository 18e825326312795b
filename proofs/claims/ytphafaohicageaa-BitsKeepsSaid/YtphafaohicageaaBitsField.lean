/- The contracts of bits.Field, bits.Set, and of their references. Conditions: none. -/
import Derived.WalkKit
import Derived.Lib.Hide
import Derived.Test.YtphafaohicageaaBits
import Derived.Test.YtphafaohicageaaLater
namespace Go.Proofs.Ytphafaohicageaa
open Go.RowKit

/-- A field's number. -/
def fldN (N a s : Nat) : Nat := N / 2 ^ a % 2 ^ s
/-- A number with another field. -/
def setN (N a s V : Nat) : Nat := (N &&& (2 ^ 64 - 1 - (2 ^ s - 1) * 2 ^ a)) ||| V * 2 ^ a

theorem fldN_lt (N a s : Nat) : fldN N a s < 2 ^ s := Nat.mod_lt _ (Nat.pow_pos (by decide))
theorem fldN_bit (N a s i : Nat) : (fldN N a s).testBit i = (decide (i < s) && N.testBit (a + i)) := by
  unfold fldN
  rw [Nat.testBit_mod_two_pow, Nat.testBit_div_two_pow, Nat.add_comm]
theorem field_fits {s a : Nat} (h : a + s ≤ 64) : (2 ^ s - 1) * 2 ^ a < 2 ^ 64 := by
  have h1 : (2 ^ s - 1) * 2 ^ a < 2 ^ s * 2 ^ a := Nat.mul_lt_mul_of_pos_right (by have := Nat.pow_pos (n := s) (show 0 < 2 by decide); omega) (Nat.pow_pos (by decide))
  rw [← Nat.pow_add] at h1
  have := pow_le64 (k := s + a) (by omega)
  omega
theorem val_fits {V s a : Nat} (h : a + s ≤ 64) (hV : V < 2 ^ s) : V * 2 ^ a < 2 ^ 64 := by
  have h1 : V * 2 ^ a < 2 ^ s * 2 ^ a := Nat.mul_lt_mul_of_pos_right hV (Nat.pow_pos (by decide))
  rw [← Nat.pow_add] at h1
  have := pow_le64 (k := s + a) (by omega)
  omega
theorem setN_lt {N a s V : Nat} (hN : N < 2 ^ 64) (h : a + s ≤ 64) (hV : V < 2 ^ s) : setN N a s V < 2 ^ 64 := by
  unfold setN
  exact Nat.or_lt_two_pow (Nat.lt_of_le_of_lt Nat.and_le_left hN) (val_fits h hV)
theorem setN_bit {N a s V : Nat} (hN : N < 2 ^ 64) (h : a + s ≤ 64) (hV : V < 2 ^ s) (i : Nat) : (setN N a s V).testBit i = if a ≤ i ∧ i < a + s then V.testBit (i - a) else N.testBit i := by
  have hf := field_fits h
  unfold setN
  rw [Nat.testBit_or, Nat.testBit_and, show 2 ^ 64 - 1 - (2 ^ s - 1) * 2 ^ a = 2 ^ 64 - ((2 ^ s - 1) * 2 ^ a + 1) by omega, Nat.testBit_two_pow_sub_succ hf, Nat.testBit_mul_two_pow, Nat.testBit_mul_two_pow, Nat.testBit_two_pow_sub_one]
  by_cases h1 : a ≤ i
  · by_cases h2 : i < a + s
    · rw [if_pos ⟨h1, h2⟩]; simp [h1, show i - a < s by omega]
    · have h3 : V.testBit (i - a) = false := Nat.testBit_lt_two_pow (Nat.lt_of_lt_of_le hV (Nat.pow_le_pow_right (by decide) (by omega)))
      rw [if_neg (by omega)]
      by_cases h4 : i < 64
      · simp [h1, h3, h4, show ¬ i - a < s by omega]
      · have h5 : N.testBit i = false := Nat.testBit_lt_two_pow (Nat.lt_of_lt_of_le hN (Nat.pow_le_pow_right (by decide) (by omega)))
        simp [h3, h5]
  · rw [if_neg (by omega)]; simp [h1, show i < 64 by omega]

/-- From the highest bit down. -/
theorem shr_up {X r : Nat} (hX : X < 2 ^ 64) : (X.testBit r = true → IntKind.u64.wrap (IntKind.u64.wrap (2 * ((shrN X (r + 1) : Nat) : Int)) + 1) = ((shrN X r : Nat) : Int)) ∧ (X.testBit r = false → IntKind.u64.wrap (2 * ((shrN X (r + 1) : Nat) : Int)) = ((shrN X r : Nat) : Int)) := by
  have h1 := shrN_lt hX r
  have h2 := shrN_succ X r
  rw [testBit_shrN]
  refine ⟨fun h => ?_, fun h => ?_⟩
  · have := of_decide_eq_true h
    rw [show (2 * ((shrN X (r + 1) : Nat) : Int)) = ((2 * shrN X (r + 1) : Nat) : Int) by omega, wrap_u64 (by omega), show (((2 * shrN X (r + 1) : Nat) : Int) + 1) = ((2 * shrN X (r + 1) + 1 : Nat) : Int) by omega, wrap_u64 (by omega)]
    omega
  · have := of_decide_eq_false h
    rw [show (2 * ((shrN X (r + 1) : Nat) : Int)) = ((2 * shrN X (r + 1) : Nat) : Int) by omega, wrap_u64 (by omega)]
    omega
theorem shr_none {X k : Nat} (h : X < 2 ^ k) : shrN X k = 0 := by unfold shrN; exact Nat.div_eq_of_lt h
theorem field_val {N a s : Nat} (hN : N < 2 ^ 64) (hs : s ≤ 64) : bits .and .u64 ((N : Int) / 2 ^ a) ((2 ^ s - 1 : Nat) : Int) = ((fldN N a s : Nat) : Int) := by
  have hp := pow_le64 hs
  have hp1 : 0 < 2 ^ s := Nat.pow_pos (by decide)
  rw [shrN_cast, and_u64 (shrN_lt hN a) (by omega), Nat.and_two_pow_sub_one_eq_mod]
  unfold shrN fldN
  rfl
theorem shl_nat {X a : Nat} (h : X * 2 ^ a < 2 ^ 64) : IntKind.u64.wrap ((X : Int) * 2 ^ a) = ((X * 2 ^ a : Nat) : Int) := by
  rw [show ((X : Int) * 2 ^ a) = ((X * 2 ^ a : Nat) : Int) by rw [Int.natCast_mul, Int.natCast_pow]; rfl, wrap_u64 h]
theorem set_val {N a s V : Nat} (hN : N < 2 ^ 64) (h : a + s ≤ 64) (hV : V < 2 ^ s) :
    bits .or .u64 (bits .andNot .u64 (N : Int) (IntKind.u64.wrap (((2 ^ s - 1 : Nat) : Int) * 2 ^ a))) (IntKind.u64.wrap ((V : Int) * 2 ^ a)) = ((setN N a s V : Nat) : Int) := by
  rw [shl_nat (field_fits h), shl_nat (val_fits h hV), andNot_u64 hN (field_fits h), or_u64 (Nat.lt_of_le_of_lt Nat.and_le_left hN) (val_fits h hV)]
  rfl
attribute [irreducible] fldN setN

theorem bit_at (N i : Nat) (k : Int) (hk : k = (i : Int)) (h1 : i < 64) (w : World) :
    Calls Try.prog 28 #[.int .u64 N, .int .i64 k] w fun e w' => e = .returned (.bool (N.testBit i)) ∧ w = w' := by
  subst hk
  exact bit_any N i h1 w

theorem right_yes (a s : Nat) (h1 : 1 ≤ s) (h2 : a + s ≤ 64) (w : World) :
    Calls Try.prog 25 #[.int .i64 a, .int .i64 s] w fun e w' => e = .returned (.bool true) ∧ w = w' := by
  go_enter Try.func25, Try.ntmps25
  go_wp2
  go_ret
  exact ⟨ret_bool (by first | rfl | (simp; omega)), rfl⟩
theorem right_no (a s : Int) (ha : - 9223372036854775808 ≤ a ∧ a ≤ 9223372036854775807) (h : ¬ ((0 ≤ a ∧ 1 ≤ s) ∧ a + s ≤ 64)) (w : World) :
    Calls Try.prog 25 #[.int .i64 a, .int .i64 s] w fun e w' => e = .returned (.bool false) ∧ w = w' := by
  by_cases h1 : 0 ≤ a
  · by_cases h2 : 1 ≤ s
    · by_cases h3 : s ≤ 64
      · have h4 : 64 - s < a := by omega
        clear h
        go_enter Try.func25, Try.ntmps25
        go_wp2
        go_ret
        exact ⟨ret_bool (by first | rfl | (simp; omega)), rfl⟩
      · clear h
        go_enter Try.func25, Try.ntmps25
        go_wp2
        go_ret
        exact ⟨ret_bool (by first | rfl | (simp; omega)), rfl⟩
    · clear h
      go_enter Try.func25, Try.ntmps25
      go_wp2
      go_ret
      exact ⟨ret_bool (by first | rfl | (simp; omega)), rfl⟩
  · clear h
    go_enter Try.func25, Try.ntmps25
    go_wp2
    go_ret
    exact ⟨ret_bool (by first | rfl | (simp; omega)), rfl⟩
theorem rright_yes (a s : Nat) (h1 : 1 ≤ s) (h2 : a + s ≤ 64) (w : World) :
    Calls Try.prog 27 #[.int .i64 a, .int .i64 s] w fun e w' => e = .returned (.bool true) ∧ w = w' := by
  go_enter Try.func27, Try.ntmps27
  go_wp2
  go_ret
  exact ⟨ret_bool (by first | rfl | (simp; omega)), rfl⟩
theorem rright_no (a s : Int) (ha : - 9223372036854775808 ≤ a ∧ a ≤ 9223372036854775807) (h : ¬ ((0 ≤ a ∧ 1 ≤ s) ∧ a + s ≤ 64)) (w : World) :
    Calls Try.prog 27 #[.int .i64 a, .int .i64 s] w fun e w' => e = .returned (.bool false) ∧ w = w' := by
  by_cases h2 : 1 ≤ s
  · by_cases h3 : s ≤ 64
    · by_cases h1 : 0 ≤ a
      · by_cases h5 : a ≤ 64
        · have h4 : 64 < a + s := by omega
          clear h
          go_enter Try.func27, Try.ntmps27
          go_wp2
          go_ret
          exact ⟨ret_bool (by first | rfl | (simp; omega)), rfl⟩
        · clear h
          go_enter Try.func27, Try.ntmps27
          go_wp2
          go_ret
          exact ⟨ret_bool (by first | rfl | (simp; omega)), rfl⟩
      · clear h
        go_enter Try.func27, Try.ntmps27
        go_wp2
        go_ret
        exact ⟨ret_bool (by first | rfl | (simp; omega)), rfl⟩
    · clear h
      go_enter Try.func27, Try.ntmps27
      go_wp2
      go_ret
      exact ⟨ret_bool (by first | rfl | (simp; omega)), rfl⟩
  · clear h
    go_enter Try.func27, Try.ntmps27
    go_wp2
    go_ret
    exact ⟨ret_bool (by first | rfl | (simp; omega)), rfl⟩

theorem field_no (N : Int) (a s : Int) (ha : - 9223372036854775808 ≤ a ∧ a ≤ 9223372036854775807) (h : ¬ ((0 ≤ a ∧ 1 ≤ s) ∧ a + s ≤ 64)) (w : World) :
    Calls Try.prog 16 #[.int .u64 N, .int .i64 a, .int .i64 s] w fun e w' => e = .returned (.tuple #[.int .u64 0, .int .i64 1]) ∧ w = w' := by
  have h := Lib.hid h
  go_enter Try.func16, Try.ntmps16
  go_wp2_with fail
  refine (right_no a s ha h.out _).mono ?_
  rintro e w' ⟨rfl, rfl⟩
  go_wp2
  go_ret2
  exact ⟨rfl, rfl⟩
theorem field_yes (N a s : Nat) (hN : Hid (N < 2 ^ 64)) (h1 : 1 ≤ s) (h2 : a + s ≤ 64) (w : World) :
    Calls Try.prog 16 #[.int .u64 N, .int .i64 a, .int .i64 s] w fun e w' => e = .returned (.tuple #[.int .u64 (fldN N a s : Nat), .int .i64 0]) ∧ Below w.heap.size w w' := by
  go_enter Try.func16, Try.ntmps16
  go_wp2_with fail
  refine (right_yes a s h1 h2 _).mono ?_
  rintro e w' ⟨rfl, rfl⟩
  go_wp2_with fail
  refine wp_region_later (by kernel_rfl) (by kernel_rfl) ?_
  repeat (go_big_quiet_step ((first | (go_at_call 26; exact calls_later_same (mask_any s h1 (by omega) _)))))
  refine wpQuiet_nil ?_
  rintro _ ⟨x, rfl⟩
  go_wp2
  go_ret2
  exact ⟨by rw [field_val hN.out (by omega)]; rfl, x.h⟩

theorem rfield_no (N : Int) (a s : Int) (ha : - 9223372036854775808 ≤ a ∧ a ≤ 9223372036854775807) (h : ¬ ((0 ≤ a ∧ 1 ≤ s) ∧ a + s ≤ 64)) (w : World) :
    Calls Try.prog 17 #[.int .u64 N, .int .i64 a, .int .i64 s] w fun e w' => e = .returned (.tuple #[.int .u64 0, .int .i64 1]) ∧ w = w' := by
  have h := Lib.hid h
  go_enter Try.func17, Try.ntmps17
  go_wp2_with fail
  refine (rright_no a s ha h.out _).mono ?_
  rintro e w' ⟨rfl, rfl⟩
  go_wp2
  go_ret2
  exact ⟨rfl, rfl⟩
set_option maxRecDepth 100000 in
set_option maxHeartbeats 1000000 in
theorem rfield_yes (N a s : Nat) (h1 : 1 ≤ s) (h2 : a + s ≤ 64) (w : World) :
    Calls Try.prog 17 #[.int .u64 N, .int .i64 a, .int .i64 s] w fun e w' => e = .returned (.tuple #[.int .u64 (fldN N a s : Nat), .int .i64 0]) ∧ w = w' := by
  have hX : Hid (fldN N a s < 2 ^ 64) := Nat.lt_of_lt_of_le (fldN_lt N a s) (pow_le64 (by omega))
  go_enter Try.func17, Try.ntmps17
  go_wp2_with fail
  refine (rright_yes a s h1 h2 _).mono ?_
  rintro e w' ⟨rfl, rfl⟩
  go_wp2_with fail
  go_loop [8, 9] (fun out k => ∃ r : Nat, r ≤ s ∧ out = .int .u64 ((shrN (fldN N a s) r : Nat) : Int) ∧ k = .int .i64 ((r : Int) - 1)) (fun _ k => (intOf k + 1).toNat)
  case atStart => exact ⟨s, Nat.le_refl _, by rw [shr_none (fldN_lt N a s)]; rfl, rfl⟩
  case round =>
    obtain ⟨r, hr, rfl, rfl⟩ := hrel
    cases r with
    | succ r =>
      have hr1 : (((r + 1 : Nat) : Int) - 1) = (r : Int) := by omega
      rw [hr1]
      clear hr1
      have hbit := fldN_bit N a s r
      rw [decide_eq_true (show r < s by omega), Bool.true_and] at hbit
      have hup := Lib.hid (shr_up (r := r) hX.out)
      cases hb : N.testBit (a + r) with
      | true =>
        rw [hb] at hbit
        have hB := Lib.hid hb
        have hbit := Lib.hid hbit
        clear hb
        go_wp2_with fail
        refine (bit_at N (a + r) _ (by first | rfl | omega) (by omega) _).mono ?_
        rintro e w' ⟨rfl, rfl⟩
        rw [hB.out]
        go_wp2
        go_round
        case rel => exact ⟨r, by omega, by rw [hup.out.1 hbit.out], rfl⟩
        case measure => simp [intOf]
      | false =>
        rw [hb] at hbit
        have hB := Lib.hid hb
        have hbit := Lib.hid hbit
        clear hb
        go_wp2_with fail
        refine (bit_at N (a + r) _ (by first | rfl | omega) (by omega) _).mono ?_
        rintro e w' ⟨rfl, rfl⟩
        rw [hB.out]
        go_wp2
        go_round
        case rel => exact ⟨r, by omega, by rw [hup.out.2 hbit.out], rfl⟩
        case measure => simp [intOf]
    | zero =>
      rw [shrN_zero]
      go_wp2
      go_ret2
      exact ⟨rfl, rfl⟩

theorem set_no (N V : Int) (a s : Int) (ha : - 9223372036854775808 ≤ a ∧ a ≤ 9223372036854775807) (h : ¬ ((0 ≤ a ∧ 1 ≤ s) ∧ a + s ≤ 64)) (w : World) :
    Calls Try.prog 18 #[.int .u64 N, .int .i64 a, .int .i64 s, .int .u64 V] w fun e w' => e = .returned (.tuple #[.int .u64 0, .int .i64 1]) ∧ w = w' := by
  have h := Lib.hid h
  go_enter Try.func18, Try.ntmps18
  go_wp2_with fail
  refine (right_no a s ha h.out _).mono ?_
  rintro e w' ⟨rfl, rfl⟩
  go_wp2
  go_ret2
  exact ⟨rfl, rfl⟩
theorem set_long (N : Int) (V a s : Nat) (hV : Hid (V < 2 ^ 64)) (h1 : 1 ≤ s) (h2 : a + s ≤ 64) (h3 : Hid (2 ^ s ≤ V)) (w : World) :
    Calls Try.prog 18 #[.int .u64 N, .int .i64 a, .int .i64 s, .int .u64 V] w fun e w' => e = .returned (.tuple #[.int .u64 0, .int .i64 3]) ∧ w = w' := by
  have hfit : (bits .andNot .u64 (V : Int) ((2 ^ s - 1 : Nat) : Int) != 0) = true := by rw [andNot_mask hV.out (by omega)]; have := h3.out; simpa using this
  go_enter Try.func18, Try.ntmps18
  go_wp2_with fail
  refine (right_yes a s h1 h2 _).mono ?_
  rintro e w' ⟨rfl, rfl⟩
  go_wp2_with fail
  refine (mask_any s h1 (by omega) _).mono ?_
  rintro e w' ⟨rfl, rfl⟩
  go_wp2
  go_ret2
  exact ⟨rfl, rfl⟩
theorem set_yes (N V a s : Nat) (hN : Hid (N < 2 ^ 64)) (hV : Hid (V < 2 ^ 64)) (h1 : 1 ≤ s) (h2 : a + s ≤ 64) (h3 : Hid (V < 2 ^ s)) (w : World) :
    Calls Try.prog 18 #[.int .u64 N, .int .i64 a, .int .i64 s, .int .u64 V] w fun e w' => e = .returned (.tuple #[.int .u64 (setN N a s V : Nat), .int .i64 0]) ∧ Below w.heap.size w w' := by
  have hfit : (bits .andNot .u64 (V : Int) ((2 ^ s - 1 : Nat) : Int) != 0) = false := by rw [andNot_mask hV.out (by omega)]; have := h3.out; simpa using this
  go_enter Try.func18, Try.ntmps18
  go_wp2_with fail
  refine (right_yes a s h1 h2 _).mono ?_
  rintro e w' ⟨rfl, rfl⟩
  go_wp2_with fail
  refine (mask_any s h1 (by omega) _).mono ?_
  rintro e w' ⟨rfl, rfl⟩
  go_wp2_with fail
  refine wp_region_later (by kernel_rfl) (by kernel_rfl) ?_
  repeat (go_big_quiet_step ((first | (go_at_call 26; exact calls_later_same (mask_any s h1 (by omega) _)))))
  refine wpQuiet_nil ?_
  rintro _ ⟨x, rfl⟩
  go_wp2
  go_ret2
  exact ⟨by rw [set_val hN.out h2 h3.out]; rfl, x.h⟩

theorem rset_no (N V : Int) (a s : Int) (ha : - 9223372036854775808 ≤ a ∧ a ≤ 9223372036854775807) (h : ¬ ((0 ≤ a ∧ 1 ≤ s) ∧ a + s ≤ 64)) (w : World) :
    Calls Try.prog 19 #[.int .u64 N, .int .i64 a, .int .i64 s, .int .u64 V] w fun e w' => e = .returned (.tuple #[.int .u64 0, .int .i64 1]) ∧ w = w' := by
  have h := Lib.hid h
  go_enter Try.func19, Try.ntmps19
  go_wp2_with fail
  refine (rright_no a s ha h.out _).mono ?_
  rintro e w' ⟨rfl, rfl⟩
  go_wp2
  go_ret2
  exact ⟨rfl, rfl⟩
theorem rset_long (N : Int) (V a s : Nat) (hV : Hid (V < 2 ^ 64)) (h1 : 1 ≤ s) (h2 : a + s ≤ 64) (h3 : Hid (2 ^ s ≤ V)) (w : World) :
    Calls Try.prog 19 #[.int .u64 N, .int .i64 a, .int .i64 s, .int .u64 V] w fun e w' => e = .returned (.tuple #[.int .u64 0, .int .i64 3]) ∧ w = w' := by
  have hf : Hid (decide (64 ≤ s ∨ V < 2 ^ s) = false) := by
    unfold Hid
    have a1 := h3.out
    have a2 := hV.out
    have a3 : s ≠ 64 := by intro h; rw [h] at a1; exact absurd a2 (Nat.not_lt.2 a1)
    simp; omega
  go_enter Try.func19, Try.ntmps19
  go_wp2_with fail
  refine (rright_yes a s h1 h2 _).mono ?_
  rintro e w' ⟨rfl, rfl⟩
  go_wp2_with fail
  refine (fits_any V s _).mono ?_
  rintro e w' ⟨rfl, rfl⟩
  rw [hf.out]
  go_wp2
  go_ret2
  exact ⟨rfl, rfl⟩
set_option maxRecDepth 100000 in
set_option maxHeartbeats 1000000 in
theorem rset_yes (N V a s : Nat) (hN : Hid (N < 2 ^ 64)) (h1 : 1 ≤ s) (h2 : a + s ≤ 64) (h3 : Hid (V < 2 ^ s)) (w : World) :
    Calls Try.prog 19 #[.int .u64 N, .int .i64 a, .int .i64 s, .int .u64 V] w fun e w' => e = .returned (.tuple #[.int .u64 (setN N a s V : Nat), .int .i64 0]) ∧ w = w' := by
  have hf : Hid (decide (64 ≤ s ∨ V < 2 ^ s) = true) := by unfold Hid; have := h3.out; simp; omega
  have hX : Hid (setN N a s V < 2 ^ 64) := setN_lt hN.out h2 h3.out
  go_enter Try.func19, Try.ntmps19
  go_wp2_with fail
  refine (rright_yes a s h1 h2 _).mono ?_
  rintro e w' ⟨rfl, rfl⟩
  go_wp2_with fail
  refine (fits_any V s _).mono ?_
  rintro e w' ⟨rfl, rfl⟩
  rw [hf.out]
  go_wp2_with fail
  go_loop [10, 11] (fun out k => ∃ r : Nat, r ≤ 64 ∧ out = .int .u64 ((shrN (setN N a s V) r : Nat) : Int) ∧ k = .int .i64 ((r : Int) - 1)) (fun _ k => (intOf k + 1).toNat)
  case atStart => exact ⟨64, Nat.le_refl _, by rw [shr_none hX.out]; rfl, rfl⟩
  case round =>
    obtain ⟨r, hr, rfl, rfl⟩ := hrel
    cases r with
    | succ r =>
      have hr1 : (((r + 1 : Nat) : Int) - 1) = (r : Int) := by omega
      rw [hr1]
      clear hr1
      have hbit := setN_bit hN.out h2 h3.out r
      have hup := Lib.hid (shr_up (r := r) hX.out)
      by_cases hin : a ≤ r ∧ r < a + s
      · rw [if_pos hin] at hbit
        obtain ⟨hi1, hi2⟩ := hin
        cases hb : V.testBit (r - a) with
        | true =>
          rw [hb] at hbit
          have hB := Lib.hid hb
          have hbit := Lib.hid hbit
          clear hb
          go_wp2_with fail
          refine (bit_at V (r - a) _ (by omega) (by omega) _).mono ?_
          rintro e w' ⟨rfl, rfl⟩
          rw [hB.out]
          go_wp2
          go_round
          case rel => exact ⟨r, by omega, by rw [hup.out.1 hbit.out], rfl⟩
          case measure => simp [intOf]
        | false =>
          rw [hb] at hbit
          have hB := Lib.hid hb
          have hbit := Lib.hid hbit
          clear hb
          go_wp2_with fail
          refine (bit_at V (r - a) _ (by omega) (by omega) _).mono ?_
          rintro e w' ⟨rfl, rfl⟩
          rw [hB.out]
          go_wp2
          go_round
          case rel => exact ⟨r, by omega, by rw [hup.out.2 hbit.out], rfl⟩
          case measure => simp [intOf]
      · rw [if_neg hin] at hbit
        by_cases hlo : r < a
        · clear hin
          cases hb : N.testBit r with
          | true =>
            rw [hb] at hbit
            have hB := Lib.hid hb
            have hbit := Lib.hid hbit
            clear hb
            go_wp2_with fail
            refine (bit_at N r _ (by first | rfl | omega) (by omega) _).mono ?_
            rintro e w' ⟨rfl, rfl⟩
            rw [hB.out]
            go_wp2
            go_round
            case rel => exact ⟨r, by omega, by rw [hup.out.1 hbit.out], rfl⟩
            case measure => simp [intOf]
          | false =>
            rw [hb] at hbit
            have hB := Lib.hid hb
            have hbit := Lib.hid hbit
            clear hb
            go_wp2_with fail
            refine (bit_at N r _ (by first | rfl | omega) (by omega) _).mono ?_
            rintro e w' ⟨rfl, rfl⟩
            rw [hB.out]
            go_wp2
            go_round
            case rel => exact ⟨r, by omega, by rw [hup.out.2 hbit.out], rfl⟩
            case measure => simp [intOf]
        · have hhi : a + s ≤ r := by omega
          clear hin
          cases hb : N.testBit r with
          | true =>
            rw [hb] at hbit
            have hB := Lib.hid hb
            have hbit := Lib.hid hbit
            clear hb
            go_wp2_with fail
            refine (bit_at N r _ (by first | rfl | omega) (by omega) _).mono ?_
            rintro e w' ⟨rfl, rfl⟩
            rw [hB.out]
            go_wp2
            go_round
            case rel => exact ⟨r, by omega, by rw [hup.out.1 hbit.out], rfl⟩
            case measure => simp [intOf]
          | false =>
            rw [hb] at hbit
            have hB := Lib.hid hb
            have hbit := Lib.hid hbit
            clear hb
            go_wp2_with fail
            refine (bit_at N r _ (by first | rfl | omega) (by omega) _).mono ?_
            rintro e w' ⟨rfl, rfl⟩
            rw [hB.out]
            go_wp2
            go_round
            case rel => exact ⟨r, by omega, by rw [hup.out.2 hbit.out], rfl⟩
            case measure => simp [intOf]
    | zero =>
      rw [shrN_zero]
      go_wp2
      go_ret2
      exact ⟨rfl, rfl⟩

end Go.Proofs.Ytphafaohicageaa
