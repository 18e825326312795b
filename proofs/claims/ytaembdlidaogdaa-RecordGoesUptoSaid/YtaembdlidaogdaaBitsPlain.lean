/- Plain facts about numbers below 2^64 and their bits; no program in sight. Conditions: none. -/
import Derived.Laws.BitsAllLaws
import Derived.IntWalk
import Derived.RowKit
namespace Go.Proofs.Ytaembdlidaogdaa
open Go Go.RowKit

theorem mask_val {s : Nat} (h1 : 1 ≤ s) (h2 : s ≤ 64) : (18446744073709551615 : Int) / 2 ^ (64 - s) = ((2 ^ s - 1 : Nat) : Int) := by
  have h : ∀ s : Fin 65, 1 ≤ s.val → (18446744073709551615 : Int) / 2 ^ (64 - s.val) = ((2 ^ s.val - 1 : Nat) : Int) := by decide +kernel
  exact h ⟨s, by omega⟩ h1
theorem bit_val (N i : Nat) : (((N : Int) / 2 ^ i).tmod 2 == 1) = N.testBit i := by
  have e : ((N : Int) / 2 ^ i) = ((N / 2 ^ i : Nat) : Int) := by push_cast; rfl
  rw [e, Nat.testBit_eq_decide_div_mod_eq]
  generalize N / 2 ^ i = M
  have e2 : ((M : Nat) : Int).tmod 2 = ((M % 2 : Nat) : Int) := by
    rw [Int.tmod_eq_emod_of_nonneg (by omega)]; omega
  rw [e2]
  have : M % 2 = 0 ∨ M % 2 = 1 := by omega
  rcases this with h | h <;> simp [h]
theorem wrap_u64 {n : Nat} (h : n < 2 ^ 64) : IntKind.u64.wrap (n : Int) = (n : Int) := IntWalk.u64_in _ (by omega)
theorem pow_le63 {k : Nat} (h : k ≤ 63) : 2 ^ k ≤ 2 ^ 63 := Nat.pow_le_pow_right (by decide) h
theorem pow_le64 {k : Nat} (h : k ≤ 64) : 2 ^ k ≤ 2 ^ 64 := Nat.pow_le_pow_right (by decide) h
theorem power_step {i k : Nat} (hi : i < k) (hk : k < 64) : IntKind.u64.wrap (2 ^ i * 2) = ((2 ^ (i + 1) : Nat) : Int) := by
  have e : ((2 : Int) ^ i * 2) = ((2 ^ (i + 1) : Nat) : Int) := by push_cast; rw [Int.pow_succ]
  have := pow_le63 (k := i + 1) (by omega)
  rw [e, wrap_u64 (by omega)]

/-- The lowest k bits the other way round. -/
def mirTo (N : Nat) : Nat → Nat
  | 0 => 0
  | k + 1 => 2 * mirTo N k + N / 2 ^ k % 2
/-- How many of the lowest k bits are 1. -/
def cntTo (N : Nat) : Nat → Nat
  | 0 => 0
  | k + 1 => cntTo N k + N / 2 ^ k % 2
theorem mirTo_lt (N k : Nat) : mirTo N k < 2 ^ k := by
  induction k with
  | zero => simp [mirTo]
  | succ k ih => rw [mirTo, Nat.pow_succ]; omega
theorem cntTo_le (N k : Nat) : cntTo N k ≤ k := by
  induction k with
  | zero => simp [cntTo]
  | succ k ih => rw [cntTo]; omega

theorem or_u64 {a b : Nat} (ha : a < 2 ^ 64) (hb : b < 2 ^ 64) : bits .or .u64 (a : Int) (b : Int) = ((a ||| b : Nat) : Int) := u64_or_nat a b ha hb
theorem and_u64 {a b : Nat} (ha : a < 2 ^ 64) (hb : b < 2 ^ 64) : bits .and .u64 (a : Int) (b : Int) = ((a &&& b : Nat) : Int) := u64_and_nat a b ha hb
theorem andNot_u64 {a b : Nat} (ha : a < 2 ^ 64) (hb : b < 2 ^ 64) : bits .andNot .u64 (a : Int) (b : Int) = ((a &&& (2 ^ 64 - 1 - b) : Nat) : Int) := u64_andNot_nat a b ha hb

/-- N without its lowest i bits. -/
def shrN (N i : Nat) : Nat := N / 2 ^ i
theorem shrN_lt {N : Nat} (h : N < 2 ^ 64) (i : Nat) : shrN N i < 2 ^ 64 := Nat.lt_of_le_of_lt (Nat.div_le_self _ _) h
theorem shrN_cast (N i : Nat) : ((N : Int) / 2 ^ i) = ((shrN N i : Nat) : Int) := by unfold shrN; push_cast; rfl
theorem shrN_succ (N i : Nat) : shrN N i / 2 = shrN N (i + 1) := by unfold shrN; rw [Nat.div_div_eq_div_mul, Nat.pow_succ]
theorem shrN_zero (N : Nat) : shrN N 0 = N := by simp [shrN]
theorem mirTo_succ (N k : Nat) : mirTo N (k + 1) = 2 * mirTo N k + shrN N k % 2 := rfl
theorem cntTo_succ (N k : Nat) : cntTo N (k + 1) = cntTo N k + shrN N k % 2 := rfl
theorem testBit_shrN (N i : Nat) : N.testBit i = decide (shrN N i % 2 = 1) := by rw [Nat.testBit_eq_decide_div_mod_eq]; rfl
theorem mirTo_zero (N : Nat) : mirTo N 0 = 0 := rfl
theorem cntTo_zero (N : Nat) : cntTo N 0 = 0 := rfl
attribute [irreducible] mirTo cntTo shrN

theorem and1_u64 {a : Nat} (ha : a < 2 ^ 64) : bits .and .u64 (a : Int) 1 = ((a % 2 : Nat) : Int) := by
  have := and_u64 ha (show 1 < 2 ^ 64 by decide)
  rw [show ((1 : Nat) : Int) = 1 from rfl] at this
  rw [this, nat_mask1]
theorem wrap64_small {n : Nat} (h : n ≤ 1000) : wrap64 (n : Int) = (n : Int) := by
  unfold wrap64; omega
theorem cnt_step {N i : Nat} (hN : N < 2 ^ 64) (hi : i < 64) : wrap64 ((cntTo N i : Nat) + wrap64 (bits .and .u64 ((N : Int) / 2 ^ i) 1)) = ((cntTo N (i + 1) : Nat) : Int) := by
  have hc := cntTo_le N i
  rw [shrN_cast, and1_u64 (shrN_lt hN i), wrap64_small (by omega), ← Int.natCast_add, wrap64_small (by omega), cntTo_succ]
theorem cnt_hit {N i : Nat} (h : N.testBit i = true) : ((cntTo N i : Nat) : Int) + 1 = ((cntTo N (i + 1) : Nat) : Int) := by
  rw [testBit_shrN] at h
  have := of_decide_eq_true h
  rw [cntTo_succ, this]; rfl
theorem cnt_miss {N i : Nat} (h : N.testBit i = false) : ((cntTo N i : Nat) : Int) = ((cntTo N (i + 1) : Nat) : Int) := by
  rw [testBit_shrN] at h
  have := of_decide_eq_false h
  rw [cntTo_succ, show shrN N i % 2 = 0 by omega]; rfl
theorem mir_hit {N i : Nat} (h : N.testBit i = true) (hi : i < 64) : IntKind.u64.wrap (IntKind.u64.wrap (2 * (mirTo N i : Nat)) + 1) = ((mirTo N (i + 1) : Nat) : Int) := by
  rw [testBit_shrN] at h
  have := of_decide_eq_true h
  have h1 := mirTo_lt N i
  have h2 := pow_le63 (k := i) (by omega)
  rw [show (2 * ((mirTo N i : Nat) : Int)) = ((2 * mirTo N i : Nat) : Int) by push_cast; rfl, wrap_u64 (by omega), mirTo_succ, this,
    show (((2 * mirTo N i : Nat) : Int) + 1) = ((2 * mirTo N i + 1 : Nat) : Int) by push_cast; rfl, wrap_u64 (by omega)]
theorem mir_miss {N i : Nat} (h : N.testBit i = false) (hi : i < 64) : IntKind.u64.wrap (2 * (mirTo N i : Nat)) = ((mirTo N (i + 1) : Nat) : Int) := by
  rw [testBit_shrN] at h
  have := of_decide_eq_false h
  have h1 := mirTo_lt N i
  have h2 := pow_le63 (k := i) (by omega)
  rw [show (2 * ((mirTo N i : Nat) : Int)) = ((2 * mirTo N i : Nat) : Int) by push_cast; rfl, wrap_u64 (by omega), mirTo_succ, show shrN N i % 2 = 0 by omega, Nat.add_zero]
/-- Bits above the lowest s are there just where the number does not fit. -/
theorem andNot_mask {V s : Nat} (hV : V < 2 ^ 64) (hs : s ≤ 64) : (bits .andNot .u64 (V : Int) ((2 ^ s - 1 : Nat) : Int) != 0) = decide (2 ^ s ≤ V) := by
  have hp := pow_le64 hs
  have hp1 : 0 < 2 ^ s := Nat.pow_pos (by decide)
  rw [andNot_u64 hV (by omega)]
  have key : V &&& (2 ^ 64 - 1 - (2 ^ s - 1)) = V / 2 ^ s * 2 ^ s := by
    apply Nat.eq_of_testBit_eq
    intro i
    rw [Nat.testBit_and, show 2 ^ 64 - 1 - (2 ^ s - 1) = 2 ^ 64 - (2 ^ s - 1 + 1) by omega, Nat.testBit_two_pow_sub_succ (by omega), Nat.testBit_two_pow_sub_one, Nat.testBit_mul_two_pow, Nat.testBit_div_two_pow]
    by_cases h1 : s ≤ i
    · by_cases h2 : i < 64
      · simp [h1, h2, show ¬ i < s by omega, show i - s + s = i by omega]
      · have : V.testBit i = false := Nat.testBit_lt_two_pow (Nat.lt_of_lt_of_le hV (Nat.pow_le_pow_right (by decide) (by omega)))
        simp [h2, h1, this, show i - s + s = i by omega]
    · simp [h1, show i < s by omega]
  rw [key]
  by_cases h : 2 ^ s ≤ V
  · have : 0 < V / 2 ^ s := Nat.div_pos h hp1
    have h2 : 0 < V / 2 ^ s * 2 ^ s := Nat.mul_pos this hp1
    rw [decide_eq_true h, bne_iff_ne]
    intro h0
    have := Int.natCast_eq_zero.1 h0
    omega
  · rw [Nat.div_eq_of_lt (by omega)]
    simp; omega

theorem shr_step (N i : Nat) : ((shrN N i : Nat) : Int) / 2 = ((shrN N (i + 1) : Nat) : Int) := by rw [← shrN_succ]; omega
theorem mir_or {N i : Nat} (hN : N < 2 ^ 64) (hi : i < 64) : bits .or .u64 (IntKind.u64.wrap ((mirTo N i : Nat) * 2)) (bits .and .u64 ((shrN N i : Nat) : Int) 1) = ((mirTo N (i + 1) : Nat) : Int) := by
  have h1 := mirTo_lt N i
  have h2 := pow_le63 (k := i) (by omega)
  rw [and1_u64 (shrN_lt hN i), show (((mirTo N i : Nat) : Int) * 2) = ((2 * mirTo N i : Nat) : Int) by push_cast; omega, wrap_u64 (by omega), or_u64 (by omega) (by omega), nat_join 1 _ _ (by omega) (by omega), mirTo_succ]

/-- What Mirror answers. -/
def mirE (N : Nat) (s : Int) : Int := if s < 1 ∨ 64 < s then 1 else if 2 ^ s.toNat ≤ N then 3 else 0
def mirV (N : Nat) (s : Int) : Nat := if s < 1 ∨ 64 < s then 0 else if 2 ^ s.toNat ≤ N then 0 else mirTo N s.toNat
theorem mir_bad {N : Nat} {s : Int} (h : s < 1 ∨ 64 < s) : mirE N s = 1 ∧ mirV N s = 0 := by simp [mirE, mirV, h]
theorem mir_long {N s : Nat} (h1 : 1 ≤ s) (h2 : s ≤ 64) (h : 2 ^ s ≤ N) : mirE N s = 3 ∧ mirV N s = 0 := by
  have : ¬ ((s : Int) < 1 ∨ 64 < (s : Int)) := by omega
  simp [mirE, mirV, this, h]
theorem mir_good {N s : Nat} (h1 : 1 ≤ s) (h2 : s ≤ 64) (h : N < 2 ^ s) : mirE N s = 0 ∧ mirV N s = mirTo N s := by
  have : ¬ ((s : Int) < 1 ∨ 64 < (s : Int)) := by omega
  simp [mirE, mirV, this, Nat.not_le.2 h]

theorem fits_val (N s : Nat) : (decide (64 ≤ (s : Int)) || decide ((N : Int) < 2 ^ s)) = decide (64 ≤ s ∨ N < 2 ^ s) := by
  have e : (2 : Int) ^ s = ((2 ^ s : Nat) : Int) := by push_cast; rfl
  rw [e, ← Bool.decide_or, decide_eq_decide]
  omega

end Go.Proofs.Ytaembdlidaogdaa
