/- Plain laws on numbers' bits and bytes: mirrored twice; what was put is got. No program in sight. Conditions: none. -/
import Derived.WalkArith
import Derived.Test.YtaembdlidaogdaaBitsPut
import Derived.Test.YtaembdlidaogdaaBitsGet
namespace Go.Proofs.Ytaembdlidaogdaa
open Go Go.RowKit

theorem testBit_mirTo (N k j : Nat) : (mirTo N k).testBit j = (decide (j < k) && N.testBit (k - 1 - j)) := by
  induction k generalizing j with
  | zero => simp [mirTo_zero]
  | succ k ih =>
    rw [mirTo_succ]
    cases j with
    | zero => rw [Nat.testBit_zero, show k + 1 - 1 - 0 = k by omega, testBit_shrN]; simp only [Nat.zero_lt_succ, decide_true, Bool.true_and, decide_eq_decide]; omega
    | succ j =>
      rw [Nat.testBit_succ, show (2 * mirTo N k + shrN N k % 2) / 2 = mirTo N k by omega, ih, show k + 1 - 1 - (j + 1) = k - 1 - j by omega]
      simp
theorem mir_twice {N s : Nat} (h : N < 2 ^ s) : mirTo (mirTo N s) s = N := by
  apply Nat.eq_of_testBit_eq
  intro j
  rw [testBit_mirTo, testBit_mirTo]
  by_cases hj : j < s
  · simp only [hj, decide_true, Bool.true_and, show s - 1 - j < s by omega, show s - 1 - (s - 1 - j) = j by omega]
  · have : N.testBit j = false := Nat.testBit_lt_two_pow (Nat.lt_of_lt_of_le h (Nat.pow_le_pow_right (by decide) (by omega)))
    simp [hj, this]
theorem cnt_low (X b k : Nat) (hb : b < 2) : cntTo (2 * X + b) (k + 1) = b + cntTo X k := by
  induction k with
  | zero => rw [cntTo_succ, cntTo_zero, cntTo_zero, shrN_zero]; omega
  | succ k ih => rw [cntTo_succ, ih, cntTo_succ, ← shrN_succ]; unfold shrN; rw [Nat.div_div_eq_div_mul, Nat.mul_comm (2 ^ k) 2, ← Nat.div_div_eq_div_mul, show (2 * X + b) / 2 = X by omega]; omega
theorem cnt_mir (N s : Nat) : cntTo (mirTo N s) s = cntTo N s := by
  induction s with
  | zero => rw [cntTo_zero, cntTo_zero]
  | succ s ih => rw [mirTo_succ, cnt_low _ _ _ (Nat.mod_lt _ (by decide)), ih, cntTo_succ]; omega
theorem cnt_above {X s : Nat} (h : X < 2 ^ s) (d : Nat) : cntTo X (s + d) = cntTo X s := by
  induction d with
  | zero => rfl
  | succ d ih =>
    rw [show s + (d + 1) = (s + d) + 1 by omega, cntTo_succ, ih]
    have : shrN X (s + d) = 0 := by unfold shrN; exact Nat.div_eq_of_lt (Nat.lt_of_lt_of_le h (Nat.pow_le_pow_right (by decide) (by omega)))
    rw [this]; omega
theorem cnt_twice {N s : Nat} (h : N < 2 ^ s) (hs : s ≤ 64) : cntTo (mirTo N s) 64 = cntTo N 64 := by
  rw [show 64 = s + (64 - s) by omega, cnt_above (mirTo_lt N s), cnt_above h, cnt_mir]

theorem be_get (N s i : Nat) (h : i < s) : (be N s)[i]? = some ((N / 2 ^ (8 * (s - 1 - i)) % 256 : Nat) : Int) := by
  induction s generalizing i with
  | zero => omega
  | succ s ih =>
    cases i with
    | zero => simp [be]
    | succ i => rw [be, List.getElem?_cons_succ, ih i (by omega), show s + 1 - 1 - (i + 1) = s - 1 - i by omega]
theorem get_put {bs : List Int} {N s : Nat} (h : N < 2 ^ (8 * s)) (i : Nat) (hi : i ≤ s) : getTo (bs ++ be N s) bs.length i = N / 2 ^ (8 * (s - i)) := by
  induction i with
  | zero => rw [getTo_zero, Nat.div_eq_of_lt (by simpa using h)]
  | succ i ih =>
    rw [getTo_succ, ih (by omega), List.getD_eq_getElem?_getD, List.getElem?_append_right (by omega), show bs.length + i - bs.length = i by omega, be_get N s i (by omega),
      show 8 * (s - i) = 8 * (s - 1 - i) + 8 by omega, show 8 * (s - (i + 1)) = 8 * (s - 1 - i) by omega, Nat.pow_add, ← Nat.div_div_eq_div_mul]
    generalize N / 2 ^ (8 * (s - 1 - i)) = M
    simp only [Option.getD_some, Int.toNat_natCast]
    omega
theorem be_wf (N s : Nat) : ∀ n ∈ be N s, (Lit.int .u8 n).wf = true := by
  induction s with
  | zero => simp [be]
  | succ s ih =>
    intro n hn
    rw [be] at hn
    rcases List.mem_cons.1 hn with rfl | hn
    · exact Go.WalkArith.wf_u8 (by omega)
    · exact ih n hn
theorem putV_wf {bs : List Int} (hw : ∀ n ∈ bs, (Lit.int .u8 n).wf = true) (N : Nat) (s : Int) : ∀ n ∈ putV bs N s, (Lit.int .u8 n).wf = true := by
  unfold putV
  split
  · simp
  · split
    · simp
    · intro n hn
      rcases List.mem_append.1 hn with h | h
      · exact hw n h
      · exact be_wf _ _ n h
theorem get_back {bs : List Int} {N s : Nat} (h1 : 1 ≤ s) (h2 : s ≤ 8) (h : N < 2 ^ (8 * s)) : getV (bs ++ be N s) bs.length s = N ∧ getE (bs ++ be N s) bs.length s = 0 := by
  have e1 : ¬ (((s : Int) < 1 ∨ 8 < (s : Int)) ∨ ((bs.length : Nat) : Int) < 0) := by omega
  have e2 : ¬ (((bs ++ be N s).length : Int) < (bs.length : Int) ∨ ((bs ++ be N s).length : Int) - (bs.length : Int) < s) := by rw [List.length_append, be_length]; omega
  rw [(get_good' e1 e2).1, (get_good' e1 e2).2, get_put h s (Nat.le_refl _)]
  simp

end Go.Proofs.Ytaembdlidaogdaa
