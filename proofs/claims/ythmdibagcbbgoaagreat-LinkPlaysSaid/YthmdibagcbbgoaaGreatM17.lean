/- The contracts of control.Check, of its reference, and of what they call. Written by program (gen_ctl.py). Conditions: as they stand. -/
import Derived.WalkKit
import Derived.Lib.Hide
import Derived.Test.YthmdibagcbbgoaaGreatM00
import Derived.Test.YthmdibagcbbgoaaGreatProg
namespace Go.Proofs.YthmdibagcbbgoaaGreat
open Go.RowKit

/-- Is a number from 0 to another one? -/
def inB (n m : Int) : Bool := decide (0 ≤ n) && decide (n ≤ m)
theorem inB_yes {n m : Int} (h : 0 ≤ n ∧ n ≤ m) : inB n m = true := by simp [inB, h.1, h.2]
theorem inB_no {n m : Int} (h : ¬ (0 ≤ n ∧ n ≤ m)) : inB n m = false := by simp only [inB, Bool.and_eq_false_iff, decide_eq_false_iff_not]; omega
theorem inB_val (n m : Int) : inB n m = (decide (0 ≤ n) && decide (n ≤ m)) := rfl
attribute [irreducible] inB
/-- Why a control may not be. -/
def chkN (k ns nr me peer : Int) (n : Nat) : Int :=
  if k < 1 ∨ 7 < k then 1 else if ¬ (((0 ≤ ns ∧ ns ≤ 127) ∧ (0 ≤ nr ∧ nr ≤ 127)) ∧ ((0 ≤ me ∧ me ≤ 65535) ∧ (0 ≤ peer ∧ peer ≤ 65535))) then 1
  else if (k ≠ 1 ∧ (ns ≠ 0 ∨ 0 < n)) ∨ (4 < k ∧ nr ≠ 0) ∨ (k = 5 ∧ peer ≠ 0) ∨ (k = 1 ∧ n = 0) then 2 else if 121 < n then 3 else 0
/-- Are all fields zero that a kind has not? -/
def zeroB (k ns nr peer : Int) (n : Nat) : Bool := !decide ((k ≠ 1 ∧ (ns ≠ 0 ∨ 0 < n)) ∨ (4 < k ∧ nr ≠ 0) ∨ (k = 5 ∧ peer ≠ 0))

theorem results_tmp4 {fn : Func} {t u v x : Tmp} (h : fn.results = #[.tmp t, .tmp u, .tmp v, .tmp x]) (tmps : Array Value) (P : Program) (w : World) :
    (results fn tmps).run P w = .ok (.tuple #[tmps.getD t undef, tmps.getD u undef, tmps.getD v undef, tmps.getD x undef]) w := by
  simp [results, h]

theorem cin_any (n m : Int) (w : World) :
    Calls Tryz.prog 79 #[.int .i64 n, .int .i64 m] w fun e w' => e = .returned (.bool (inB n m)) ∧ w = w' := by
  have hv := Lib.hid (inB_val n m)
  by_cases h : 0 ≤ n
  · go_enter Tryz.func79, Tryz.ntmps79
    go_wp2
    go_ret
    exact ⟨ret_bool (by rw [hv.out, decide_eq_true h]; rfl), rfl⟩
  · go_enter Tryz.func79, Tryz.ntmps79
    go_wp2
    go_ret
    exact ⟨ret_bool (by rw [hv.out, decide_eq_false (by omega)]; rfl), rfl⟩

theorem number_any (n m : Int) (w : World) :
    Calls Tryz.prog 72 #[.int .i64 n, .int .i64 m] w fun e w' => e = .returned (.bool (inB n m)) ∧ w = w' := by
  have hv := Lib.hid (inB_val n m)
  by_cases h : 0 ≤ n
  · go_enter Tryz.func72, Tryz.ntmps72
    go_wp2
    go_ret
    exact ⟨ret_bool (by rw [hv.out, decide_eq_true h]; rfl), rfl⟩
  · go_enter Tryz.func72, Tryz.ntmps72
    go_wp2
    go_ret
    exact ⟨ret_bool (by rw [hv.out, decide_eq_false (by omega)]; rfl), rfl⟩

theorem numbered_1 (w : World) :
    Calls Tryz.prog 78 #[.int .i64 1] w fun e w' => e = .returned (.tuple #[.bool true, .bool true, .bool true, .bool true]) ∧ w = w' := by
  go_enter Tryz.func78, Tryz.ntmps78
  go_wp2
  try simp only [Exit.inBlock, Exit.then]
  refine bodyPost_ret (results_tmp4 rfl _ _ _) rfl ?_
  exact ⟨rfl, rfl⟩

theorem numbered_2 (w : World) :
    Calls Tryz.prog 78 #[.int .i64 2] w fun e w' => e = .returned (.tuple #[.bool false, .bool true, .bool true, .bool false]) ∧ w = w' := by
  go_enter Tryz.func78, Tryz.ntmps78
  go_wp2
  try simp only [Exit.inBlock, Exit.then]
  refine bodyPost_ret (results_tmp4 rfl _ _ _) rfl ?_
  exact ⟨rfl, rfl⟩

theorem numbered_3 (w : World) :
    Calls Tryz.prog 78 #[.int .i64 3] w fun e w' => e = .returned (.tuple #[.bool false, .bool true, .bool true, .bool false]) ∧ w = w' := by
  go_enter Tryz.func78, Tryz.ntmps78
  go_wp2
  try simp only [Exit.inBlock, Exit.then]
  refine bodyPost_ret (results_tmp4 rfl _ _ _) rfl ?_
  exact ⟨rfl, rfl⟩

theorem numbered_4 (w : World) :
    Calls Tryz.prog 78 #[.int .i64 4] w fun e w' => e = .returned (.tuple #[.bool false, .bool true, .bool true, .bool false]) ∧ w = w' := by
  go_enter Tryz.func78, Tryz.ntmps78
  go_wp2
  try simp only [Exit.inBlock, Exit.then]
  refine bodyPost_ret (results_tmp4 rfl _ _ _) rfl ?_
  exact ⟨rfl, rfl⟩

theorem numbered_5 (w : World) :
    Calls Tryz.prog 78 #[.int .i64 5] w fun e w' => e = .returned (.tuple #[.bool false, .bool false, .bool false, .bool false]) ∧ w = w' := by
  go_enter Tryz.func78, Tryz.ntmps78
  go_wp2
  try simp only [Exit.inBlock, Exit.then]
  refine bodyPost_ret (results_tmp4 rfl _ _ _) rfl ?_
  exact ⟨rfl, rfl⟩

theorem numbered_6 (w : World) :
    Calls Tryz.prog 78 #[.int .i64 6] w fun e w' => e = .returned (.tuple #[.bool false, .bool false, .bool true, .bool false]) ∧ w = w' := by
  go_enter Tryz.func78, Tryz.ntmps78
  go_wp2
  try simp only [Exit.inBlock, Exit.then]
  refine bodyPost_ret (results_tmp4 rfl _ _ _) rfl ?_
  exact ⟨rfl, rfl⟩

theorem numbered_7 (w : World) :
    Calls Tryz.prog 78 #[.int .i64 7] w fun e w' => e = .returned (.tuple #[.bool false, .bool false, .bool true, .bool false]) ∧ w = w' := by
  go_enter Tryz.func78, Tryz.ntmps78
  go_wp2
  try simp only [Exit.inBlock, Exit.then]
  refine bodyPost_ret (results_tmp4 rfl _ _ _) rfl ?_
  exact ⟨rfl, rfl⟩

theorem numbered_out (k : Int) (h : k < 1 ∨ 7 < k) (w : World) :
    Calls Tryz.prog 78 #[.int .i64 k] w fun e w' => e = .returned (.tuple #[.bool false, .bool false, .bool false, .bool false]) ∧ w = w' := by
  have h1 : k ≠ 1 := by omega
  have h2 : k ≠ 2 := by omega
  have h3 : k ≠ 3 := by omega
  have h4 : k ≠ 4 := by omega
  have h6 : k ≠ 6 := by omega
  have h7 : k ≠ 7 := by omega
  clear h
  go_enter Tryz.func78, Tryz.ntmps78
  go_wp2
  try simp only [Exit.inBlock, Exit.then]
  refine bodyPost_ret (results_tmp4 rfl _ _ _) rfl ?_
  exact ⟨rfl, rfl⟩

end Go.Proofs.YthmdibagcbbgoaaGreat
