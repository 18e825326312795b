/- control.Check and portageref05.Check, kind 3, the numbers in their ranges. Written by program (gen_ctl.py). Conditions: as they stand. -/
import Derived.WalkKit
import Derived.Lib.Hide
import Derived.Test.YthmdibagcbbgoaaGreatM17
namespace Go.Proofs.YthmdibagcbbgoaaGreat
open Go.RowKit

theorem zero_3_0 (ns : Int) (nr : Int) (p : Bool) (me : Int) (peer : Int) (ao : Option Addr) (n : Nat) (cap : Nat) (hns : ns ≠ 0) (w : World) :
    Calls Tryz.prog 73 #[(.agg #[.int .i64 3, .int .i64 ns, .int .i64 nr, .bool p, .int .i64 me, .int .i64 peer, .slice ao n cap])] w fun e w' => e = .returned (.bool false) ∧ w' = w.alloc (.cells #[.int .i64 3, .int .i64 ns, .int .i64 nr, .bool p, .int .i64 me, .int .i64 peer, .slice ao n cap] 46) := by
  go_enter Tryz.func73, Tryz.ntmps73
  go_wp2
  go_ret
  exact ⟨ret_bool (by first | rfl | (simp; omega)), rfl⟩

theorem check_3_0 (ns : Int) (nr : Int) (p : Bool) (me : Int) (peer : Int) (ao : Option Addr) (n : Nat) (cap : Nat) (hns : ns ≠ 0) (r1 : inB ns 127 = true) (r2 : inB nr 127 = true) (r3 : inB me 65535 = true) (r4 : inB peer 65535 = true) (w : World) :
    Calls Tryz.prog 56 #[(.agg #[.int .i64 3, .int .i64 ns, .int .i64 nr, .bool p, .int .i64 me, .int .i64 peer, .slice ao n cap])] w fun e w' => e = .returned (.int .i64 2) ∧ Below w.heap.size w w' := by
  go_enter Tryz.func56, Tryz.ntmps56
  go_wp2_with fail
  refine (numbered_3 _).mono ?_
  rintro e w' ⟨rfl, rfl⟩
  go_wp2_with fail
  refine (cin_any _ _ _).mono ?_
  rintro e w' ⟨rfl, rfl⟩
  rw [r1]
  go_wp2_with fail
  refine (cin_any _ _ _).mono ?_
  rintro e w' ⟨rfl, rfl⟩
  rw [r2]
  go_wp2_with fail
  refine (cin_any _ _ _).mono ?_
  rintro e w' ⟨rfl, rfl⟩
  rw [r3]
  go_wp2_with fail
  refine (cin_any _ _ _).mono ?_
  rintro e w' ⟨rfl, rfl⟩
  rw [r4]
  go_wp2
  go_ret
  exact ⟨rfl, bl_alloc (bl_refl w) _⟩

theorem rcheck_3_0 (ns : Int) (nr : Int) (p : Bool) (me : Int) (peer : Int) (ao : Option Addr) (n : Nat) (cap : Nat) (hns : ns ≠ 0) (r1 : inB ns 127 = true) (r2 : inB nr 127 = true) (r3 : inB me 65535 = true) (r4 : inB peer 65535 = true) (w : World) :
    Calls Tryz.prog 53 #[(.agg #[.int .i64 3, .int .i64 ns, .int .i64 nr, .bool p, .int .i64 me, .int .i64 peer, .slice ao n cap])] w fun e w' => e = .returned (.int .i64 2) ∧ Below w.heap.size w w' := by
  go_enter Tryz.func53, Tryz.ntmps53
  go_wp2_with fail
  refine (number_any _ _ _).mono ?_
  rintro e w' ⟨rfl, rfl⟩
  rw [r1]
  go_wp2_with fail
  refine (number_any _ _ _).mono ?_
  rintro e w' ⟨rfl, rfl⟩
  rw [r2]
  go_wp2_with fail
  refine (number_any _ _ _).mono ?_
  rintro e w' ⟨rfl, rfl⟩
  rw [r3]
  go_wp2_with fail
  refine (number_any _ _ _).mono ?_
  rintro e w' ⟨rfl, rfl⟩
  rw [r4]
  go_wp2_with fail
  refine (zero_3_0 _ _ _ _ _ _ _ _ hns _).mono ?_
  rintro e w' ⟨rfl, rfl⟩
  go_wp2
  go_ret
  exact ⟨rfl, bl_alloc (bl_alloc (bl_refl w) _) _⟩

theorem zero_3_1 (nr : Int) (p : Bool) (me : Int) (peer : Int) (ao : Option Addr) (n : Nat) (cap : Nat) (hn : 0 < n) (w : World) :
    Calls Tryz.prog 73 #[(.agg #[.int .i64 3, .int .i64 0, .int .i64 nr, .bool p, .int .i64 me, .int .i64 peer, .slice ao n cap])] w fun e w' => e = .returned (.bool false) ∧ w' = w.alloc (.cells #[.int .i64 3, .int .i64 0, .int .i64 nr, .bool p, .int .i64 me, .int .i64 peer, .slice ao n cap] 46) := by
  go_enter Tryz.func73, Tryz.ntmps73
  go_wp2
  go_ret
  exact ⟨ret_bool (by first | rfl | (simp; omega)), rfl⟩

theorem check_3_1 (nr : Int) (p : Bool) (me : Int) (peer : Int) (ao : Option Addr) (n : Nat) (cap : Nat) (hn : 0 < n) (r1 : inB 0 127 = true) (r2 : inB nr 127 = true) (r3 : inB me 65535 = true) (r4 : inB peer 65535 = true) (w : World) :
    Calls Tryz.prog 56 #[(.agg #[.int .i64 3, .int .i64 0, .int .i64 nr, .bool p, .int .i64 me, .int .i64 peer, .slice ao n cap])] w fun e w' => e = .returned (.int .i64 2) ∧ Below w.heap.size w w' := by
  go_enter Tryz.func56, Tryz.ntmps56
  go_wp2_with fail
  refine (numbered_3 _).mono ?_
  rintro e w' ⟨rfl, rfl⟩
  go_wp2_with fail
  refine (cin_any _ _ _).mono ?_
  rintro e w' ⟨rfl, rfl⟩
  rw [r1]
  go_wp2_with fail
  refine (cin_any _ _ _).mono ?_
  rintro e w' ⟨rfl, rfl⟩
  rw [r2]
  go_wp2_with fail
  refine (cin_any _ _ _).mono ?_
  rintro e w' ⟨rfl, rfl⟩
  rw [r3]
  go_wp2_with fail
  refine (cin_any _ _ _).mono ?_
  rintro e w' ⟨rfl, rfl⟩
  rw [r4]
  go_wp2
  go_ret
  exact ⟨rfl, bl_alloc (bl_refl w) _⟩

theorem rcheck_3_1 (nr : Int) (p : Bool) (me : Int) (peer : Int) (ao : Option Addr) (n : Nat) (cap : Nat) (hn : 0 < n) (r1 : inB 0 127 = true) (r2 : inB nr 127 = true) (r3 : inB me 65535 = true) (r4 : inB peer 65535 = true) (w : World) :
    Calls Tryz.prog 53 #[(.agg #[.int .i64 3, .int .i64 0, .int .i64 nr, .bool p, .int .i64 me, .int .i64 peer, .slice ao n cap])] w fun e w' => e = .returned (.int .i64 2) ∧ Below w.heap.size w w' := by
  go_enter Tryz.func53, Tryz.ntmps53
  go_wp2_with fail
  refine (number_any _ _ _).mono ?_
  rintro e w' ⟨rfl, rfl⟩
  rw [r1]
  go_wp2_with fail
  refine (number_any _ _ _).mono ?_
  rintro e w' ⟨rfl, rfl⟩
  rw [r2]
  go_wp2_with fail
  refine (number_any _ _ _).mono ?_
  rintro e w' ⟨rfl, rfl⟩
  rw [r3]
  go_wp2_with fail
  refine (number_any _ _ _).mono ?_
  rintro e w' ⟨rfl, rfl⟩
  rw [r4]
  go_wp2_with fail
  refine (zero_3_1 _ _ _ _ _ _ _ hn _).mono ?_
  rintro e w' ⟨rfl, rfl⟩
  go_wp2
  go_ret
  exact ⟨rfl, bl_alloc (bl_alloc (bl_refl w) _) _⟩

theorem zero_3_2 (nr : Int) (p : Bool) (me : Int) (peer : Int) (ao : Option Addr) (cap : Nat)  (w : World) :
    Calls Tryz.prog 73 #[(.agg #[.int .i64 3, .int .i64 0, .int .i64 nr, .bool p, .int .i64 me, .int .i64 peer, .slice ao 0 cap])] w fun e w' => e = .returned (.bool true) ∧ w' = w.alloc (.cells #[.int .i64 3, .int .i64 0, .int .i64 nr, .bool p, .int .i64 me, .int .i64 peer, .slice ao 0 cap] 46) := by
  go_enter Tryz.func73, Tryz.ntmps73
  go_wp2
  go_ret
  exact ⟨ret_bool (by first | rfl | (simp; omega)), rfl⟩

theorem check_3_2 (nr : Int) (p : Bool) (me : Int) (peer : Int) (ao : Option Addr) (cap : Nat)  (r1 : inB 0 127 = true) (r2 : inB nr 127 = true) (r3 : inB me 65535 = true) (r4 : inB peer 65535 = true) (w : World) :
    Calls Tryz.prog 56 #[(.agg #[.int .i64 3, .int .i64 0, .int .i64 nr, .bool p, .int .i64 me, .int .i64 peer, .slice ao 0 cap])] w fun e w' => e = .returned (.int .i64 0) ∧ Below w.heap.size w w' := by
  go_enter Tryz.func56, Tryz.ntmps56
  go_wp2_with fail
  refine (numbered_3 _).mono ?_
  rintro e w' ⟨rfl, rfl⟩
  go_wp2_with fail
  refine (cin_any _ _ _).mono ?_
  rintro e w' ⟨rfl, rfl⟩
  rw [r1]
  go_wp2_with fail
  refine (cin_any _ _ _).mono ?_
  rintro e w' ⟨rfl, rfl⟩
  rw [r2]
  go_wp2_with fail
  refine (cin_any _ _ _).mono ?_
  rintro e w' ⟨rfl, rfl⟩
  rw [r3]
  go_wp2_with fail
  refine (cin_any _ _ _).mono ?_
  rintro e w' ⟨rfl, rfl⟩
  rw [r4]
  go_wp2
  go_ret
  exact ⟨rfl, bl_alloc (bl_refl w) _⟩

theorem rcheck_3_2 (nr : Int) (p : Bool) (me : Int) (peer : Int) (ao : Option Addr) (cap : Nat)  (r1 : inB 0 127 = true) (r2 : inB nr 127 = true) (r3 : inB me 65535 = true) (r4 : inB peer 65535 = true) (w : World) :
    Calls Tryz.prog 53 #[(.agg #[.int .i64 3, .int .i64 0, .int .i64 nr, .bool p, .int .i64 me, .int .i64 peer, .slice ao 0 cap])] w fun e w' => e = .returned (.int .i64 0) ∧ Below w.heap.size w w' := by
  go_enter Tryz.func53, Tryz.ntmps53
  go_wp2_with fail
  refine (number_any _ _ _).mono ?_
  rintro e w' ⟨rfl, rfl⟩
  rw [r1]
  go_wp2_with fail
  refine (number_any _ _ _).mono ?_
  rintro e w' ⟨rfl, rfl⟩
  rw [r2]
  go_wp2_with fail
  refine (number_any _ _ _).mono ?_
  rintro e w' ⟨rfl, rfl⟩
  rw [r3]
  go_wp2_with fail
  refine (number_any _ _ _).mono ?_
  rintro e w' ⟨rfl, rfl⟩
  rw [r4]
  go_wp2_with fail
  refine (zero_3_2 _ _ _ _ _ _  _).mono ?_
  rintro e w' ⟨rfl, rfl⟩
  go_wp2
  go_ret
  exact ⟨rfl, bl_alloc (bl_alloc (bl_refl w) _) _⟩

end Go.Proofs.YthmdibagcbbgoaaGreat
