/- control.Check and portageref05.Check, kind 5, the numbers in their ranges. Written by program (gen_ctl.py). Conditions: as they stand. -/
import Derived.WalkKit
import Derived.Lib.Hide
import Derived.Test.YthmdibagcbbgoaaM22
namespace Go.Proofs.Ythmdibagcbbgoaa
open Go.RowKit

theorem check_5_0 (ns : Int) (nr : Int) (p : Bool) (me : Int) (peer : Int) (ao : Option Addr) (n : Nat) (cap : Nat) (hns : ns ≠ 0) (r1 : inB ns 127 = true) (r2 : inB nr 127 = true) (r3 : inB me 65535 = true) (r4 : inB peer 65535 = true) (w : World) :
    Calls Try.prog 33 #[(.agg #[.int .i64 5, .int .i64 ns, .int .i64 nr, .bool p, .int .i64 me, .int .i64 peer, .slice ao n cap])] w fun e w' => e = .returned (.int .i64 2) ∧ Below w.heap.size w w' := by
  go_enter Try.func33, Try.ntmps33
  go_wp2_with fail
  refine (numbered_5 _).mono ?_
  rintro e w' ⟨rfl, rfl⟩
  go_wp2_with fail
  refine (cin_any _ _ _).mono ?_
  rintro e w' ⟨rfl, rfl⟩
  rw [r1]
  go_wp2_with fail
  refine (cin_any _ _ _).mono ?_
  rintro e w' ⟨rfl, rfl⟩
  rw [r2]
  go_wp2_with fail
  refine (cin_any _ _ _).mono ?_
  rintro e w' ⟨rfl, rfl⟩
  rw [r3]
  go_wp2_with fail
  refine (cin_any _ _ _).mono ?_
  rintro e w' ⟨rfl, rfl⟩
  rw [r4]
  go_wp2
  go_ret
  exact ⟨rfl, bl_alloc (bl_refl w) _⟩

theorem check_5_1 (nr : Int) (p : Bool) (me : Int) (peer : Int) (ao : Option Addr) (n : Nat) (cap : Nat) (hnr : nr ≠ 0) (_ : 0 < n) (r1 : inB 0 127 = true) (r2 : inB nr 127 = true) (r3 : inB me 65535 = true) (r4 : inB peer 65535 = true) (w : World) :
    Calls Try.prog 33 #[(.agg #[.int .i64 5, .int .i64 0, .int .i64 nr, .bool p, .int .i64 me, .int .i64 peer, .slice ao n cap])] w fun e w' => e = .returned (.int .i64 2) ∧ Below w.heap.size w w' := by
  go_enter Try.func33, Try.ntmps33
  go_wp2_with fail
  refine (numbered_5 _).mono ?_
  rintro e w' ⟨rfl, rfl⟩
  go_wp2_with fail
  refine (cin_any _ _ _).mono ?_
  rintro e w' ⟨rfl, rfl⟩
  rw [r1]
  go_wp2_with fail
  refine (cin_any _ _ _).mono ?_
  rintro e w' ⟨rfl, rfl⟩
  rw [r2]
  go_wp2_with fail
  refine (cin_any _ _ _).mono ?_
  rintro e w' ⟨rfl, rfl⟩
  rw [r3]
  go_wp2_with fail
  refine (cin_any _ _ _).mono ?_
  rintro e w' ⟨rfl, rfl⟩
  rw [r4]
  go_wp2
  go_ret
  exact ⟨rfl, bl_alloc (bl_refl w) _⟩

theorem check_5_2 (nr : Int) (p : Bool) (me : Int) (peer : Int) (ao : Option Addr) (cap : Nat) (hnr : nr ≠ 0) (r1 : inB 0 127 = true) (r2 : inB nr 127 = true) (r3 : inB me 65535 = true) (r4 : inB peer 65535 = true) (w : World) :
    Calls Try.prog 33 #[(.agg #[.int .i64 5, .int .i64 0, .int .i64 nr, .bool p, .int .i64 me, .int .i64 peer, .slice ao 0 cap])] w fun e w' => e = .returned (.int .i64 2) ∧ Below w.heap.size w w' := by
  go_enter Try.func33, Try.ntmps33
  go_wp2_with fail
  refine (numbered_5 _).mono ?_
  rintro e w' ⟨rfl, rfl⟩
  go_wp2_with fail
  refine (cin_any _ _ _).mono ?_
  rintro e w' ⟨rfl, rfl⟩
  rw [r1]
  go_wp2_with fail
  refine (cin_any _ _ _).mono ?_
  rintro e w' ⟨rfl, rfl⟩
  rw [r2]
  go_wp2_with fail
  refine (cin_any _ _ _).mono ?_
  rintro e w' ⟨rfl, rfl⟩
  rw [r3]
  go_wp2_with fail
  refine (cin_any _ _ _).mono ?_
  rintro e w' ⟨rfl, rfl⟩
  rw [r4]
  go_wp2
  go_ret
  exact ⟨rfl, bl_alloc (bl_refl w) _⟩

theorem check_5_3 (p : Bool) (me : Int) (peer : Int) (ao : Option Addr) (n : Nat) (cap : Nat) (hpe : peer ≠ 0) (_ : 0 < n) (r1 : inB 0 127 = true) (r2 : inB 0 127 = true) (r3 : inB me 65535 = true) (r4 : inB peer 65535 = true) (w : World) :
    Calls Try.prog 33 #[(.agg #[.int .i64 5, .int .i64 0, .int .i64 0, .bool p, .int .i64 me, .int .i64 peer, .slice ao n cap])] w fun e w' => e = .returned (.int .i64 2) ∧ Below w.heap.size w w' := by
  go_enter Try.func33, Try.ntmps33
  go_wp2_with fail
  refine (numbered_5 _).mono ?_
  rintro e w' ⟨rfl, rfl⟩
  go_wp2_with fail
  refine (cin_any _ _ _).mono ?_
  rintro e w' ⟨rfl, rfl⟩
  rw [r1]
  go_wp2_with fail
  refine (cin_any _ _ _).mono ?_
  rintro e w' ⟨rfl, rfl⟩
  rw [r2]
  go_wp2_with fail
  refine (cin_any _ _ _).mono ?_
  rintro e w' ⟨rfl, rfl⟩
  rw [r3]
  go_wp2_with fail
  refine (cin_any _ _ _).mono ?_
  rintro e w' ⟨rfl, rfl⟩
  rw [r4]
  go_wp2
  go_ret
  exact ⟨rfl, bl_alloc (bl_refl w) _⟩

theorem check_5_4 (p : Bool) (me : Int) (peer : Int) (ao : Option Addr) (cap : Nat) (hpe : peer ≠ 0) (r1 : inB 0 127 = true) (r2 : inB 0 127 = true) (r3 : inB me 65535 = true) (r4 : inB peer 65535 = true) (w : World) :
    Calls Try.prog 33 #[(.agg #[.int .i64 5, .int .i64 0, .int .i64 0, .bool p, .int .i64 me, .int .i64 peer, .slice ao 0 cap])] w fun e w' => e = .returned (.int .i64 2) ∧ Below w.heap.size w w' := by
  go_enter Try.func33, Try.ntmps33
  go_wp2_with fail
  refine (numbered_5 _).mono ?_
  rintro e w' ⟨rfl, rfl⟩
  go_wp2_with fail
  refine (cin_any _ _ _).mono ?_
  rintro e w' ⟨rfl, rfl⟩
  rw [r1]
  go_wp2_with fail
  refine (cin_any _ _ _).mono ?_
  rintro e w' ⟨rfl, rfl⟩
  rw [r2]
  go_wp2_with fail
  refine (cin_any _ _ _).mono ?_
  rintro e w' ⟨rfl, rfl⟩
  rw [r3]
  go_wp2_with fail
  refine (cin_any _ _ _).mono ?_
  rintro e w' ⟨rfl, rfl⟩
  rw [r4]
  go_wp2
  go_ret
  exact ⟨rfl, bl_alloc (bl_refl w) _⟩

theorem check_5_5 (p : Bool) (me : Int) (ao : Option Addr) (n : Nat) (cap : Nat) (hn : 0 < n) (r1 : inB 0 127 = true) (r2 : inB 0 127 = true) (r3 : inB me 65535 = true) (r4 : inB 0 65535 = true) (w : World) :
    Calls Try.prog 33 #[(.agg #[.int .i64 5, .int .i64 0, .int .i64 0, .bool p, .int .i64 me, .int .i64 0, .slice ao n cap])] w fun e w' => e = .returned (.int .i64 2) ∧ Below w.heap.size w w' := by
  go_enter Try.func33, Try.ntmps33
  go_wp2_with fail
  refine (numbered_5 _).mono ?_
  rintro e w' ⟨rfl, rfl⟩
  go_wp2_with fail
  refine (cin_any _ _ _).mono ?_
  rintro e w' ⟨rfl, rfl⟩
  rw [r1]
  go_wp2_with fail
  refine (cin_any _ _ _).mono ?_
  rintro e w' ⟨rfl, rfl⟩
  rw [r2]
  go_wp2_with fail
  refine (cin_any _ _ _).mono ?_
  rintro e w' ⟨rfl, rfl⟩
  rw [r3]
  go_wp2_with fail
  refine (cin_any _ _ _).mono ?_
  rintro e w' ⟨rfl, rfl⟩
  rw [r4]
  go_wp2
  go_ret
  exact ⟨rfl, bl_alloc (bl_refl w) _⟩

theorem check_5_6 (p : Bool) (me : Int) (ao : Option Addr) (cap : Nat)  (r1 : inB 0 127 = true) (r2 : inB 0 127 = true) (r3 : inB me 65535 = true) (r4 : inB 0 65535 = true) (w : World) :
    Calls Try.prog 33 #[(.agg #[.int .i64 5, .int .i64 0, .int .i64 0, .bool p, .int .i64 me, .int .i64 0, .slice ao 0 cap])] w fun e w' => e = .returned (.int .i64 0) ∧ Below w.heap.size w w' := by
  go_enter Try.func33, Try.ntmps33
  go_wp2_with fail
  refine (numbered_5 _).mono ?_
  rintro e w' ⟨rfl, rfl⟩
  go_wp2_with fail
  refine (cin_any _ _ _).mono ?_
  rintro e w' ⟨rfl, rfl⟩
  rw [r1]
  go_wp2_with fail
  refine (cin_any _ _ _).mono ?_
  rintro e w' ⟨rfl, rfl⟩
  rw [r2]
  go_wp2_with fail
  refine (cin_any _ _ _).mono ?_
  rintro e w' ⟨rfl, rfl⟩
  rw [r3]
  go_wp2_with fail
  refine (cin_any _ _ _).mono ?_
  rintro e w' ⟨rfl, rfl⟩
  rw [r4]
  go_wp2
  go_ret
  exact ⟨rfl, bl_alloc (bl_refl w) _⟩

end Go.Proofs.Ythmdibagcbbgoaa
