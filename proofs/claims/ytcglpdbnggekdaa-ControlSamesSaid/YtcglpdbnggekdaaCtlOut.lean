/- control.Check and portageref05.Check, a kind or a number out of its range. Written by program (gen_chk.py). Conditions: none. -/
import Derived.WalkKit
import Derived.Lib.Hide
import Derived.Test.YtcglpdbnggekdaaCtl
namespace Go.Proofs.Ytcglpdbnggekdaa
open Go.RowKit

theorem numbered_mid (k : Int) (h1 : 1 ≤ k) (h2 : k ≤ 7) (w : World) :
    Calls Try.prog 28 #[.int .i64 k] w fun e w' => ∃ a b c d, e = .returned (.tuple #[.bool a, .bool b, .bool c, .bool d]) ∧ w = w' := by
  rcases (show k = 1 ∨ k = 2 ∨ k = 3 ∨ k = 4 ∨ k = 5 ∨ k = 6 ∨ k = 7 by omega) with rfl | rfl | rfl | rfl | rfl | rfl | rfl
  · exact (numbered_1 w).mono fun e w' h => ⟨_, _, _, _, h⟩
  · exact (numbered_2 w).mono fun e w' h => ⟨_, _, _, _, h⟩
  · exact (numbered_3 w).mono fun e w' h => ⟨_, _, _, _, h⟩
  · exact (numbered_4 w).mono fun e w' h => ⟨_, _, _, _, h⟩
  · exact (numbered_5 w).mono fun e w' h => ⟨_, _, _, _, h⟩
  · exact (numbered_6 w).mono fun e w' h => ⟨_, _, _, _, h⟩
  · exact (numbered_7 w).mono fun e w' h => ⟨_, _, _, _, h⟩

theorem check_lo (k ns nr : Int) (p : Bool) (me peer : Int) (ao : Option Addr) (n cap : Nat) (h : k < 1) (w : World) :
    Calls Try.prog 18 #[(.agg #[.int .i64 k, .int .i64 ns, .int .i64 nr, .bool p, .int .i64 me, .int .i64 peer, .slice ao n cap])] w fun e w' => e = .returned (.int .i64 1) ∧ Below w.heap.size w w' := by
  go_enter Try.func18, Try.ntmps18
  go_wp2_with fail
  refine (numbered_out k (by omega) _).mono ?_
  rintro e w' ⟨rfl, rfl⟩
  go_wp2
  go_ret
  exact ⟨rfl, bl_alloc (bl_refl w) _⟩

theorem rcheck_lo (k ns nr : Int) (p : Bool) (me peer : Int) (ao : Option Addr) (n cap : Nat) (h : k < 1) (w : World) :
    Calls Try.prog 19 #[(.agg #[.int .i64 k, .int .i64 ns, .int .i64 nr, .bool p, .int .i64 me, .int .i64 peer, .slice ao n cap])] w fun e w' => e = .returned (.int .i64 1) ∧ Below w.heap.size w w' := by
  go_enter Try.func19, Try.ntmps19
  go_wp2
  go_ret
  exact ⟨rfl, bl_alloc (bl_refl w) _⟩

theorem check_hi (k ns nr : Int) (p : Bool) (me peer : Int) (ao : Option Addr) (n cap : Nat) (h : 7 < k) (w : World) :
    Calls Try.prog 18 #[(.agg #[.int .i64 k, .int .i64 ns, .int .i64 nr, .bool p, .int .i64 me, .int .i64 peer, .slice ao n cap])] w fun e w' => e = .returned (.int .i64 1) ∧ Below w.heap.size w w' := by
  go_enter Try.func18, Try.ntmps18
  go_wp2_with fail
  refine (numbered_out k (by omega) _).mono ?_
  rintro e w' ⟨rfl, rfl⟩
  go_wp2
  go_ret
  exact ⟨rfl, bl_alloc (bl_refl w) _⟩

theorem rcheck_hi (k ns nr : Int) (p : Bool) (me peer : Int) (ao : Option Addr) (n cap : Nat) (h : 7 < k) (w : World) :
    Calls Try.prog 19 #[(.agg #[.int .i64 k, .int .i64 ns, .int .i64 nr, .bool p, .int .i64 me, .int .i64 peer, .slice ao n cap])] w fun e w' => e = .returned (.int .i64 1) ∧ Below w.heap.size w w' := by
  go_enter Try.func19, Try.ntmps19
  go_wp2
  go_ret
  exact ⟨rfl, bl_alloc (bl_refl w) _⟩

theorem check_r1 (k ns nr : Int) (p : Bool) (me peer : Int) (ao : Option Addr) (n cap : Nat) (h1 : 1 ≤ k) (h2 : k ≤ 7) (r1 : inB ns 127 = false) (w : World) :
    Calls Try.prog 18 #[(.agg #[.int .i64 k, .int .i64 ns, .int .i64 nr, .bool p, .int .i64 me, .int .i64 peer, .slice ao n cap])] w fun e w' => e = .returned (.int .i64 1) ∧ Below w.heap.size w w' := by
  go_enter Try.func18, Try.ntmps18
  go_wp2_with fail
  refine (numbered_mid k h1 h2 _).mono ?_
  rintro e w' ⟨a, b, c, d, rfl, rfl⟩
  go_wp2_with fail
  refine (in_any _ _ _).mono ?_
  rintro e w' ⟨rfl, rfl⟩
  rw [r1]
  go_wp2
  go_ret
  exact ⟨rfl, bl_alloc (bl_refl w) _⟩

theorem rcheck_r1 (k ns nr : Int) (p : Bool) (me peer : Int) (ao : Option Addr) (n cap : Nat) (h1 : 1 ≤ k) (h2 : k ≤ 7) (r1 : inB ns 127 = false) (w : World) :
    Calls Try.prog 19 #[(.agg #[.int .i64 k, .int .i64 ns, .int .i64 nr, .bool p, .int .i64 me, .int .i64 peer, .slice ao n cap])] w fun e w' => e = .returned (.int .i64 1) ∧ Below w.heap.size w w' := by
  go_enter Try.func19, Try.ntmps19
  go_wp2_with fail
  refine (number_any _ _ _).mono ?_
  rintro e w' ⟨rfl, rfl⟩
  rw [r1]
  go_wp2
  go_ret
  exact ⟨rfl, bl_alloc (bl_refl w) _⟩

theorem check_r2 (k ns nr : Int) (p : Bool) (me peer : Int) (ao : Option Addr) (n cap : Nat) (h1 : 1 ≤ k) (h2 : k ≤ 7) (r1 : inB ns 127 = true) (r2 : inB nr 127 = false) (w : World) :
    Calls Try.prog 18 #[(.agg #[.int .i64 k, .int .i64 ns, .int .i64 nr, .bool p, .int .i64 me, .int .i64 peer, .slice ao n cap])] w fun e w' => e = .returned (.int .i64 1) ∧ Below w.heap.size w w' := by
  go_enter Try.func18, Try.ntmps18
  go_wp2_with fail
  refine (numbered_mid k h1 h2 _).mono ?_
  rintro e w' ⟨a, b, c, d, rfl, rfl⟩
  go_wp2_with fail
  refine (in_any _ _ _).mono ?_
  rintro e w' ⟨rfl, rfl⟩
  rw [r1]
  go_wp2_with fail
  refine (in_any _ _ _).mono ?_
  rintro e w' ⟨rfl, rfl⟩
  rw [r2]
  go_wp2
  go_ret
  exact ⟨rfl, bl_alloc (bl_refl w) _⟩

theorem rcheck_r2 (k ns nr : Int) (p : Bool) (me peer : Int) (ao : Option Addr) (n cap : Nat) (h1 : 1 ≤ k) (h2 : k ≤ 7) (r1 : inB ns 127 = true) (r2 : inB nr 127 = false) (w : World) :
    Calls Try.prog 19 #[(.agg #[.int .i64 k, .int .i64 ns, .int .i64 nr, .bool p, .int .i64 me, .int .i64 peer, .slice ao n cap])] w fun e w' => e = .returned (.int .i64 1) ∧ Below w.heap.size w w' := by
  go_enter Try.func19, Try.ntmps19
  go_wp2_with fail
  refine (number_any _ _ _).mono ?_
  rintro e w' ⟨rfl, rfl⟩
  rw [r1]
  go_wp2_with fail
  refine (number_any _ _ _).mono ?_
  rintro e w' ⟨rfl, rfl⟩
  rw [r2]
  go_wp2
  go_ret
  exact ⟨rfl, bl_alloc (bl_refl w) _⟩

theorem check_r3 (k ns nr : Int) (p : Bool) (me peer : Int) (ao : Option Addr) (n cap : Nat) (h1 : 1 ≤ k) (h2 : k ≤ 7) (r1 : inB ns 127 = true) (r2 : inB nr 127 = true) (r3 : inB me 65535 = false) (w : World) :
    Calls Try.prog 18 #[(.agg #[.int .i64 k, .int .i64 ns, .int .i64 nr, .bool p, .int .i64 me, .int .i64 peer, .slice ao n cap])] w fun e w' => e = .returned (.int .i64 1) ∧ Below w.heap.size w w' := by
  go_enter Try.func18, Try.ntmps18
  go_wp2_with fail
  refine (numbered_mid k h1 h2 _).mono ?_
  rintro e w' ⟨a, b, c, d, rfl, rfl⟩
  go_wp2_with fail
  refine (in_any _ _ _).mono ?_
  rintro e w' ⟨rfl, rfl⟩
  rw [r1]
  go_wp2_with fail
  refine (in_any _ _ _).mono ?_
  rintro e w' ⟨rfl, rfl⟩
  rw [r2]
  go_wp2_with fail
  refine (in_any _ _ _).mono ?_
  rintro e w' ⟨rfl, rfl⟩
  rw [r3]
  go_wp2
  go_ret
  exact ⟨rfl, bl_alloc (bl_refl w) _⟩

theorem rcheck_r3 (k ns nr : Int) (p : Bool) (me peer : Int) (ao : Option Addr) (n cap : Nat) (h1 : 1 ≤ k) (h2 : k ≤ 7) (r1 : inB ns 127 = true) (r2 : inB nr 127 = true) (r3 : inB me 65535 = false) (w : World) :
    Calls Try.prog 19 #[(.agg #[.int .i64 k, .int .i64 ns, .int .i64 nr, .bool p, .int .i64 me, .int .i64 peer, .slice ao n cap])] w fun e w' => e = .returned (.int .i64 1) ∧ Below w.heap.size w w' := by
  go_enter Try.func19, Try.ntmps19
  go_wp2_with fail
  refine (number_any _ _ _).mono ?_
  rintro e w' ⟨rfl, rfl⟩
  rw [r1]
  go_wp2_with fail
  refine (number_any _ _ _).mono ?_
  rintro e w' ⟨rfl, rfl⟩
  rw [r2]
  go_wp2_with fail
  refine (number_any _ _ _).mono ?_
  rintro e w' ⟨rfl, rfl⟩
  rw [r3]
  go_wp2
  go_ret
  exact ⟨rfl, bl_alloc (bl_refl w) _⟩

theorem check_r4 (k ns nr : Int) (p : Bool) (me peer : Int) (ao : Option Addr) (n cap : Nat) (h1 : 1 ≤ k) (h2 : k ≤ 7) (r1 : inB ns 127 = true) (r2 : inB nr 127 = true) (r3 : inB me 65535 = true) (r4 : inB peer 65535 = false) (w : World) :
    Calls Try.prog 18 #[(.agg #[.int .i64 k, .int .i64 ns, .int .i64 nr, .bool p, .int .i64 me, .int .i64 peer, .slice ao n cap])] w fun e w' => e = .returned (.int .i64 1) ∧ Below w.heap.size w w' := by
  go_enter Try.func18, Try.ntmps18
  go_wp2_with fail
  refine (numbered_mid k h1 h2 _).mono ?_
  rintro e w' ⟨a, b, c, d, rfl, rfl⟩
  go_wp2_with fail
  refine (in_any _ _ _).mono ?_
  rintro e w' ⟨rfl, rfl⟩
  rw [r1]
  go_wp2_with fail
  refine (in_any _ _ _).mono ?_
  rintro e w' ⟨rfl, rfl⟩
  rw [r2]
  go_wp2_with fail
  refine (in_any _ _ _).mono ?_
  rintro e w' ⟨rfl, rfl⟩
  rw [r3]
  go_wp2_with fail
  refine (in_any _ _ _).mono ?_
  rintro e w' ⟨rfl, rfl⟩
  rw [r4]
  go_wp2
  go_ret
  exact ⟨rfl, bl_alloc (bl_refl w) _⟩

theorem rcheck_r4 (k ns nr : Int) (p : Bool) (me peer : Int) (ao : Option Addr) (n cap : Nat) (h1 : 1 ≤ k) (h2 : k ≤ 7) (r1 : inB ns 127 = true) (r2 : inB nr 127 = true) (r3 : inB me 65535 = true) (r4 : inB peer 65535 = false) (w : World) :
    Calls Try.prog 19 #[(.agg #[.int .i64 k, .int .i64 ns, .int .i64 nr, .bool p, .int .i64 me, .int .i64 peer, .slice ao n cap])] w fun e w' => e = .returned (.int .i64 1) ∧ Below w.heap.size w w' := by
  go_enter Try.func19, Try.ntmps19
  go_wp2_with fail
  refine (number_any _ _ _).mono ?_
  rintro e w' ⟨rfl, rfl⟩
  rw [r1]
  go_wp2_with fail
  refine (number_any _ _ _).mono ?_
  rintro e w' ⟨rfl, rfl⟩
  rw [r2]
  go_wp2_with fail
  refine (number_any _ _ _).mono ?_
  rintro e w' ⟨rfl, rfl⟩
  rw [r3]
  go_wp2_with fail
  refine (number_any _ _ _).mono ?_
  rintro e w' ⟨rfl, rfl⟩
  rw [r4]
  go_wp2
  go_ret
  exact ⟨rfl, bl_alloc (bl_refl w) _⟩

end Go.Proofs.Ytcglpdbnggekdaa
