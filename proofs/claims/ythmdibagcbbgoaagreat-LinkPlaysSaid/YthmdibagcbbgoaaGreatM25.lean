/- control.Check and portageref05.Check, a kind or a number out of its range. Written by program (gen_chk.py). control.Check and portageref05.Check at any control. Written by program (gen_chk.py). Conditions: as they stand. -/
import Derived.WalkKit
import Derived.Lib.Hide
import Derived.Test.YthmdibagcbbgoaaGreatM17
import Derived.Test.YthmdibagcbbgoaaGreatM18
import Derived.Test.YthmdibagcbbgoaaGreatM19
import Derived.Test.YthmdibagcbbgoaaGreatM20
import Derived.Test.YthmdibagcbbgoaaGreatM21
import Derived.Test.YthmdibagcbbgoaaGreatM22
import Derived.Test.YthmdibagcbbgoaaGreatM23
import Derived.Test.YthmdibagcbbgoaaGreatM24
namespace Go.Proofs.YthmdibagcbbgoaaGreat
open Go.RowKit

theorem numbered_mid (k : Int) (h1 : 1 ≤ k) (h2 : k ≤ 7) (w : World) :
    Calls Tryz.prog 78 #[.int .i64 k] w fun e w' => ∃ a b c d, e = .returned (.tuple #[.bool a, .bool b, .bool c, .bool d]) ∧ w = w' := by
  rcases (show k = 1 ∨ k = 2 ∨ k = 3 ∨ k = 4 ∨ k = 5 ∨ k = 6 ∨ k = 7 by omega) with rfl | rfl | rfl | rfl | rfl | rfl | rfl
  · exact (numbered_1 w).mono fun e w' h => ⟨_, _, _, _, h⟩
  · exact (numbered_2 w).mono fun e w' h => ⟨_, _, _, _, h⟩
  · exact (numbered_3 w).mono fun e w' h => ⟨_, _, _, _, h⟩
  · exact (numbered_4 w).mono fun e w' h => ⟨_, _, _, _, h⟩
  · exact (numbered_5 w).mono fun e w' h => ⟨_, _, _, _, h⟩
  · exact (numbered_6 w).mono fun e w' h => ⟨_, _, _, _, h⟩
  · exact (numbered_7 w).mono fun e w' h => ⟨_, _, _, _, h⟩

theorem check_lo (k ns nr : Int) (p : Bool) (me peer : Int) (ao : Option Addr) (n cap : Nat) (h : k < 1) (w : World) :
    Calls Tryz.prog 56 #[(.agg #[.int .i64 k, .int .i64 ns, .int .i64 nr, .bool p, .int .i64 me, .int .i64 peer, .slice ao n cap])] w fun e w' => e = .returned (.int .i64 1) ∧ Below w.heap.size w w' := by
  go_enter Tryz.func56, Tryz.ntmps56
  go_wp2_with fail
  refine (numbered_out k (by omega) _).mono ?_
  rintro e w' ⟨rfl, rfl⟩
  go_wp2
  go_ret
  exact ⟨rfl, bl_alloc (bl_refl w) _⟩

theorem rcheck_lo (k ns nr : Int) (p : Bool) (me peer : Int) (ao : Option Addr) (n cap : Nat) (h : k < 1) (w : World) :
    Calls Tryz.prog 53 #[(.agg #[.int .i64 k, .int .i64 ns, .int .i64 nr, .bool p, .int .i64 me, .int .i64 peer, .slice ao n cap])] w fun e w' => e = .returned (.int .i64 1) ∧ Below w.heap.size w w' := by
  go_enter Tryz.func53, Tryz.ntmps53
  go_wp2
  go_ret
  exact ⟨rfl, bl_alloc (bl_refl w) _⟩

theorem check_hi (k ns nr : Int) (p : Bool) (me peer : Int) (ao : Option Addr) (n cap : Nat) (h : 7 < k) (w : World) :
    Calls Tryz.prog 56 #[(.agg #[.int .i64 k, .int .i64 ns, .int .i64 nr, .bool p, .int .i64 me, .int .i64 peer, .slice ao n cap])] w fun e w' => e = .returned (.int .i64 1) ∧ Below w.heap.size w w' := by
  go_enter Tryz.func56, Tryz.ntmps56
  go_wp2_with fail
  refine (numbered_out k (by omega) _).mono ?_
  rintro e w' ⟨rfl, rfl⟩
  go_wp2
  go_ret
  exact ⟨rfl, bl_alloc (bl_refl w) _⟩

theorem rcheck_hi (k ns nr : Int) (p : Bool) (me peer : Int) (ao : Option Addr) (n cap : Nat) (h : 7 < k) (w : World) :
    Calls Tryz.prog 53 #[(.agg #[.int .i64 k, .int .i64 ns, .int .i64 nr, .bool p, .int .i64 me, .int .i64 peer, .slice ao n cap])] w fun e w' => e = .returned (.int .i64 1) ∧ Below w.heap.size w w' := by
  go_enter Tryz.func53, Tryz.ntmps53
  go_wp2
  go_ret
  exact ⟨rfl, bl_alloc (bl_refl w) _⟩

theorem check_r1 (k ns nr : Int) (p : Bool) (me peer : Int) (ao : Option Addr) (n cap : Nat) (h1 : 1 ≤ k) (h2 : k ≤ 7) (r1 : inB ns 127 = false) (w : World) :
    Calls Tryz.prog 56 #[(.agg #[.int .i64 k, .int .i64 ns, .int .i64 nr, .bool p, .int .i64 me, .int .i64 peer, .slice ao n cap])] w fun e w' => e = .returned (.int .i64 1) ∧ Below w.heap.size w w' := by
  go_enter Tryz.func56, Tryz.ntmps56
  go_wp2_with fail
  refine (numbered_mid k h1 h2 _).mono ?_
  rintro e w' ⟨a, b, c, d, rfl, rfl⟩
  go_wp2_with fail
  refine (cin_any _ _ _).mono ?_
  rintro e w' ⟨rfl, rfl⟩
  rw [r1]
  go_wp2
  go_ret
  exact ⟨rfl, bl_alloc (bl_refl w) _⟩

theorem rcheck_r1 (k ns nr : Int) (p : Bool) (me peer : Int) (ao : Option Addr) (n cap : Nat) (h1 : 1 ≤ k) (h2 : k ≤ 7) (r1 : inB ns 127 = false) (w : World) :
    Calls Tryz.prog 53 #[(.agg #[.int .i64 k, .int .i64 ns, .int .i64 nr, .bool p, .int .i64 me, .int .i64 peer, .slice ao n cap])] w fun e w' => e = .returned (.int .i64 1) ∧ Below w.heap.size w w' := by
  go_enter Tryz.func53, Tryz.ntmps53
  go_wp2_with fail
  refine (number_any _ _ _).mono ?_
  rintro e w' ⟨rfl, rfl⟩
  rw [r1]
  go_wp2
  go_ret
  exact ⟨rfl, bl_alloc (bl_refl w) _⟩

theorem check_r2 (k ns nr : Int) (p : Bool) (me peer : Int) (ao : Option Addr) (n cap : Nat) (h1 : 1 ≤ k) (h2 : k ≤ 7) (r1 : inB ns 127 = true) (r2 : inB nr 127 = false) (w : World) :
    Calls Tryz.prog 56 #[(.agg #[.int .i64 k, .int .i64 ns, .int .i64 nr, .bool p, .int .i64 me, .int .i64 peer, .slice ao n cap])] w fun e w' => e = .returned (.int .i64 1) ∧ Below w.heap.size w w' := by
  go_enter Tryz.func56, Tryz.ntmps56
  go_wp2_with fail
  refine (numbered_mid k h1 h2 _).mono ?_
  rintro e w' ⟨a, b, c, d, rfl, rfl⟩
  go_wp2_with fail
  refine (cin_any _ _ _).mono ?_
  rintro e w' ⟨rfl, rfl⟩
  rw [r1]
  go_wp2_with fail
  refine (cin_any _ _ _).mono ?_
  rintro e w' ⟨rfl, rfl⟩
  rw [r2]
  go_wp2
  go_ret
  exact ⟨rfl, bl_alloc (bl_refl w) _⟩

theorem rcheck_r2 (k ns nr : Int) (p : Bool) (me peer : Int) (ao : Option Addr) (n cap : Nat) (h1 : 1 ≤ k) (h2 : k ≤ 7) (r1 : inB ns 127 = true) (r2 : inB nr 127 = false) (w : World) :
    Calls Tryz.prog 53 #[(.agg #[.int .i64 k, .int .i64 ns, .int .i64 nr, .bool p, .int .i64 me, .int .i64 peer, .slice ao n cap])] w fun e w' => e = .returned (.int .i64 1) ∧ Below w.heap.size w w' := by
  go_enter Tryz.func53, Tryz.ntmps53
  go_wp2_with fail
  refine (number_any _ _ _).mono ?_
  rintro e w' ⟨rfl, rfl⟩
  rw [r1]
  go_wp2_with fail
  refine (number_any _ _ _).mono ?_
  rintro e w' ⟨rfl, rfl⟩
  rw [r2]
  go_wp2
  go_ret
  exact ⟨rfl, bl_alloc (bl_refl w) _⟩

theorem check_r3 (k ns nr : Int) (p : Bool) (me peer : Int) (ao : Option Addr) (n cap : Nat) (h1 : 1 ≤ k) (h2 : k ≤ 7) (r1 : inB ns 127 = true) (r2 : inB nr 127 = true) (r3 : inB me 65535 = false) (w : World) :
    Calls Tryz.prog 56 #[(.agg #[.int .i64 k, .int .i64 ns, .int .i64 nr, .bool p, .int .i64 me, .int .i64 peer, .slice ao n cap])] w fun e w' => e = .returned (.int .i64 1) ∧ Below w.heap.size w w' := by
  go_enter Tryz.func56, Tryz.ntmps56
  go_wp2_with fail
  refine (numbered_mid k h1 h2 _).mono ?_
  rintro e w' ⟨a, b, c, d, rfl, rfl⟩
  go_wp2_with fail
  refine (cin_any _ _ _).mono ?_
  rintro e w' ⟨rfl, rfl⟩
  rw [r1]
  go_wp2_with fail
  refine (cin_any _ _ _).mono ?_
  rintro e w' ⟨rfl, rfl⟩
  rw [r2]
  go_wp2_with fail
  refine (cin_any _ _ _).mono ?_
  rintro e w' ⟨rfl, rfl⟩
  rw [r3]
  go_wp2
  go_ret
  exact ⟨rfl, bl_alloc (bl_refl w) _⟩

theorem rcheck_r3 (k ns nr : Int) (p : Bool) (me peer : Int) (ao : Option Addr) (n cap : Nat) (h1 : 1 ≤ k) (h2 : k ≤ 7) (r1 : inB ns 127 = true) (r2 : inB nr 127 = true) (r3 : inB me 65535 = false) (w : World) :
    Calls Tryz.prog 53 #[(.agg #[.int .i64 k, .int .i64 ns, .int .i64 nr, .bool p, .int .i64 me, .int .i64 peer, .slice ao n cap])] w fun e w' => e = .returned (.int .i64 1) ∧ Below w.heap.size w w' := by
  go_enter Tryz.func53, Tryz.ntmps53
  go_wp2_with fail
  refine (number_any _ _ _).mono ?_
  rintro e w' ⟨rfl, rfl⟩
  rw [r1]
  go_wp2_with fail
  refine (number_any _ _ _).mono ?_
  rintro e w' ⟨rfl, rfl⟩
  rw [r2]
  go_wp2_with fail
  refine (number_any _ _ _).mono ?_
  rintro e w' ⟨rfl, rfl⟩
  rw [r3]
  go_wp2
  go_ret
  exact ⟨rfl, bl_alloc (bl_refl w) _⟩

theorem check_r4 (k ns nr : Int) (p : Bool) (me peer : Int) (ao : Option Addr) (n cap : Nat) (h1 : 1 ≤ k) (h2 : k ≤ 7) (r1 : inB ns 127 = true) (r2 : inB nr 127 = true) (r3 : inB me 65535 = true) (r4 : inB peer 65535 = false) (w : World) :
    Calls Tryz.prog 56 #[(.agg #[.int .i64 k, .int .i64 ns, .int .i64 nr, .bool p, .int .i64 me, .int .i64 peer, .slice ao n cap])] w fun e w' => e = .returned (.int .i64 1) ∧ Below w.heap.size w w' := by
  go_enter Tryz.func56, Tryz.ntmps56
  go_wp2_with fail
  refine (numbered_mid k h1 h2 _).mono ?_
  rintro e w' ⟨a, b, c, d, rfl, rfl⟩
  go_wp2_with fail
  refine (cin_any _ _ _).mono ?_
  rintro e w' ⟨rfl, rfl⟩
  rw [r1]
  go_wp2_with fail
  refine (cin_any _ _ _).mono ?_
  rintro e w' ⟨rfl, rfl⟩
  rw [r2]
  go_wp2_with fail
  refine (cin_any _ _ _).mono ?_
  rintro e w' ⟨rfl, rfl⟩
  rw [r3]
  go_wp2_with fail
  refine (cin_any _ _ _).mono ?_
  rintro e w' ⟨rfl, rfl⟩
  rw [r4]
  go_wp2
  go_ret
  exact ⟨rfl, bl_alloc (bl_refl w) _⟩

theorem rcheck_r4 (k ns nr : Int) (p : Bool) (me peer : Int) (ao : Option Addr) (n cap : Nat) (h1 : 1 ≤ k) (h2 : k ≤ 7) (r1 : inB ns 127 = true) (r2 : inB nr 127 = true) (r3 : inB me 65535 = true) (r4 : inB peer 65535 = false) (w : World) :
    Calls Tryz.prog 53 #[(.agg #[.int .i64 k, .int .i64 ns, .int .i64 nr, .bool p, .int .i64 me, .int .i64 peer, .slice ao n cap])] w fun e w' => e = .returned (.int .i64 1) ∧ Below w.heap.size w w' := by
  go_enter Tryz.func53, Tryz.ntmps53
  go_wp2_with fail
  refine (number_any _ _ _).mono ?_
  rintro e w' ⟨rfl, rfl⟩
  rw [r1]
  go_wp2_with fail
  refine (number_any _ _ _).mono ?_
  rintro e w' ⟨rfl, rfl⟩
  rw [r2]
  go_wp2_with fail
  refine (number_any _ _ _).mono ?_
  rintro e w' ⟨rfl, rfl⟩
  rw [r3]
  go_wp2_with fail
  refine (number_any _ _ _).mono ?_
  rintro e w' ⟨rfl, rfl⟩
  rw [r4]
  go_wp2
  go_ret
  exact ⟨rfl, bl_alloc (bl_refl w) _⟩

end Go.Proofs.YthmdibagcbbgoaaGreat

namespace Go.Proofs.YthmdibagcbbgoaaGreat
open Go.RowKit

theorem chk_out {k ns nr me peer : Int} {n : Nat} (h : k < 1 ∨ 7 < k) : chkN k ns nr me peer n = 1 := by unfold chkN; rw [if_pos h]
theorem chk_rng {k ns nr me peer : Int} {n : Nat} (h : ¬ (((0 ≤ ns ∧ ns ≤ 127) ∧ (0 ≤ nr ∧ nr ≤ 127)) ∧ ((0 ≤ me ∧ me ≤ 65535) ∧ (0 ≤ peer ∧ peer ≤ 65535)))) : chkN k ns nr me peer n = 1 := by unfold chkN; rw [if_pos h]; split <;> rfl
theorem chk_in {k ns nr me peer : Int} {n : Nat} (h1 : ¬ (k < 1 ∨ 7 < k)) (h : ((0 ≤ ns ∧ ns ≤ 127) ∧ (0 ≤ nr ∧ nr ≤ 127)) ∧ ((0 ≤ me ∧ me ≤ 65535) ∧ (0 ≤ peer ∧ peer ≤ 65535))) :
    chkN k ns nr me peer n = if (k ≠ 1 ∧ (ns ≠ 0 ∨ 0 < n)) ∨ (4 < k ∧ nr ≠ 0) ∨ (k = 5 ∧ peer ≠ 0) ∨ (k = 1 ∧ n = 0) then 2 else if 121 < n then 3 else 0 := by unfold chkN; rw [if_neg h1, if_neg (fun hn => hn h)]
theorem chk_2 {k ns nr me peer : Int} {n : Nat} (h1 : ¬ (k < 1 ∨ 7 < k)) (h : ((0 ≤ ns ∧ ns ≤ 127) ∧ (0 ≤ nr ∧ nr ≤ 127)) ∧ ((0 ≤ me ∧ me ≤ 65535) ∧ (0 ≤ peer ∧ peer ≤ 65535))) (c : (k ≠ 1 ∧ (ns ≠ 0 ∨ 0 < n)) ∨ (4 < k ∧ nr ≠ 0) ∨ (k = 5 ∧ peer ≠ 0) ∨ (k = 1 ∧ n = 0)) : chkN k ns nr me peer n = 2 := by rw [chk_in h1 h, if_pos c]
theorem chk_3 {k ns nr me peer : Int} {n : Nat} (h1 : ¬ (k < 1 ∨ 7 < k)) (h : ((0 ≤ ns ∧ ns ≤ 127) ∧ (0 ≤ nr ∧ nr ≤ 127)) ∧ ((0 ≤ me ∧ me ≤ 65535) ∧ (0 ≤ peer ∧ peer ≤ 65535))) (c : ¬ ((k ≠ 1 ∧ (ns ≠ 0 ∨ 0 < n)) ∨ (4 < k ∧ nr ≠ 0) ∨ (k = 5 ∧ peer ≠ 0) ∨ (k = 1 ∧ n = 0))) (d : 121 < n) : chkN k ns nr me peer n = 3 := by rw [chk_in h1 h, if_neg c, if_pos d]
theorem chk_0 {k ns nr me peer : Int} {n : Nat} (h1 : ¬ (k < 1 ∨ 7 < k)) (h : ((0 ≤ ns ∧ ns ≤ 127) ∧ (0 ≤ nr ∧ nr ≤ 127)) ∧ ((0 ≤ me ∧ me ≤ 65535) ∧ (0 ≤ peer ∧ peer ≤ 65535))) (c : ¬ ((k ≠ 1 ∧ (ns ≠ 0 ∨ 0 < n)) ∨ (4 < k ∧ nr ≠ 0) ∨ (k = 5 ∧ peer ≠ 0) ∨ (k = 1 ∧ n = 0))) (d : ¬ 121 < n) : chkN k ns nr me peer n = 0 := by rw [chk_in h1 h, if_neg c, if_neg d]

theorem check_any (k ns nr : Int) (p : Bool) (me peer : Int) (ao : Option Addr) (n cap : Nat) (w : World) :
    Calls Tryz.prog 56 #[(.agg #[.int .i64 k, .int .i64 ns, .int .i64 nr, .bool p, .int .i64 me, .int .i64 peer, .slice ao n cap])] w fun e w' => e = .returned (.int .i64 (chkN k ns nr me peer n)) ∧ Below w.heap.size w w' := by
  by_cases ho : k < 1 ∨ 7 < k
  · rw [chk_out ho]
    rcases ho with h | h
    · exact check_lo _ _ _ _ _ _ _ _ _ h w
    · exact check_hi _ _ _ _ _ _ _ _ _ h w
  by_cases h : ((0 ≤ ns ∧ ns ≤ 127) ∧ (0 ≤ nr ∧ nr ≤ 127)) ∧ ((0 ≤ me ∧ me ≤ 65535) ∧ (0 ≤ peer ∧ peer ≤ 65535))
  · have r1 := inB_yes h.1.1
    have r2 := inB_yes h.1.2
    have r3 := inB_yes h.2.1
    have r4 := inB_yes h.2.2
    rcases (show k = 1 ∨ k = 2 ∨ k = 3 ∨ k = 4 ∨ k = 5 ∨ k = 6 ∨ k = 7 by omega) with rfl | rfl | rfl | rfl | rfl | rfl | rfl
    · by_cases hn : n = 0
      · obtain rfl : n = 0 := by omega
        rw [chk_2 ho h (by omega)]
        exact check_1_0 _ _ _ _ _ _ _  r1 r2 r3 r4 w
      · replace hn : 0 < n := by omega
        by_cases hl : 121 < n
        · replace hl : 121 < n := by omega
          rw [chk_3 ho h (by omega) (by omega)]
          exact check_1_1 _ _ _ _ _ _ _ _ hn hl r1 r2 r3 r4 w
        · replace hl : n ≤ 121 := by omega
          rw [chk_0 ho h (by omega) (by omega)]
          exact check_1_2 _ _ _ _ _ _ _ _ hn hl r1 r2 r3 r4 w
    · by_cases hns : ns ≠ 0
      · replace hns : ns ≠ 0 := by omega
        rw [chk_2 ho h (by omega)]
        exact check_2_0 _ _ _ _ _ _ _ _ hns r1 r2 r3 r4 w
      · obtain rfl : ns = 0 := by omega
        by_cases hn : 0 < n
        · replace hn : 0 < n := by omega
          rw [chk_2 ho h (by omega)]
          exact check_2_1 _ _ _ _ _ _ _ hn r1 r2 r3 r4 w
        · obtain rfl : n = 0 := by omega
          rw [chk_0 ho h (by omega) (by omega)]
          exact check_2_2 _ _ _ _ _ _  r1 r2 r3 r4 w
    · by_cases hns : ns ≠ 0
      · replace hns : ns ≠ 0 := by omega
        rw [chk_2 ho h (by omega)]
        exact check_3_0 _ _ _ _ _ _ _ _ hns r1 r2 r3 r4 w
      · obtain rfl : ns = 0 := by omega
        by_cases hn : 0 < n
        · replace hn : 0 < n := by omega
          rw [chk_2 ho h (by omega)]
          exact check_3_1 _ _ _ _ _ _ _ hn r1 r2 r3 r4 w
        · obtain rfl : n = 0 := by omega
          rw [chk_0 ho h (by omega) (by omega)]
          exact check_3_2 _ _ _ _ _ _  r1 r2 r3 r4 w
    · by_cases hns : ns ≠ 0
      · replace hns : ns ≠ 0 := by omega
        rw [chk_2 ho h (by omega)]
        exact check_4_0 _ _ _ _ _ _ _ _ hns r1 r2 r3 r4 w
      · obtain rfl : ns = 0 := by omega
        by_cases hn : 0 < n
        · replace hn : 0 < n := by omega
          rw [chk_2 ho h (by omega)]
          exact check_4_1 _ _ _ _ _ _ _ hn r1 r2 r3 r4 w
        · obtain rfl : n = 0 := by omega
          rw [chk_0 ho h (by omega) (by omega)]
          exact check_4_2 _ _ _ _ _ _  r1 r2 r3 r4 w
    · by_cases hns : ns ≠ 0
      · replace hns : ns ≠ 0 := by omega
        rw [chk_2 ho h (by omega)]
        exact check_5_0 _ _ _ _ _ _ _ _ hns r1 r2 r3 r4 w
      · obtain rfl : ns = 0 := by omega
        by_cases hnr : nr ≠ 0
        · replace hnr : nr ≠ 0 := by omega
          by_cases hn : 0 < n
          · replace hn : 0 < n := by omega
            rw [chk_2 ho h (by omega)]
            exact check_5_1 _ _ _ _ _ _ _ hnr hn r1 r2 r3 r4 w
          · obtain rfl : n = 0 := by omega
            rw [chk_2 ho h (by omega)]
            exact check_5_2 _ _ _ _ _ _ hnr r1 r2 r3 r4 w
        · obtain rfl : nr = 0 := by omega
          by_cases hpe : peer ≠ 0
          · replace hpe : peer ≠ 0 := by omega
            by_cases hn : 0 < n
            · replace hn : 0 < n := by omega
              rw [chk_2 ho h (by omega)]
              exact check_5_3 _ _ _ _ _ _ hpe hn r1 r2 r3 r4 w
            · obtain rfl : n = 0 := by omega
              rw [chk_2 ho h (by omega)]
              exact check_5_4 _ _ _ _ _ hpe r1 r2 r3 r4 w
          · obtain rfl : peer = 0 := by omega
            by_cases hn : 0 < n
            · replace hn : 0 < n := by omega
              rw [chk_2 ho h (by omega)]
              exact check_5_5 _ _ _ _ _ hn r1 r2 r3 r4 w
            · obtain rfl : n = 0 := by omega
              rw [chk_0 ho h (by omega) (by omega)]
              exact check_5_6 _ _ _ _  r1 r2 r3 r4 w
    · by_cases hns : ns ≠ 0
      · replace hns : ns ≠ 0 := by omega
        rw [chk_2 ho h (by omega)]
        exact check_6_0 _ _ _ _ _ _ _ _ hns r1 r2 r3 r4 w
      · obtain rfl : ns = 0 := by omega
        by_cases hnr : nr ≠ 0
        · replace hnr : nr ≠ 0 := by omega
          by_cases hn : 0 < n
          · replace hn : 0 < n := by omega
            rw [chk_2 ho h (by omega)]
            exact check_6_1 _ _ _ _ _ _ _ hnr hn r1 r2 r3 r4 w
          · obtain rfl : n = 0 := by omega
            rw [chk_2 ho h (by omega)]
            exact check_6_2 _ _ _ _ _ _ hnr r1 r2 r3 r4 w
        · obtain rfl : nr = 0 := by omega
          by_cases hn : 0 < n
          · replace hn : 0 < n := by omega
            rw [chk_2 ho h (by omega)]
            exact check_6_3 _ _ _ _ _ _ hn r1 r2 r3 r4 w
          · obtain rfl : n = 0 := by omega
            rw [chk_0 ho h (by omega) (by omega)]
            exact check_6_4 _ _ _ _ _  r1 r2 r3 r4 w
    · by_cases hns : ns ≠ 0
      · replace hns : ns ≠ 0 := by omega
        rw [chk_2 ho h (by omega)]
        exact check_7_0 _ _ _ _ _ _ _ _ hns r1 r2 r3 r4 w
      · obtain rfl : ns = 0 := by omega
        by_cases hnr : nr ≠ 0
        · replace hnr : nr ≠ 0 := by omega
          by_cases hn : 0 < n
          · replace hn : 0 < n := by omega
            rw [chk_2 ho h (by omega)]
            exact check_7_1 _ _ _ _ _ _ _ hnr hn r1 r2 r3 r4 w
          · obtain rfl : n = 0 := by omega
            rw [chk_2 ho h (by omega)]
            exact check_7_2 _ _ _ _ _ _ hnr r1 r2 r3 r4 w
        · obtain rfl : nr = 0 := by omega
          by_cases hn : 0 < n
          · replace hn : 0 < n := by omega
            rw [chk_2 ho h (by omega)]
            exact check_7_3 _ _ _ _ _ _ hn r1 r2 r3 r4 w
          · obtain rfl : n = 0 := by omega
            rw [chk_0 ho h (by omega) (by omega)]
            exact check_7_4 _ _ _ _ _  r1 r2 r3 r4 w
  · rw [chk_rng h]
    by_cases h1 : 0 ≤ ns ∧ ns ≤ 127
    · by_cases h2 : 0 ≤ nr ∧ nr ≤ 127
      · by_cases h3 : 0 ≤ me ∧ me ≤ 65535
        · exact check_r4 _ _ _ _ _ _ _ _ _ (by omega) (by omega) (inB_yes h1) (inB_yes h2) (inB_yes h3) (inB_no (by omega)) w
        · exact check_r3 _ _ _ _ _ _ _ _ _ (by omega) (by omega) (inB_yes h1) (inB_yes h2) (inB_no h3) w
      · exact check_r2 _ _ _ _ _ _ _ _ _ (by omega) (by omega) (inB_yes h1) (inB_no h2) w
    · exact check_r1 _ _ _ _ _ _ _ _ _ (by omega) (by omega) (inB_no h1) w

theorem rcheck_any (k ns nr : Int) (p : Bool) (me peer : Int) (ao : Option Addr) (n cap : Nat) (w : World) :
    Calls Tryz.prog 53 #[(.agg #[.int .i64 k, .int .i64 ns, .int .i64 nr, .bool p, .int .i64 me, .int .i64 peer, .slice ao n cap])] w fun e w' => e = .returned (.int .i64 (chkN k ns nr me peer n)) ∧ Below w.heap.size w w' := by
  by_cases ho : k < 1 ∨ 7 < k
  · rw [chk_out ho]
    rcases ho with h | h
    · exact rcheck_lo _ _ _ _ _ _ _ _ _ h w
    · exact rcheck_hi _ _ _ _ _ _ _ _ _ h w
  by_cases h : ((0 ≤ ns ∧ ns ≤ 127) ∧ (0 ≤ nr ∧ nr ≤ 127)) ∧ ((0 ≤ me ∧ me ≤ 65535) ∧ (0 ≤ peer ∧ peer ≤ 65535))
  · have r1 := inB_yes h.1.1
    have r2 := inB_yes h.1.2
    have r3 := inB_yes h.2.1
    have r4 := inB_yes h.2.2
    rcases (show k = 1 ∨ k = 2 ∨ k = 3 ∨ k = 4 ∨ k = 5 ∨ k = 6 ∨ k = 7 by omega) with rfl | rfl | rfl | rfl | rfl | rfl | rfl
    · by_cases hn : n = 0
      · obtain rfl : n = 0 := by omega
        rw [chk_2 ho h (by omega)]
        exact rcheck_1_0 _ _ _ _ _ _ _  r1 r2 r3 r4 w
      · replace hn : 0 < n := by omega
        by_cases hl : 121 < n
        · replace hl : 121 < n := by omega
          rw [chk_3 ho h (by omega) (by omega)]
          exact rcheck_1_1 _ _ _ _ _ _ _ _ hn hl r1 r2 r3 r4 w
        · replace hl : n ≤ 121 := by omega
          rw [chk_0 ho h (by omega) (by omega)]
          exact rcheck_1_2 _ _ _ _ _ _ _ _ hn hl r1 r2 r3 r4 w
    · by_cases hns : ns ≠ 0
      · replace hns : ns ≠ 0 := by omega
        rw [chk_2 ho h (by omega)]
        exact rcheck_2_0 _ _ _ _ _ _ _ _ hns r1 r2 r3 r4 w
      · obtain rfl : ns = 0 := by omega
        by_cases hn : 0 < n
        · replace hn : 0 < n := by omega
          rw [chk_2 ho h (by omega)]
          exact rcheck_2_1 _ _ _ _ _ _ _ hn r1 r2 r3 r4 w
        · obtain rfl : n = 0 := by omega
          rw [chk_0 ho h (by omega) (by omega)]
          exact rcheck_2_2 _ _ _ _ _ _  r1 r2 r3 r4 w
    · by_cases hns : ns ≠ 0
      · replace hns : ns ≠ 0 := by omega
        rw [chk_2 ho h (by omega)]
        exact rcheck_3_0 _ _ _ _ _ _ _ _ hns r1 r2 r3 r4 w
      · obtain rfl : ns = 0 := by omega
        by_cases hn : 0 < n
        · replace hn : 0 < n := by omega
          rw [chk_2 ho h (by omega)]
          exact rcheck_3_1 _ _ _ _ _ _ _ hn r1 r2 r3 r4 w
        · obtain rfl : n = 0 := by omega
          rw [chk_0 ho h (by omega) (by omega)]
          exact rcheck_3_2 _ _ _ _ _ _  r1 r2 r3 r4 w
    · by_cases hns : ns ≠ 0
      · replace hns : ns ≠ 0 := by omega
        rw [chk_2 ho h (by omega)]
        exact rcheck_4_0 _ _ _ _ _ _ _ _ hns r1 r2 r3 r4 w
      · obtain rfl : ns = 0 := by omega
        by_cases hn : 0 < n
        · replace hn : 0 < n := by omega
          rw [chk_2 ho h (by omega)]
          exact rcheck_4_1 _ _ _ _ _ _ _ hn r1 r2 r3 r4 w
        · obtain rfl : n = 0 := by omega
          rw [chk_0 ho h (by omega) (by omega)]
          exact rcheck_4_2 _ _ _ _ _ _  r1 r2 r3 r4 w
    · by_cases hns : ns ≠ 0
      · replace hns : ns ≠ 0 := by omega
        rw [chk_2 ho h (by omega)]
        exact rcheck_5_0 _ _ _ _ _ _ _ _ hns r1 r2 r3 r4 w
      · obtain rfl : ns = 0 := by omega
        by_cases hnr : nr ≠ 0
        · replace hnr : nr ≠ 0 := by omega
          by_cases hn : 0 < n
          · replace hn : 0 < n := by omega
            rw [chk_2 ho h (by omega)]
            exact rcheck_5_1 _ _ _ _ _ _ _ hnr hn r1 r2 r3 r4 w
          · obtain rfl : n = 0 := by omega
            rw [chk_2 ho h (by omega)]
            exact rcheck_5_2 _ _ _ _ _ _ hnr r1 r2 r3 r4 w
        · obtain rfl : nr = 0 := by omega
          by_cases hpe : peer ≠ 0
          · replace hpe : peer ≠ 0 := by omega
            by_cases hn : 0 < n
            · replace hn : 0 < n := by omega
              rw [chk_2 ho h (by omega)]
              exact rcheck_5_3 _ _ _ _ _ _ hpe hn r1 r2 r3 r4 w
            · obtain rfl : n = 0 := by omega
              rw [chk_2 ho h (by omega)]
              exact rcheck_5_4 _ _ _ _ _ hpe r1 r2 r3 r4 w
          · obtain rfl : peer = 0 := by omega
            by_cases hn : 0 < n
            · replace hn : 0 < n := by omega
              rw [chk_2 ho h (by omega)]
              exact rcheck_5_5 _ _ _ _ _ hn r1 r2 r3 r4 w
            · obtain rfl : n = 0 := by omega
              rw [chk_0 ho h (by omega) (by omega)]
              exact rcheck_5_6 _ _ _ _  r1 r2 r3 r4 w
    · by_cases hns : ns ≠ 0
      · replace hns : ns ≠ 0 := by omega
        rw [chk_2 ho h (by omega)]
        exact rcheck_6_0 _ _ _ _ _ _ _ _ hns r1 r2 r3 r4 w
      · obtain rfl : ns = 0 := by omega
        by_cases hnr : nr ≠ 0
        · replace hnr : nr ≠ 0 := by omega
          by_cases hn : 0 < n
          · replace hn : 0 < n := by omega
            rw [chk_2 ho h (by omega)]
            exact rcheck_6_1 _ _ _ _ _ _ _ hnr hn r1 r2 r3 r4 w
          · obtain rfl : n = 0 := by omega
            rw [chk_2 ho h (by omega)]
            exact rcheck_6_2 _ _ _ _ _ _ hnr r1 r2 r3 r4 w
        · obtain rfl : nr = 0 := by omega
          by_cases hn : 0 < n
          · replace hn : 0 < n := by omega
            rw [chk_2 ho h (by omega)]
            exact rcheck_6_3 _ _ _ _ _ _ hn r1 r2 r3 r4 w
          · obtain rfl : n = 0 := by omega
            rw [chk_0 ho h (by omega) (by omega)]
            exact rcheck_6_4 _ _ _ _ _  r1 r2 r3 r4 w
    · by_cases hns : ns ≠ 0
      · replace hns : ns ≠ 0 := by omega
        rw [chk_2 ho h (by omega)]
        exact rcheck_7_0 _ _ _ _ _ _ _ _ hns r1 r2 r3 r4 w
      · obtain rfl : ns = 0 := by omega
        by_cases hnr : nr ≠ 0
        · replace hnr : nr ≠ 0 := by omega
          by_cases hn : 0 < n
          · replace hn : 0 < n := by omega
            rw [chk_2 ho h (by omega)]
            exact rcheck_7_1 _ _ _ _ _ _ _ hnr hn r1 r2 r3 r4 w
          · obtain rfl : n = 0 := by omega
            rw [chk_2 ho h (by omega)]
            exact rcheck_7_2 _ _ _ _ _ _ hnr r1 r2 r3 r4 w
        · obtain rfl : nr = 0 := by omega
          by_cases hn : 0 < n
          · replace hn : 0 < n := by omega
            rw [chk_2 ho h (by omega)]
            exact rcheck_7_3 _ _ _ _ _ _ hn r1 r2 r3 r4 w
          · obtain rfl : n = 0 := by omega
            rw [chk_0 ho h (by omega) (by omega)]
            exact rcheck_7_4 _ _ _ _ _  r1 r2 r3 r4 w
  · rw [chk_rng h]
    by_cases h1 : 0 ≤ ns ∧ ns ≤ 127
    · by_cases h2 : 0 ≤ nr ∧ nr ≤ 127
      · by_cases h3 : 0 ≤ me ∧ me ≤ 65535
        · exact rcheck_r4 _ _ _ _ _ _ _ _ _ (by omega) (by omega) (inB_yes h1) (inB_yes h2) (inB_yes h3) (inB_no (by omega)) w
        · exact rcheck_r3 _ _ _ _ _ _ _ _ _ (by omega) (by omega) (inB_yes h1) (inB_yes h2) (inB_no h3) w
      · exact rcheck_r2 _ _ _ _ _ _ _ _ _ (by omega) (by omega) (inB_yes h1) (inB_no h2) w
    · exact rcheck_r1 _ _ _ _ _ _ _ _ _ (by omega) (by omega) (inB_no h1) w

end Go.Proofs.YthmdibagcbbgoaaGreat
