/- The walks of the statements BitsGets, BitsMirrors, BitsTwice. Conditions: the arguments' own. -/
import Derived.WalkKit
import Derived.Lib.Hide
import Derived.Test.YtphafaohicageaaBitsLaw
import Derived.Test.YtphafaohicageaaBitsAwake
namespace Go.Proofs.Ytphafaohicageaa
open Go.RowKit

theorem nat_u64 {a : Int} (h : (Lit.int .u64 a).wf = true) : ∃ N : Nat, a = (N : Int) ∧ N < 2 ^ 64 := by
  have := bounds_u64 h
  obtain ⟨N, rfl⟩ := Int.eq_ofNat_of_zero_le this.1
  exact ⟨N, rfl, by omega⟩

set_option maxRecDepth 100000 in
set_option maxHeartbeats 1000000 in
theorem walkBitsGets (v : Value) (l : List Int) (w : World) (hr : Reads (Value.int .u8) w v l) (hw : ∀ n ∈ l, (Lit.int .u8 n).wf = true) (_ : l.length * 1 ≤ reachBytes) (a : Int) (ha : (Lit.int .i64 a).wf = true) (s : Int) (_ : (Lit.int .i64 s).wf = true) :
    Calls Try.prog 4 #[v, .int .i64 a, .int .i64 s] w fun e w' => e = .returned (.bool true) ∧ Below w.heap.size w w' := by
  have hb := bounds_i64 ha
  go_enter Try.func4, Try.ntmps4
  go_wp2_with fail
  refine (get_any v l a s hb hw _ hr).mono ?_
  rintro e w' ⟨rfl, rfl⟩
  go_wp2_with fail
  refine (rget_any v l a s hb hw _ hr).mono ?_
  rintro e w' ⟨rfl, rfl⟩
  go_wp2_with fail
  refine (awake_any _).mono ?_
  rintro e w' ⟨rfl, hb⟩
  go_wp2
  go_ret
  exact ⟨rfl, hb⟩

set_option maxRecDepth 100000 in
set_option maxHeartbeats 1000000 in
theorem walkBitsMirrors (a : Int) (ha : (Lit.int .u64 a).wf = true) (s : Int) (_ : (Lit.int .i64 s).wf = true) (w : World) :
    Calls Try.prog 8 #[.int .u64 a, .int .i64 s] w fun e w' => e = .returned (.bool true) ∧ Below w.heap.size w w' := by
  obtain ⟨N, rfl, hN⟩ := nat_u64 ha
  have hN := Lib.hid hN
  go_enter Try.func8, Try.ntmps8
  go_wp2_with fail
  refine (mirror_any N hN.out s _).mono ?_
  rintro e w' ⟨rfl, rfl⟩
  go_wp2_with fail
  refine (rmirror_any N hN.out s _).mono ?_
  rintro e w' ⟨rfl, rfl⟩
  go_wp2_with fail
  refine (count_any N hN _).mono ?_
  rintro e w' ⟨rfl, rfl⟩
  go_wp2_with fail
  refine (rcount_any N _).mono ?_
  rintro e w' ⟨rfl, rfl⟩
  go_wp2_with fail
  refine (awake_any _).mono ?_
  rintro e w' ⟨rfl, hb⟩
  go_wp2
  go_ret
  exact ⟨rfl, hb⟩

set_option maxRecDepth 100000 in
set_option maxHeartbeats 1000000 in
theorem walkBitsTwice (a : Int) (ha : (Lit.int .u64 a).wf = true) (s : Int) (_ : (Lit.int .i64 s).wf = true) (w : World) :
    Calls Try.prog 9 #[.int .u64 a, .int .i64 s] w fun e w' => e = .returned (.bool true) ∧ Below w.heap.size w w' := by
  obtain ⟨N, rfl, hN⟩ := nat_u64 ha
  have hN := Lib.hid hN
  by_cases hg : (1 ≤ s ∧ s ≤ 64) ∧ N < 2 ^ s.toNat
  · obtain ⟨⟨h1, h2⟩, h3⟩ := hg
    obtain ⟨n, rfl⟩ := Int.eq_ofNat_of_zero_le (show 0 ≤ s by omega)
    rw [Int.toNat_natCast] at h3
    have h3 := Lib.hid h3
    have hM : Hid (mirTo N n < 2 ^ n) := mirTo_lt N n
    have hM64 : Hid (mirTo N n < 2 ^ 64) := Nat.lt_of_lt_of_le (mirTo_lt N n) (pow_le64 (by omega))
    have hT := Lib.hid (mir_twice h3.out)
    have hC := Lib.hid (cnt_twice h3.out (by omega))
    go_enter Try.func9, Try.ntmps9
    go_wp2_with fail
    refine (mirror_good N n (by omega) (by omega) h3 _).mono ?_
    rintro e w' ⟨rfl, rfl⟩
    go_wp2_with fail
    refine (mirror_good (mirTo N n) n (by omega) (by omega) hM _).mono ?_
    rintro e w' ⟨rfl, rfl⟩
    rw [hT.out]
    go_wp2_with fail
    refine (count_any (mirTo N n) hM64 _).mono ?_
    rintro e w' ⟨rfl, rfl⟩
    rw [hC.out]
    go_wp2_with fail
    refine (count_any N hN _).mono ?_
    rintro e w' ⟨rfl, rfl⟩
    go_wp2_with fail
    refine (awake_any _).mono ?_
    rintro e w' ⟨rfl, hb⟩
    go_wp2
    go_ret
    exact ⟨rfl, hb⟩
  · have hE : Hid (mirV N s = 0 ∧ (mirE N s != 0) = true) := by
      unfold Hid
      by_cases h : s < 1 ∨ 64 < s
      · rw [(mir_bad h).1, (mir_bad h).2]; exact ⟨rfl, rfl⟩
      · obtain ⟨n, rfl⟩ := Int.eq_ofNat_of_zero_le (show 0 ≤ s by omega)
        rw [Int.toNat_natCast] at hg
        have := mir_long (N := N) (s := n) (by omega) (by omega) (by omega)
        rw [this.1, this.2]; exact ⟨rfl, rfl⟩
    clear hg
    go_enter Try.func9, Try.ntmps9
    go_wp2_with fail
    refine (mirror_any N hN.out s _).mono ?_
    rintro e w' ⟨rfl, rfl⟩
    rw [hE.out.1]
    have hE2 := hE.out.2
    go_wp2_with fail
    refine (awake_any _).mono ?_
    rintro e w' ⟨rfl, hb⟩
    go_wp2
    go_ret
    exact ⟨rfl, hb⟩

end Go.Proofs.Ytphafaohicageaa
