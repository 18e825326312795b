/- record.First where there is no record that is whole. Conditions: as they stand. -/
import Derived.WalkKit
import Derived.Lib.Hide
import Derived.Handy
import Derived.Test.YtaembdlidaogdaaRecPlain
import Derived.Test.YtaembdlidaogdaaCut
namespace Go.Proofs.Ytaembdlidaogdaa
open Go.RowKit

def NoneR (w : World) (e : Ending) (w' : World) : Prop := e = .returned (.tuple #[.slice none 0 0, .int .i64 0]) ∧ w' = w

set_option maxRecDepth 100000 in
set_option maxHeartbeats 400000 in
theorem first_short (ao : Option Addr) (n cap V : Nat) (E : Int) (w : World) (hm : n < 8)
    (hg : Calls Try.prog 23 #[.slice ao n cap, .int .i64 0, .int .i64 4] w fun e w' => e = .returned (.tuple #[.int .u64 V, .int .i64 E]) ∧ w = w') :
    Calls Try.prog 12 #[.slice ao n cap] w (NoneR w) := by
  have hg := Lib.hid hg
  go_enter Try.func12, Try.ntmps12
  go_wp2_with fail
  refine hg.out.mono ?_
  rintro e w' ⟨rfl, rfl⟩
  go_wp2_with fail
  refine (get_form n ao cap 4 4 (by omega) (by omega) (by omega) (by omega) w).mono ?_
  rintro e w' ⟨rfl, rfl⟩
  by_cases hE : E = 0
  · subst hE
    go_wp2
    go_ret2
    exact ⟨rfl, rfl⟩
  · have hE' : (E != 0) = true := by simpa using hE
    go_wp2
    go_ret2
    exact ⟨rfl, rfl⟩

set_option maxRecDepth 100000 in
set_option maxHeartbeats 400000 in
theorem first_zero (ao : Option Addr) (n cap S : Nat) (w : World)
    (hg1 : Calls Try.prog 23 #[.slice ao n cap, .int .i64 0, .int .i64 4] w fun e w' => e = .returned (.tuple #[.int .u64 (0 : Nat), .int .i64 0]) ∧ w = w')
    (hg2 : Calls Try.prog 23 #[.slice ao n cap, .int .i64 4, .int .i64 4] w fun e w' => e = .returned (.tuple #[.int .u64 S, .int .i64 0]) ∧ w = w') :
    Calls Try.prog 12 #[.slice ao n cap] w (NoneR w) := by
  have hg1 := Lib.hid hg1
  have hg2 := Lib.hid hg2
  go_enter Try.func12, Try.ntmps12
  go_wp2_with fail
  refine hg1.out.mono ?_
  rintro e w' ⟨rfl, rfl⟩
  go_wp2_with fail
  refine hg2.out.mono ?_
  rintro e w' ⟨rfl, rfl⟩
  go_wp2
  go_ret2
  exact ⟨rfl, rfl⟩

set_option maxRecDepth 100000 in
set_option maxHeartbeats 400000 in
theorem first_over (ao : Option Addr) (n cap L S : Nat) (w : World) (h0 : ((L : Int) == 0) = false) (h1 : (65536 : Int) < (L : Int))
    (hg1 : Calls Try.prog 23 #[.slice ao n cap, .int .i64 0, .int .i64 4] w fun e w' => e = .returned (.tuple #[.int .u64 L, .int .i64 0]) ∧ w = w')
    (hg2 : Calls Try.prog 23 #[.slice ao n cap, .int .i64 4, .int .i64 4] w fun e w' => e = .returned (.tuple #[.int .u64 S, .int .i64 0]) ∧ w = w') :
    Calls Try.prog 12 #[.slice ao n cap] w (NoneR w) := by
  have hg1 := Lib.hid hg1
  have hg2 := Lib.hid hg2
  go_enter Try.func12, Try.ntmps12
  go_wp2_with fail
  refine hg1.out.mono ?_
  rintro e w' ⟨rfl, rfl⟩
  go_wp2_with fail
  refine hg2.out.mono ?_
  rintro e w' ⟨rfl, rfl⟩
  go_wp2
  go_ret2
  exact ⟨rfl, rfl⟩

set_option maxRecDepth 100000 in
set_option maxHeartbeats 400000 in
theorem first_cut (ao : Option Addr) (n cap L S : Nat) (w : World) (hn : 8 ≤ n) (hm : n ≤ 9223372036854775807) (h0 : ((L : Int) == 0) = false) (h1 : ¬ (65536 : Int) < (L : Int)) (h2 : ((n - 8 : Nat) : Int) < (L : Int))
    (hg1 : Calls Try.prog 23 #[.slice ao n cap, .int .i64 0, .int .i64 4] w fun e w' => e = .returned (.tuple #[.int .u64 L, .int .i64 0]) ∧ w = w')
    (hg2 : Calls Try.prog 23 #[.slice ao n cap, .int .i64 4, .int .i64 4] w fun e w' => e = .returned (.tuple #[.int .u64 S, .int .i64 0]) ∧ w = w') :
    Calls Try.prog 12 #[.slice ao n cap] w (NoneR w) := by
  have hg1 := Lib.hid hg1
  have hg2 := Lib.hid hg2
  have c8 : IntKind.u64.wrap (wrap64 ((n : Int) - 8)) = ((n - 8 : Nat) : Int) := by
    unfold wrap64; simp only [IntKind.wrap_u64]; omega
  have c8' : IntKind.u64.wrap ((n : Int) - 8) = ((n - 8 : Nat) : Int) := by
    simp only [IntKind.wrap_u64]; omega
  go_enter Try.func12, Try.ntmps12
  go_wp2_with fail
  refine hg1.out.mono ?_
  rintro e w' ⟨rfl, rfl⟩
  go_wp2_with fail
  refine hg2.out.mono ?_
  rintro e w' ⟨rfl, rfl⟩
  go_wp2
  go_ret2
  exact ⟨rfl, rfl⟩

end Go.Proofs.Ytaembdlidaogdaa
