/- The walk of the statement RecvNil. Conditions: the argument's own. -/
import Derived.Test.YtagbaoakablfpaaRcvAwake
namespace Go.Proofs.Ytagbaoakablfpaa
open Go.RowKit

theorem cells_three {W : World} {g : Nat} {a b c : Value} {t : TypeId} (hb : W.heap[g]? = some (.cells #[a, b, c] t (0, 0))) :
    W.cell? ⟨g, 0, none⟩ = some a ∧ W.cell? ⟨g, 1, none⟩ = some b ∧ W.cell? ⟨g, 2, none⟩ = some c := by
  refine ⟨?_, ?_, ?_⟩ <;> (rw [cell_of_row _ _ _ _ _ _ hb]; rfl)

set_option maxRecDepth 100000 in
set_option maxHeartbeats 1000000 in
theorem walkRecvNil (k : Int) (_ : (Lit.int .i64 k).wf = true) (n : Int) (_ : (Lit.int .i64 n).wf = true) (ao : Option Addr) (cap : Nat) (xs : List Int) (w : World) (_ : Reads (Value.int .u8) w (.slice ao xs.length cap) xs) (_ : ∀ n ∈ xs, (Lit.int .u8 n).wf = true) (_ : xs.length * 1 ≤ reachBytes) :
    Calls Try.prog 4 #[.agg #[.int .i64 k, .int .i64 n, .slice ao xs.length cap]] w fun e w' => e = .returned (.bool true) ∧ Below w.heap.size w w' := by
  have hbx := heap_alloc_new w (.cells #[.int .i64 k, .int .i64 n, .slice ao xs.length cap] 34)
  have hB := bl_alloc (bl_refl w) (.cells #[.int .i64 k, .int .i64 n, .slice ao xs.length cap] 34)
  obtain ⟨c0, c1, c2⟩ := cells_three hbx
  have HB := Lib.hid hB
  clear hbx hB
  go_enter Try.func4, Try.ntmps4
  go_wp2_with fail
  refine (rctake_nil _ _ _ _ _).mono ?_
  rintro e W2 ⟨rfl, rfl⟩
  go_wp2_with fail
  refine (rcforget_nil _).mono ?_
  rintro e W2 ⟨⟨_, rfl⟩, rfl⟩
  go_wp2_with fail
  refine (rcreset_nil _).mono ?_
  rintro e W2 ⟨⟨_, rfl⟩, rfl⟩
  go_wp2_with fail
  refine (rcwaits_nil _).mono ?_
  rintro e W2 ⟨rfl, rfl⟩
  go_wp2_with fail
  refine (rckept_nil _).mono ?_
  rintro e W2 ⟨rfl, rfl⟩
  go_wp2_with fail
  refine (rcmissing_nil _).mono ?_
  rintro e W2 ⟨rfl, rfl⟩
  go_wp2_with fail
  refine (awake8_any _).mono ?_
  rintro e W2 ⟨rfl, hb⟩
  go_wp2
  go_ret
  exact ⟨rfl, bl_trans HB.out hb⟩

end Go.Proofs.Ytagbaoakablfpaa
