/- Bytes that a law turns round in a row of its own. No program in sight. Conditions: none. -/
import Derived.WalkKit
import Derived.Test.YtaembdlidaogdaaFr
import Derived.Test.YtaembdlidaogdaaRecPut
namespace Go.Proofs.Ytaembdlidaogdaa
open Go.RowKit

theorem turn_u8 {x : Int} (h : (Lit.int .u8 x).wf = true) : IntKind.u8.wrap (255 - x) = 255 - x ∧ (Lit.int .u8 (255 - x)).wf = true := by
  have := bounds_u8 h
  exact ⟨by rw [IntKind.wrap_u8]; omega, Go.WalkArith.wf_u8 (by omega)⟩
theorem own_slice {w : World} {base : Nat} {e : TypeId} {s : Nat} {ao : Option Addr} {cap n : Nat} {xs : List Value} (h : w.ownsRow base e s (.slice ao n cap) n xs) (hn : 0 < n) : ∃ g, ao = some ⟨g, 0, none⟩ ∧ base ≤ g ∧ g < w.heap.size := by
  rcases h.2 with ⟨h1, h0⟩ | ⟨g, cap, cur, h1, hb, hg, _⟩
  · omega
  · cases h1
    exact ⟨g, rfl, hb, lt_of_get hg⟩
/-- What a stored byte does to the list. -/
theorem set_wf {xs : List Int} {n i : Nat} {x : Int} (h : xs.length = n ∧ ∀ y ∈ xs, (Lit.int .u8 y).wf = true) (hx : (Lit.int .u8 x).wf = true) : (xs.set i x).length = n ∧ ∀ y ∈ xs.set i x, (Lit.int .u8 y).wf = true := by
  refine ⟨by rw [List.length_set]; exact h.1, fun y hy => ?_⟩
  rcases List.mem_or_eq_of_mem_set hy with h1 | h1
  · exact h.2 y h1
  · rw [h1]; exact hx
theorem reach_room {n : Nat} (h : n * 1 ≤ reachBytes) : 0 + n ≤ maxLen ∧ (0 + n) * 1 ≤ 140737488355328 ∧ n ≤ 9007199254740991 := by unfold reachBytes at h; unfold maxLen; omega

end Go.Proofs.Ytaembdlidaogdaa
