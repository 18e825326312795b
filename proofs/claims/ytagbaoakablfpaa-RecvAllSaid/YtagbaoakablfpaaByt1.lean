/- One byte in new memory. No program in sight. Conditions: none. -/
import Derived.WalkKit
import Derived.Test.YtagbaoakablfpaaRead
import Derived.OpenShut
namespace Go.Proofs.Ytagbaoakablfpaa
open Go.RowKit

theorem reads_mark' (w : World) (x : Int) (e : TypeId) (fr : Nat × Nat) : Reads (Value.int .u8) (w.alloc (.cells #[.int .u8 x] e fr)) (.slice (some ⟨w.heap.size, 0, none⟩) 1 1) [x] := by
  refine ⟨by simp [maxLen], _, _, rfl, ⟨by simp, fun h => by cases h⟩, fun i z hz => ⟨_, _, rfl, ?_⟩⟩
  rw [World.cell?_alloc_mark]
  match i, hz with
  | 0, hz => simp at hz; subst hz; simp
  | n + 1, hz => simp at hz
theorem wf_one {x : Int} (h : (Lit.int .u8 x).wf = true) : ∀ n ∈ [x], (Lit.int .u8 n).wf = true := by simpa using h
theorem str_one : strOfNums [97] = ⟨#[97]⟩ := by decide +kernel

end Go.Proofs.Ytagbaoakablfpaa
