/- The contract of window.has: of whatever numbers, which of 0 .. 127 are among them, reduced. Conditions: none. -/
import Derived.WalkKit
import Derived.Lib.Hide
import Derived.Deep.WholeRow
import Derived.Test.YtagbaoakablfpaaWin
import Derived.Test.YtagbaoakablfpaaRead
namespace Go.Proofs.Ytagbaoakablfpaa
open Go.RowKit

def hasN (l : List Int) (j : Int) : Bool := l.any fun x => x % 128 == j
/-- The 128 cells. -/
def numCells (l : List Int) : Array Value := Array.ofFn (n := 128) fun j => Value.bool (hasN l (j.val : Int))

theorem numCells_size (l : List Int) : (numCells l).size = 128 := by simp [numCells]
theorem numCells_nil : numCells [] = Array.replicate 128 (.bool false) := by
  apply Array.ext
  · simp [numCells]
  · intro i h1 h2; simp [numCells, hasN]
theorem numCells_at (l : List Int) {j : Nat} (h : j < 128) : (numCells l)[j]? = some (.bool (hasN l (j : Int))) := by
  rw [Array.getElem?_eq_getElem (by rw [numCells_size]; exact h)]; simp [numCells]
theorem hasN_snoc (l : List Int) (x j : Int) : hasN (l ++ [x]) j = (hasN l j || x % 128 == j) := by simp [hasN]
theorem numCells_snoc (l : List Int) (x : Int) : numCells (l ++ [x]) = (numCells l).setIfInBounds (x % 128).toNat (.bool true) := by
  apply Array.ext
  · simp [numCells]
  · intro i h1 h2
    rw [Array.getElem_setIfInBounds (by rw [numCells_size]; simpa [numCells] using h1)]
    simp only [numCells, Array.getElem_ofFn, hasN_snoc]
    by_cases h : (x % 128).toNat = i
    · rw [if_pos h]
      have : (x % 128 == (i : Int)) = true := by simp; omega
      rw [this, Bool.or_true]
    · rw [if_neg h]
      have : (x % 128 == (i : Int)) = false := by simp; omega
      rw [this, Bool.or_false]
theorem numCells_one (l : List Int) : (numCells l).all (·.oneCell') = true := by
  rw [Array.all_eq_true_iff_forall_mem]
  intro v hv
  simp only [numCells, Array.mem_ofFn] at hv
  obtain ⟨j, rfl⟩ := hv
  rfl

theorem zero128 : (Try.prog.info? 79).map (fun i => (i.zero, i.size)) = some (some (.agg (Array.replicate 128 (.bool false))), 128) := by kernel_rfl
theorem under128 : Try.prog.underlying 79 = some (.array 128 4) := by kernel_rfl
theorem zeroVal128 (w : World) : (zeroValue 79).run Try.prog w = .ok (.agg (numCells [])) w := by rw [numCells_nil]; exact (zero_of_info zero128).1 w

set_option maxRecDepth 100000 in
set_option maxHeartbeats 1000000 in
theorem has_any (v : Value) (l : List Int) (w : World) (hr : Reads (Value.int .i64) w v l) :
    Calls Try.prog 38 #[v] w fun e w' => e = .returned (.agg (numCells l)) ∧ Below w.heap.size w w' := by
  obtain ⟨hm, ao, cap, rfl, _, hc⟩ := hr
  unfold maxLen at hm
  have hz := zeroVal128
  go_enter Try.func38, Try.ntmps38
  go_wp2
  go_loopw [5, 8] (fun _ k wr => ∃ i : Nat, i ≤ l.length ∧ k = .int .i64 i ∧ wr = (w.alloc (.cells (numCells []) 79)).alloc (.cells (numCells (l.take i)) 79)) (fun _ k _ => l.length - (intOf k).toNat)
  case atStart => exact ⟨0, by omega, rfl, by simp⟩
  case round =>
    obtain ⟨k, hk, rfl, rfl⟩ := hrel
    by_cases hlt : k < l.length
    · obtain ⟨b, o, x, rfl, hx, hcx⟩ := cell_nth hc hlt
      have hcb := cell_lt hcx
      have h1 : 0 ≤ x % 128 := by omega
      have h2 : x % 128 < 128 := by omega
      have hat := numCells_at (l.take k) (j := (x % 128).toNat) (by omega)
      clear hc
      go_wp2_with (go_at_call 37; refine (reduce_any _ _).mono ?_; rintro e w' ⟨rfl, rfl⟩)
      go_roundw
      case rel => exact ⟨k + 1, by omega, by go_num, by rw [take_snoc' hx.out, numCells_snoc]⟩
      case measure => simp [intOf]; omega
    · obtain rfl : k = l.length := by omega
      clear hc
      rw [List.take_length]
      have hg1 : ((w.alloc (.cells (numCells []) 79)).alloc (.cells (numCells l) 79)).heap[w.heap.size + 1]? = some (.cells (numCells l) 79 (0, 0)) := heap_alloc2_new _ _ _
      have hg0 : ((w.alloc (.cells (numCells []) 79)).alloc (.cells (numCells l) 79)).heap[w.heap.size]? = some (.cells (numCells []) 79 (0, 0)) := heap_alloc2_old _ _ _
      have hi : (Try.prog.info? 79).map (·.size) = some (numCells l).size := by rw [numCells_size]; exact (zero_of_info zero128).2
      have H1 := Lib.hid hg1
      have H0 := Lib.hid hg0
      have HI := Lib.hid hi
      clear hg1 hg0 hi
      go_wp2_with (first | (refine wpList_load_row rfl 79 _ rfl (w.heap.size + 1) rfl 79 (numCells l) (0, 0) _ H1.out under128 rfl HI.out ?_) | (refine wpList_store_row rfl 79 _ _ rfl w.heap.size (numCells l) rfl rfl 79 (numCells []) H0.out HI.out (by rw [numCells_size, numCells_size]) (numCells_one l) ?_))
      exact bodyPost_ret (v := .agg (numCells l)) (results_cell_row rfl _ _ w.heap.size 79 (numCells l) (0, 0) _ rfl (setRow_heap _ _ _ _ _ _ H0.out) under128 rfl HI.out) rfl
        ⟨rfl, below_setRow' (((Below.refl _ w).alloc (Nat.le_refl _) _).alloc (by simp) _) (Nat.le_refl _) _⟩

end Go.Proofs.Ytagbaoakablfpaa
