/- The contract of window.has: of whatever numbers, which of 0 .. 127 are among them, reduced. Conditions: none. -/
import Derived.WalkKit
import Derived.Lib.Hide
import Derived.Deep.WholeRow
import Derived.Test.YtgfcppjahebidaaWin
import Derived.Test.YtgfcppjahebidaaRead
namespace Go.Proofs.Ytgfcppjahebidaa
open Go.RowKit

def hasN (l : List Int) (j : Int) : Bool := l.any fun x => x % 128 == j
/-- The 128 cells. -/
def numCells (l : List Int) : Array Value := Array.ofFn (n := 128) fun j => Value.bool (hasN l (j.val : Int))

theorem numCells_size (l : List Int) : (numCells l).size = 128 := by simp [numCells]
theorem numCells_nil : numCells [] = Array.replicate 128 (.bool false) := by
  apply Array.ext
  · simp [numCells]
  · intro i h1 h2; simp [numCells, hasN]
theorem numCells_at (l : List Int) {j : Nat} (h : j < 128) : (numCells l)[j]? = some (.bool (hasN l (j : Int))) := by
  rw [Array.getElem?_eq_getElem (by rw [numCells_size]; exact h)]; simp [numCells]
theorem hasN_snoc (l : List Int) (x j : Int) : hasN (l ++ [x]) j = (hasN l j || x % 128 == j) := by simp [hasN]
theorem numCells_snoc (l : List Int) (x : Int) : numCells (l ++ [x]) = (numCells l).setIfInBounds (x % 128).toNat (.bool true) := by
  apply Array.ext
  · simp [numCells]
  · intro i h1 h2
    rw [Array.getElem_setIfInBounds (by rw [numCells_size]; simpa [numCells] using h1)]
    simp only [numCells, Array.getElem_ofFn, hasN_snoc]
    by_cases h : (x % 128).toNat = i
    · rw [if_pos h]
      have : (x % 128 == (i : Int)) = true := by simp; omega
      rw [this, Bool.or_true]
    · rw [if_neg h]
      have : (x % 128 == (i : Int)) = false := by simp; omega
      rw [this, Bool.or_false]
theorem numCells_one (l : List Int) : (numCells l).all (·.oneCell') = true := by
  rw [Array.all_eq_true_iff_forall_mem]
  intro v hv
  simp only [numCells, Array.mem_ofFn] at hv
  obtain ⟨j, rfl⟩ := hv
  rfl

end Go.Proofs.Ytgfcppjahebidaa
