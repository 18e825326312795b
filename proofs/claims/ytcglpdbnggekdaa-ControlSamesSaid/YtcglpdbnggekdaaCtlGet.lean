/- Laws for the walk of control.Get; what control bytes tell. Conditions: none. -/
import Derived.WalkKit
import Derived.Handy
import Derived.Lib.Hide
import Derived.RegionTactic
import Derived.Test.YtcglpdbnggekdaaCtlPut
import Derived.Test.YtcglpdbnggekdaaCtlKind
import Derived.Test.YtcglpdbnggekdaaFrm
namespace Go.Proofs.Ytcglpdbnggekdaa
open Go.RowKit

/-- The control that bytes tell. -/
def Ctl.of (p : List Int) : Ctl where
  k := kindN (p.getD 1 0)
  ns := if kindN (p.getD 1 0) = 1 then p.getD 1 0 / 2 else 0
  nr := if thirdB (kindN (p.getD 1 0)) then p.getD 2 0 / 2 else 0
  p := if thirdB (kindN (p.getD 1 0)) then bits .and .u8 (p.getD 2 0) 1 == 1 else bits .and .u8 (p.getD 1 0) 16 != 0
  me := ((getV p (if thirdB (kindN (p.getD 1 0)) then 3 else 2) 2 : Nat) : Int)
  peer := ((getV p (if thirdB (kindN (p.getD 1 0)) then 5 else 4) 2 : Nat) : Int)
  data := p.drop (if thirdB (kindN (p.getD 1 0)) then 7 else 6)

theorem infoCtl : (Try.prog.info? 24).map (·.size) = some 7 := by kernel_rfl
theorem one7 (a b c d e f g : Value) (ha : a.oneCell' = true) (hb : b.oneCell' = true) (hc : c.oneCell' = true) (hd : d.oneCell' = true) (he : e.oneCell' = true) (hf : f.oneCell' = true) (hg : g.oneCell' = true) : (#[a, b, c, d, e, f, g] : Array Value).all (·.oneCell') = true := by simp [ha, hb, hc, hd, he, hf, hg]
def Ctl.zero : Ctl := ⟨0, 0, 0, false, 0, 0, []⟩
theorem Reads.drop {α : Type} {f : α → Value} {w : World} {b o n cap : Nat} {xs : List α} (h : Reads f w (.slice (some ⟨b, o, none⟩) n cap) xs) {k : Nat} (hk : k ≤ n) : Reads f w (.slice (some ⟨b, o + k, none⟩) (n - k) (cap - k)) (xs.drop k) := by
  obtain ⟨hm, ao, cap', hv, ⟨h1, h2⟩, hc⟩ := h
  cases hv
  refine ⟨by rw [List.length_drop]; omega, _, _, by rw [List.length_drop], ⟨by rw [List.length_drop]; omega, fun h => by cases h⟩, fun i x hx => ?_⟩
  rw [List.getElem?_drop] at hx
  obtain ⟨b', o', ha, hcell⟩ := hc (k + i) x hx
  cases ha
  exact ⟨b, o + k, rfl, by rw [Nat.add_assoc]; exact hcell⟩
theorem reads_none' {f : Int → Value} {w : World} {b o : Nat} {c : Nat} : Reads f w (.slice (some ⟨b, o, none⟩) 0 c) [] := ⟨by simp, _, _, rfl, ⟨by simp, fun h => by cases h⟩, fun i x h => by simp at h⟩

theorem own0 (w0 : World) (C : Obj) (e : TypeId) : (((w0.alloc C).alloc (.cells #[] e)).drew).ownsRow (w0.heap.size + 1) e 1 (.slice (some ⟨w0.heap.size + 1, 0, none⟩) 0 0) 0 [] := by
  have := owns_empty (w0.alloc C) (base := w0.heap.size + 1) e (by simp)
  rw [World.size_alloc] at this
  exact this.drew
theorem owns_frm {ex : List Nat} {w w' : World} {base : Nat} {e : TypeId} {s : Nat} {v : Value} {n : Nat} {xs : List Value} (h : w.ownsRow base e s v n xs) (hf : Frm ex w w') (hn : ∀ k, v.ownBlock = some k → k ∉ ex) : w'.ownsRow base e s v n xs := by
  refine ⟨h.1, ?_⟩
  rcases h.2 with h2 | ⟨g, cap, cur, rfl, hg, hrow, r⟩
  · exact .inl h2
  · exact .inr ⟨g, cap, cur, rfl, hg, hf.get hrow (hn g rfl), r⟩
theorem cells_of7 {W : World} {g : Nat} {a b c d e f h : Value} {t : TypeId} (hb : W.heap[g]? = some (.cells #[a, b, c, d, e, f, h] t (0, 0))) :
    W.cell? ⟨g, 0, none⟩ = some a ∧ W.cell? ⟨g, 1, none⟩ = some b ∧ W.cell? ⟨g, 2, none⟩ = some c ∧ W.cell? ⟨g, 3, none⟩ = some d ∧ W.cell? ⟨g, 4, none⟩ = some e ∧ W.cell? ⟨g, 5, none⟩ = some f ∧ W.cell? ⟨g, 6, none⟩ = some h := by
  refine ⟨?_, ?_, ?_, ?_, ?_, ?_, ?_⟩ <;> (rw [cell_of_row _ _ _ _ _ _ hb]; rfl)
theorem row_ge {n k : Nat} (h : (some (n + 1) : Option Nat) = some k) : n ≤ k := by cases h; omega
theorem size2 (w0 : World) (C D : Obj) : w0.heap.size + 1 ≤ (((w0.alloc C).alloc D).drew).heap.size := by
  show w0.heap.size + 1 ≤ ((w0.alloc C).alloc D).heap.size
  rw [World.size_alloc, World.size_alloc]; omega
/-- The box is as it was behind an append to the row above it. -/
theorem box_kept {w0 W : World} {C : Obj} {e : TypeId} {row : Option Nat} (hg : (((w0.alloc C).alloc (.cells #[] e)).drew).grownBy W row) (hr : row = some (w0.heap.size + 1)) : W.heap[w0.heap.size]? = some C := by
  refine (hg.block w0.heap.size (Nat.lt_of_lt_of_le (Nat.lt_succ_self _) (size2 w0 C _)) (by rw [hr]; simp)).trans ?_
  exact heap_alloc2_old _ _ _
theorem frozen_of {W : World} {g j : Nat} {cs : Array Value} {t : TypeId} (h : W.heap[g]? = some (.cells cs t (0, 0))) : W.frozen? ⟨g, j, none⟩ = false := by
  simp [World.frozen?, h]

theorem own0' (w0 : World) (C : Obj) (e : TypeId) : ((w0.alloc C).alloc (.cells #[] e)).ownsRow (w0.heap.size + 1) e 1 (.slice (some ⟨w0.heap.size + 1, 0, none⟩) 0 0) 0 [] := own0 w0 C e
theorem size2' (w0 : World) (C D : Obj) : w0.heap.size + 1 ≤ ((w0.alloc C).alloc D).heap.size := size2 w0 C D
theorem box_kept' {w0 W : World} {C : Obj} {e : TypeId} {row : Option Nat} (hg : ((w0.alloc C).alloc (.cells #[] e)).grownBy W row) (hr : row = some (w0.heap.size + 1)) : W.heap[w0.heap.size]? = some C := by
  refine (hg.block w0.heap.size (Nat.lt_of_lt_of_le (Nat.lt_succ_self _) (size2 w0 C _)) (by rw [hr]; simp)).trans ?_
  exact heap_alloc2_old _ _ _
theorem frm_row (W : World) (g : Nat) (cs : Array Value) : Frm [g] W (W.setRow g cs) := ⟨rfl, rfl, rfl, by simp, fun k _ hn => setRow_other W g k cs (by simpa using hn)⟩

end Go.Proofs.Ytcglpdbnggekdaa
