/- What it is for a slice value to read as a list in a world; and small facts on worlds. No program in sight. Conditions: none. -/
import Derived.WalkKit
import Derived.Lib.Hide
import Derived.WalkSmall
namespace Go.Proofs.Ytagbaoakablfpaa
open Go.RowKit

theorem ret_i64 {a b : Int} (h : a = b) : Ending.returned (.int .i64 a) = .returned (.int .i64 b) := by rw [h]
theorem ret_bool {a b : Bool} (h : a = b) : Ending.returned (.bool a) = .returned (.bool b) := by rw [h]

/-- The slice value v reads in the world w as the list xs, each element one cell, by f. -/
def Reads {α : Type} (f : α → Value) (w : World) (v : Value) (xs : List α) : Prop :=
  xs.length ≤ maxLen ∧ ∃ ao cap, v = .slice ao xs.length cap ∧ (xs.length ≤ cap ∧ (ao = none → cap = 0)) ∧ ∀ i x, xs[i]? = some x → ∃ b o, ao = some ⟨b, o, none⟩ ∧ w.cell? ⟨b, o + i, none⟩ = some (f x)

theorem cell_lt {w : World} {b o : Nat} {v : Value} (h : w.cell? ⟨b, o, none⟩ = some v) : b < w.heap.size := block_lt_of_cell (a := ⟨b, o, none⟩) h

theorem below_cell {w w' : World} (hb : Below w.heap.size w w') {b o : Nat} {v : Value} (h : w.cell? ⟨b, o, none⟩ = some v) : w'.cell? ⟨b, o, none⟩ = some v :=
  (hb.cell (p := ⟨b, o, none⟩) (cell_lt h)).trans h

theorem Reads.below {α : Type} {f : α → Value} {w w' : World} {v : Value} {xs : List α} (h : Reads f w v xs) (hb : Below w.heap.size w w') : Reads f w' v xs := by
  obtain ⟨hm, ao, cap, hv, hn, hc⟩ := h
  refine ⟨hm, ao, cap, hv, hn, fun i x hx => ?_⟩
  obtain ⟨b, o, ha, hcx⟩ := hc i x hx
  exact ⟨b, o, ha, below_cell hb hcx⟩

theorem Reads.nil {α : Type} (f : α → Value) (w : World) : Reads f w (.slice none 0 0) [] := ⟨by simp, none, 0, rfl, ⟨by simp, fun _ => rfl⟩, fun i x h => by simp at h⟩

/-- What a call's own row owns it reads as. -/
theorem Reads.of_owns {α : Type} {f : α → Value} {w : World} {base : Nat} {e : TypeId} {v : Value} {xs : List α} (h : w.ownsRow base e 1 v xs.length (xs.map f)) (hm : xs.length ≤ maxLen) : Reads f w v xs := by
  refine ⟨hm, ?_⟩
  rcases h.2 with ⟨rfl, h0⟩ | ⟨g, cap, cur, rfl, hb, hg, hle, hcap, hsz, htake⟩
  · exact ⟨none, 0, by rw [h0], ⟨by omega, fun _ => rfl⟩, fun i x hx => by simp [List.eq_nil_of_length_eq_zero h0] at hx⟩
  · refine ⟨_, cap, rfl, ⟨hle, fun h => by cases h⟩, fun i x hx => ⟨g, 0, rfl, ?_⟩⟩
    rw [cell_of_row w g (0 + i) cur e (0, 0) hg, Nat.zero_add]
    have hi : i < xs.length := (List.getElem?_eq_some_iff.1 hx).1
    have h2 : (xs.map f)[i]? = some (f x) := by rw [List.getElem?_map, hx]; rfl
    rw [← htake, List.getElem?_take, if_pos (by omega)] at h2
    simpa using h2

/-- What was there is as it was: one step behind the other. -/
theorem bl_refl (w : World) : Below w.heap.size w w := Below.refl _ _
theorem bl_trans {w a b : World} (h : Below w.heap.size w a) (k : Below a.heap.size a b) : Below w.heap.size w b := h.trans (k.mono h.size)
theorem bl_alloc {w a : World} (h : Below w.heap.size w a) (o : Obj) : Below w.heap.size w (a.alloc o) := h.alloc h.size o
theorem bl_drew {w a : World} (h : Below w.heap.size w a) : Below w.heap.size w a.drew := h.drew
theorem bl_drewN {w a : World} (h : Below w.heap.size w a) (n : Nat) : Below w.heap.size w (a.drewN n) := below_drewN h n
theorem Reads.owned {α : Type} {f : α → Value} {w : World} {base : Nat} {e : TypeId} {v : Value} {xs : List α} (h : w.ownsRow base e 1 v xs.length (xs.map f)) (hm : xs.length ≤ maxLen) {w' : World} (hb : Below w.heap.size w w') : Reads f w' v xs := (Reads.of_owns h hm).below hb

theorem get_some {α : Type} {xs : List α} {k : Nat} (h : k < xs.length) : ∃ x, xs[k]? = some x := ⟨xs[k], List.getElem?_eq_getElem h⟩
/-- A round's element: its cell; that it is the k-th one, kept from the walk. -/
theorem cell_nth {α : Type} {f : α → Value} {w : World} {ao : Option Addr} {xs : List α} (hc : ∀ i x, xs[i]? = some x → ∃ b o, ao = some ⟨b, o, none⟩ ∧ w.cell? ⟨b, o + i, none⟩ = some (f x)) {k : Nat} (h : k < xs.length) :
    ∃ b o x, ao = some ⟨b, o, none⟩ ∧ Hid (xs[k]? = some x) ∧ w.cell? ⟨b, o + k, none⟩ = some (f x) := by
  obtain ⟨x, hx⟩ := get_some h
  obtain ⟨b, o, ha, hcx⟩ := hc k x hx
  exact ⟨b, o, x, ha, hx, hcx⟩
theorem below_setRow' {B : Nat} {a w : World} (h : Below B a w) {g : Nat} (hg : B ≤ g) (cs : Array Value) : Below B a (w.setRow g cs) :=
  h.trans ⟨rfl, rfl, rfl, by simp, fun k hk => setRow_other w g k cs (by omega)⟩
theorem take_snoc' {α : Type} {xs : List α} {k : Nat} {x : α} (h : xs[k]? = some x) : xs.take (k + 1) = xs.take k ++ [x] := by
  rw [List.take_add_one, h]; rfl

end Go.Proofs.Ytagbaoakablfpaa
