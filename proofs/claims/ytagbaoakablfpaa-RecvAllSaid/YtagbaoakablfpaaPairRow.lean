/- portagelaw08's pair.row: what was told is a beginning of what was pushed. Conditions: as they stand. -/
import Derived.Test.YtagbaoakablfpaaPairStep
import Derived.Test.YtagbaoakablfpaaLst
namespace Go.Proofs.Ytagbaoakablfpaa
open Go.RowKit

theorem RowsAt.lst {B : Nat} {col : Nat → Nat} {c : Nat} {w : World} {v : Value} {ps : List (List Int)} (h : RowsAt B col c w v ps) (hm : ps.length ≤ 1000000) : Lst w v ps := by
  obtain ⟨vs, h1, h2, h3, h4⟩ := h
  exact ⟨vs, h1, Reads.of_owns (by rw [List.map_id]; exact h2) (by unfold maxLen; omega), fun i x p hx hp => (h4 i x p hx hp).1.1⟩
theorem Lst.take {w : World} {ao : Option Addr} {n cap : Nat} {ps : List (List Int)} (h : Lst w (.slice ao n cap) ps) {k : Nat} (hk : k ≤ ps.length) : Lst w (.slice ao k cap) (ps.take k) := by
  obtain ⟨vs, h1, ⟨hm, ao', cap', hv, ⟨hc1, hc2⟩, hc⟩, h3⟩ := h
  cases hv
  refine ⟨vs.take k, by rw [List.length_take, List.length_take]; omega, ⟨by rw [List.length_take]; omega, _, _, by rw [List.length_take, Nat.min_eq_left (by omega)], ⟨by rw [List.length_take]; omega, hc2⟩, fun i x hx => ?_⟩, fun i x p hx hp => ?_⟩
  · rw [List.getElem?_take] at hx
    split at hx
    · exact hc i x hx
    · cases hx
  · rw [List.getElem?_take] at hx hp
    split at hx
    · rename_i hi
      rw [if_pos hi] at hp
      exact h3 i x p hx hp
    · cases hx

set_option maxRecDepth 100000 in
set_option maxHeartbeats 2000000 in
theorem row_any (B : Nat) (col : Nat → Nat) (w : World) (pb sg rg : Nat) (pv wv tv : Value) (t : PSt) (h : PairAt B col w pb sg rg pv wv tv t) {n m : Nat} (hi : PInv n m t) (hm : m ≤ 100000) :
    Calls Try.prog 18 #[.pointer (some ⟨pb, 0, none⟩)] w fun e w' => e = .returned (.bool true) ∧ Below w.heap.size w w' := by
  have h1 := hi.len
  have h2 := hi.le2
  have h3 := hi.le1
  have ht := hi.told
  obtain ⟨e0, e1, e2, e3, e4⟩ := h.cells
  have hL1 := h.told.lst (by omega)
  have hL2 := h.pushed.lst (by omega)
  obtain ⟨to, tc, rfl, hc1, _⟩ := hL1.form
  obtain ⟨po, pc, rfl, hc2, _⟩ := hL2.form
  have hL3 := hL2.take (k := t.told.length) (by omega)
  rw [← ht] at hL3
  have HS := fun W : World => fun hb : Below w.heap.size w W => same03_eq _ _ t.told W (hL1.below hb) (hL3.below hb)
  have i1 : (t.told.length : Int) ≤ (t.pushed.length : Int) := by omega
  have i2 : (t.told.length : Int) ≤ (pc : Int) := by omega
  clear h hi e0 e1 e3 hL1 hL2 hL3 ht
  go_enter Try.func18, Try.ntmps18
  go_wp2_with fail
  go_region_held3 (fun w' => (w'.cell? ⟨pb, 2, none⟩ = some (.slice po t.pushed.length pc) ∧ w'.cell? ⟨pb, 4, none⟩ = some (.slice to t.told.length tc)) ∧ Below w.heap.size w w')
    (first | exact ⟨⟨e2, e4⟩, bl_drew (bl_refl w)⟩ | exact ⟨⟨below_cell hb4 e2, below_cell hb4 e4⟩, hb4⟩)
    (first | (go_at_call 23; refine (HS _ (by first | assumption | exact bl_drew (bl_refl _) | exact hHeld.2)).mono ?_; rintro e w4 ⟨rfl, hb4'⟩; have hb4 := bl_trans (bl_drew (bl_refl w)) hb4'; clear hb4'))
  go_wp2
  go_ret
  exact ⟨rfl, by assumption⟩

end Go.Proofs.Ytagbaoakablfpaa
