/- A slice of slices of bytes reads as a list of lists; portageref03.Same at two lists that are one. Conditions: none. -/
import Derived.WalkKit
import Derived.Lib.Hide
import Derived.BigQuiet
import Derived.Test.YtagbaoakablfpaaFr
import Derived.Test.YtagbaoakablfpaaStr
namespace Go.Proofs.Ytagbaoakablfpaa
open Go.RowKit

/-- A slice of slices of bytes reads as a list of lists. -/
def Lst (w : World) (v : Value) (ps : List (List Int)) : Prop :=
  ∃ vs : List Value, vs.length = ps.length ∧ Reads id w v vs ∧ ∀ (i : Nat) (x : Value) (p : List Int), vs[i]? = some x → ps[i]? = some p → Reads (Value.int .u8) w x p
theorem Lst.of_pays {F : Nat → Prop} {w : World} {v : Value} {ps : List (List Int)} (h : Pays F w v ps) : Lst w v ps := by
  obtain ⟨vs, h1, h2, h3⟩ := h
  exact ⟨vs, h1, h2.1, fun i x p hx hp => (h3 i x p hx hp).1.1⟩
theorem Lst.below {w w' : World} {v : Value} {ps : List (List Int)} (h : Lst w v ps) (hb : Below w.heap.size w w') : Lst w' v ps := by
  obtain ⟨vs, h1, h2, h3⟩ := h
  exact ⟨vs, h1, h2.below hb, fun i x p hx hp => (h3 i x p hx hp).below hb⟩
theorem Lst.form {w : World} {v : Value} {ps : List (List Int)} (h : Lst w v ps) : ∃ ao cap, v = .slice ao ps.length cap ∧ ps.length ≤ cap ∧ ps.length ≤ maxLen := by
  obtain ⟨vs, h1, ⟨hm, ao, cap, rfl, ⟨hc, _⟩, _⟩, _⟩ := h
  exact ⟨ao, cap, by rw [h1], by omega, by omega⟩
theorem Lst.at_ {w : World} {ao : Option Addr} {n cap : Nat} {ps : List (List Int)} (h : Lst w (.slice ao n cap) ps) {i : Nat} {p : List Int} (hp : ps[i]? = some p) :
    ∃ b o x, ao = some ⟨b, o, none⟩ ∧ w.cell? ⟨b, o + i, none⟩ = some x ∧ Reads (Value.int .u8) w x p := by
  obtain ⟨vs, h1, ⟨hm, ao', cap', hv, _, hc⟩, h3⟩ := h
  cases hv
  have hi : i < ps.length := (List.getElem?_eq_some_iff.1 hp).1
  obtain ⟨x, hx⟩ := get_some (xs := vs) (k := i) (by omega)
  obtain ⟨b, o, rfl, hcell⟩ := hc i x hx
  exact ⟨b, o, x, rfl, hcell, h3 i x p hx hp⟩

set_option maxRecDepth 100000 in
set_option maxHeartbeats 1000000 in
theorem same03_eq (v u : Value) (ps : List (List Int)) (w : World) (h1 : Lst w v ps) (h2 : Lst w u ps) :
    Calls Try.prog 23 #[v, u] w fun e w' => e = .returned (.bool true) ∧ Below w.heap.size w w' := by
  obtain ⟨ao1, cap1, rfl, hc1, hm1⟩ := h1.form
  obtain ⟨ao2, cap2, rfl, hc2, _⟩ := h2.form
  simp only [maxLen] at hm1
  go_enter Try.func23, Try.ntmps23
  go_wp2
  go_loopw [5] (fun k wr => ∃ i : Nat, i ≤ ps.length ∧ k = .int .i64 i ∧ Below w.heap.size w wr) (fun k _ => ps.length - (intOf k).toNat)
  case atStart => exact ⟨0, by omega, rfl, Below.refl _ _⟩
  case round =>
    obtain ⟨k, hk, rfl, hB⟩ := hrel
    by_cases hlt : k < ps.length
    · obtain ⟨p, hp⟩ := get_some hlt
      obtain ⟨b1, o1, x1, rfl, hx1, hr1⟩ := (h1.below hB).at_ hp
      obtain ⟨b2, o2, x2, rfl, hx2, hr2⟩ := (h2.below hB).at_ hp
      have i1 : (k : Int) < (ps.length : Int) := by omega
      have v1 : ∀ nq, (convert 32 9 x1).run Try.prog (wr.drewN nq) = .ok (.string (strOfNums p)) (wr.drewN nq) := fun nq => conv_reads (hr1.below (bl_drewN (bl_refl _) nq))
      have v2 : ∀ nq, (convert 32 9 x2).run Try.prog (wr.drewN nq) = .ok (.string (strOfNums p)) (wr.drewN nq) := fun nq => conv_reads (hr2.below (bl_drewN (bl_refl _) nq))
      clear hp hr1 hr2 h1 h2
      go_wp2_with fail
      go_quiet (fail)
      go_wp2
      go_roundw
      case rel => exact ⟨k + 1, by omega, by go_num, below_drewN hB _⟩
      case measure => simp [intOf]; omega
    · obtain rfl : k = ps.length := by omega
      clear h1 h2
      go_wp2
      go_ret
      exact ⟨rfl, hB⟩

end Go.Proofs.Ytagbaoakablfpaa
