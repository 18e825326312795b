/- Parts of slices with one-cell elements: how they are cut, as what they read. No program in sight. Conditions: none. -/
import Derived.WalkKit
import Derived.Test.YtaembdlidaogdaaRead
namespace Go.Proofs.Ytaembdlidaogdaa
open Go.RowKit

/-- The part of a slice from lo on, so long. -/
def cutV (ao : Option Addr) (cap lo m : Nat) : Value := .slice (if cap = lo then ao else ao.map (·.add lo)) m (cap - lo)
theorem run_part {P : Program} {t e : TypeId} {i : TypeInfo} (ht : P.underlying t = some (.slice e)) (hi : P.info? e = some i) (hs : i.size = 1) (W : World) (ao : Option Addr) (n cap lo hi' : Nat) (h : lo ≤ hi') (h2 : hi' ≤ cap) :
    (Instr.sliceAt t (.slice ao n cap) (some (.int .i64 lo)) (some (.int .i64 hi')) none).run P W = .ok (cutV ao cap lo (hi' - lo)) W := by
  have he : P.elem t = e := by simp [Program.elem, ht]
  have ht' : P.underlying t = some (.slice (P.elem t)) := by rw [he, ht]
  rw [run_sliceAt_slice W t _ _ _ _ ht', run_slice_lh W t ao n cap ht' .i64 .i64 lo hi' (by omega) (by omega) (by omega)]
  simp [sizeOf, typeInfo, he, hi, hs, sliced, cutV]
theorem run_front {P : Program} {t e : TypeId} {i : TypeInfo} (ht : P.underlying t = some (.slice e)) (hi : P.info? e = some i) (hs : i.size = 1) (W : World) (ao : Option Addr) (n cap k : Nat) (h : k ≤ cap) :
    (Instr.sliceAt t (.slice ao n cap) none (some (.int .i64 k)) none).run P W = .ok (.slice ao k cap) W := by
  have he : P.elem t = e := by simp [Program.elem, ht]
  have ht' : P.underlying t = some (.slice (P.elem t)) := by rw [he, ht]
  rw [run_sliceAt_slice W t _ _ _ _ ht', run_slice_h W t ao n cap ht' .i64 k (by omega) (by omega)]
  simp [sizeOf, typeInfo, he, hi, hs, sliced, Addr.add]
theorem run_back {P : Program} {t e : TypeId} {i : TypeInfo} (ht : P.underlying t = some (.slice e)) (hi : P.info? e = some i) (hs : i.size = 1) (W : World) (ao : Option Addr) (n cap k : Nat) (h : k ≤ n) :
    (Instr.sliceAt t (.slice ao n cap) (some (.int .i64 k)) none none).run P W = .ok (cutV ao cap k (n - k)) W := by
  have he : P.elem t = e := by simp [Program.elem, ht]
  have ht' : P.underlying t = some (.slice (P.elem t)) := by rw [he, ht]
  rw [run_sliceAt_slice W t _ _ _ _ ht', run_slice_l W t ao n cap ht' .i64 k (by omega) (by omega)]
  simp [sizeOf, typeInfo, he, hi, hs, sliced, cutV]

theorem reads_cut {α : Type} {f : α → Value} {w : World} {ao : Option Addr} {n cap : Nat} {xs : List α} (h : Reads f w (.slice ao n cap) xs) {lo m : Nat} (hl : lo + m ≤ xs.length) : Reads f w (cutV ao cap lo m) ((xs.drop lo).take m) := by
  obtain ⟨hm, ao', cap', hv, ⟨h1, h2⟩, hc⟩ := h
  cases hv
  have hlen : ((xs.drop lo).take m).length = m := by simp; omega
  refine ⟨by omega, _, _, by rw [hlen]; rfl, ⟨by omega, fun hn => ?_⟩, fun i x hx => ?_⟩
  · split at hn
    · have := h2 hn; omega
    · cases ao with
      | none => have := h2 rfl; omega
      | some a => simp at hn
  · rw [List.getElem?_take] at hx
    split at hx
    · rw [List.getElem?_drop] at hx
      obtain ⟨b, o, rfl, hcell⟩ := hc _ x hx
      have hi := (List.getElem?_eq_some_iff.1 hx).1
      rw [if_neg (by omega)]
      exact ⟨b, o + lo, by simp [Addr.add], by rw [Nat.add_assoc]; exact hcell⟩
    · cases hx
theorem reads_front {α : Type} {f : α → Value} {w : World} {ao : Option Addr} {n cap : Nat} {xs : List α} (h : Reads f w (.slice ao n cap) xs) {m : Nat} (hl : m ≤ xs.length) : Reads f w (.slice ao m cap) (xs.take m) := by
  obtain ⟨hm, ao', cap', hv, ⟨h1, h2⟩, hc⟩ := h
  cases hv
  have hlen : (xs.take m).length = m := by simp; omega
  refine ⟨by omega, _, _, by rw [hlen], ⟨by omega, h2⟩, fun i x hx => ?_⟩
  rw [List.getElem?_take] at hx
  split at hx
  · exact hc i x hx
  · cases hx
theorem reads_back {α : Type} {f : α → Value} {w : World} {ao : Option Addr} {n cap : Nat} {xs : List α} (h : Reads f w (.slice ao n cap) xs) {k : Nat} (hk : k ≤ xs.length) : Reads f w (cutV ao cap k (xs.length - k)) (xs.drop k) := by
  have := reads_cut h (lo := k) (m := xs.length - k) (by omega)
  rwa [List.take_of_length_le (by simp)] at this

end Go.Proofs.Ytaembdlidaogdaa
