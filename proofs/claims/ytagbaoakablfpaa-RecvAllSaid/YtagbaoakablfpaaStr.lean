/- string(b) of whatever reads as bytes: its text. Conditions: none. -/
import Derived.WalkKit
import Derived.Laws.BytesArg
import Derived.OpenShut
import Derived.Test.YtagbaoakablfpaaRead
import Derived.Test.YtagbaoakablfpaaProg
namespace Go.Proofs.Ytagbaoakablfpaa
open Go.RowKit

theorem conv_reads {w : World} {v : Value} {xs : List Int} (h : Reads (Value.int .u8) w v xs) : (convert 32 9 v).run Try.prog w = .ok (.string (strOfNums xs)) w := by
  obtain ⟨_, ao, cap, rfl, _, hc⟩ := h
  cases xs with
  | nil =>
    cases ao with
    | none => exact run_convert_bytes_nil w 32 5 Try.underlying32 Try.underlying5 _ _ _ Try.underlying9
    | some a =>
      rw [run_convert_bytes_string w 32 9 5 _ _ _ Try.underlying32 Try.underlying5 Try.underlying9]
      have := run_bytesToString (P := Try.prog) w a 0 cap [] (by simpa using run_loadCells_list (P := Try.prog) w a [] (fun j v hj => by simp at hj))
      exact this
  | cons x xs =>
    obtain ⟨b, o, rfl, _⟩ := hc 0 x rfl
    refine run_convert_bytes_arg w 32 5 Try.underlying32 Try.underlying5 b o _ cap (x :: xs) rfl (fun i hi => ?_) _ Try.underlying9
    obtain ⟨y, hy⟩ := get_some hi
    obtain ⟨b', o', ha, hcell⟩ := hc i y hy
    cases ha
    rw [hcell, List.getD_eq_getElem?_getD, hy]
    rfl

theorem str_inj {xs ys : List Int} (hx : ∀ n ∈ xs, (Lit.int .u8 n).wf = true) (hy : ∀ n ∈ ys, (Lit.int .u8 n).wf = true) (h : strOfNums xs = strOfNums ys) : xs = ys := by
  have h2 : xs.map (fun n => UInt8.ofNat n.toNat) = ys.map (fun n => UInt8.ofNat n.toNat) := by rw [← strOfNums_data, ← strOfNums_data, h]
  clear h
  induction xs generalizing ys with
  | nil => cases ys with
    | nil => rfl
    | cons y ys => simp at h2
  | cons x xs ih =>
    cases ys with
    | nil => simp at h2
    | cons y ys =>
      simp only [List.map_cons, List.cons.injEq] at h2
      have bx := bounds_u8 (hx x (by simp))
      have bby := bounds_u8 (hy y (by simp))
      have h3 : (UInt8.ofNat x.toNat).toNat = (UInt8.ofNat y.toNat).toNat := by rw [h2.1]
      rw [UInt8.toNat_ofNat', UInt8.toNat_ofNat'] at h3
      rw [ih (fun n hn => hx n (by simp [hn])) (fun n hn => hy n (by simp [hn])) h2.2]
      have : x = y := by omega
      rw [this]

end Go.Proofs.Ytagbaoakablfpaa
