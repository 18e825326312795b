/- The contracts of record.First and of portageref11.First. Conditions: as they stand. -/
import Derived.WalkKit
import Derived.Lib.Hide
import Derived.Handy
import Derived.Test.YtaembdlidaogdaaRecFst2
namespace Go.Proofs.Ytaembdlidaogdaa
open Go.RowKit

/-- What First gives. -/
def FstR (row : List Int) (w : World) (e : Ending) (w' : World) : Prop :=
  ∃ u, e = .returned (.tuple #[u, .int .i64 (fstN row : Nat)]) ∧ w'.ownsRow w.heap.size 5 1 u (fstP row).length ((fstP row).map (Value.int .u8)) ∧ Below w.heap.size w w'
theorem fstR_none {row : List Int} {w w' : World} (h : fst row = none) (hb : Below w.heap.size w w') : FstR row w (.returned (.tuple #[.slice none 0 0, .int .i64 0])) w' := by
  refine ⟨.slice none 0 0, ?_, ?_, hb⟩
  · rw [(fst_none h).2]; rfl
  · rw [(fst_none h).1]; exact ⟨by simp, .inl ⟨rfl, rfl⟩⟩

/-- The parts of a row that begins with a record's head. -/
theorem row_parts {row : List Int} (hw : Hid (∀ n ∈ row, (Lit.int .u8 n).wf = true)) : Hid (∀ n ∈ (row.drop 8).take (getTo row 0 4), (Lit.int .u8 n).wf = true) ∧ Hid (∀ n ∈ row.take 4, (Lit.int .u8 n).wf = true) :=
  ⟨Lib.hid fun n hn => hw.out n (List.mem_of_mem_drop (List.mem_of_mem_take hn)), Lib.hid fun n hn => hw.out n (List.mem_of_mem_take hn)⟩
theorem cut_info : ∃ i, Try.prog.info? 5 = some i ∧ i.size = 1 := by
  obtain ⟨i0, hi, hz0, hz1, hz2⟩ := info_parts infoByte
  exact ⟨i0, hi, hz1⟩
theorem first_bad (ao : Option Addr) (cap : Nat) (row : List Int) (hw : Hid (∀ n ∈ row, (Lit.int .u8 n).wf = true)) (w : World) (hr : Reads (Value.int .u8) w (.slice ao row.length cap) row) (hm : row.length ≤ 9223372036854775807)
    (h : row.length < 8 ∨ getTo row 0 4 = 0 ∨ 65536 < getTo row 0 4 ∨ row.length < 8 + getTo row 0 4) : Calls Try.prog 12 #[.slice ao row.length cap] w (NoneR w) := by
  by_cases h8 : row.length < 8
  · exact first_short ao row.length cap _ _ w h8 (get_any (.slice ao row.length cap) row 0 4 (by omega) hw w hr)
  · have g1 := get_good (.slice ao row.length cap) row 0 4 (by omega) (by omega) (by omega) hw w hr
    have g2 := get_good (.slice ao row.length cap) row 4 4 (by omega) (by omega) (by omega) hw w hr
    by_cases d1 : getTo row 0 4 = 0
    · rw [d1] at g1
      exact first_zero ao row.length cap _ w g1 g2
    · have b1 : ((getTo row 0 4 : Int) == 0) = false := by simp; omega
      by_cases d2 : 65536 < getTo row 0 4
      · exact first_over ao row.length cap _ _ w b1 (by omega) g1 g2
      · exact first_cut ao row.length cap _ _ w (by omega) hm b1 (by omega) (by omega) g1 g2
theorem first_any (v : Value) (row : List Int) (hw : Hid (∀ n ∈ row, (Lit.int .u8 n).wf = true)) (w : World) (hr : Reads (Value.int .u8) w v row) :
    Calls Try.prog 12 #[v] w (FstR row w) := by
  obtain ⟨ao, cap, rfl, hcap⟩ : ∃ ao cap, v = .slice ao row.length cap ∧ row.length ≤ cap := by
    obtain ⟨_, ao, cap, h, ⟨h2, _⟩, _⟩ := hr
    exact ⟨ao, cap, h, h2⟩
  have hmx := hr.1
  unfold maxLen at hmx
  by_cases hc : row.length < 8 ∨ getTo row 0 4 = 0 ∨ 65536 < getTo row 0 4 ∨ row.length < 8 + getTo row 0 4
  · refine (first_bad ao cap row hw w hr (by omega) hc).mono ?_
    rintro e w' ⟨rfl, rfl⟩
    exact fstR_none (fst_no hc) (bl_refl _)
  · have hfe := fst_eq hc
    have h1 : 8 + getTo row 0 4 ≤ row.length := by omega
    have h6 : getTo row 0 4 ≤ 65536 := by omega
    have h0 : getTo row 0 4 ≠ 0 := by omega
    have h8 : 8 ≤ row.length := by omega
    clear hc
    have g1 := get_good (.slice ao row.length cap) row 0 4 (by omega) (by omega) (by omega) hw w hr
    have g2 := get_good (.slice ao row.length cap) row 4 4 (by omega) (by omega) (by omega) hw w hr
    have hpl : ((row.drop 8).take (getTo row 0 4)).length = getTo row 0 4 := by simp; omega
    have HR := reads_cut hr (lo := 8) (m := getTo row 0 4) h1
    have HF := reads_front hr (m := 4) (by omega)
    obtain ⟨hpw, hfw⟩ := row_parts hw
    obtain ⟨i0, hi, hz⟩ := cut_info
    have hcut : ∀ W, (Instr.sliceAt 22 (.slice ao row.length cap) (some (.int .i64 8)) (some (.int .i64 (8 + (getTo row 0 4 : Int)))) none).run Try.prog W = .ok (cutV ao cap 8 (getTo row 0 4)) W := fun W => by
      have := run_part (P := Try.prog) Try.underlying22 hi hz W ao row.length cap 8 (8 + getTo row 0 4) (by omega) (by omega)
      rw [show 8 + getTo row 0 4 - 8 = getTo row 0 4 by omega, show ((8 + getTo row 0 4 : Nat) : Int) = 8 + (getTo row 0 4 : Int) by omega] at this
      exact this
    have hfr : ∀ W, (Instr.sliceAt 22 (.slice ao row.length cap) none (some (.int .i64 4)) none).run Try.prog W = .ok (.slice ao 4 cap) W := fun W => run_front (P := Try.prog) Try.underlying22 hi hz W ao row.length cap 4 (by omega)
    have hL := lst_two HF HR
    have hsum := sum_any _ [row.take 4, (row.drop 8).take (getTo row 0 4)] (by
      intro q hq n hn
      simp only [List.mem_cons, List.not_mem_nil, or_false] at hq
      rcases hq with rfl | rfl
      · exact hfw.out n hn
      · exact hpw.out n hn) _ hL
    rw [show [row.take 4, (row.drop 8).take (getTo row 0 4)].flatten = row.take 4 ++ (row.drop 8).take (getTo row 0 4) by simp] at hsum
    have hB : Below w.heap.size w (w.alloc (.cells #[.slice ao 4 cap, cutV ao cap 8 (getTo row 0 4)] 22)) := bl_alloc (bl_refl w) _
    have HR2 := (HR.below hB).below (bl_alloc (bl_refl _) (.cells #[] 5))
    have b1 : ((getTo row 0 4 : Int) == 0) = false := by simp; omega
    have c8 : IntKind.u64.wrap (wrap64 ((row.length : Int) - 8)) = ((row.length - 8 : Nat) : Int) := by unfold wrap64; simp only [IntKind.wrap_u64]; omega
    have cw : wrap64 (8 + (getTo row 0 4 : Int)) = 8 + (getTo row 0 4 : Int) := by unfold wrap64; omega
    have ci : IntKind.i64.wrap (getTo row 0 4 : Int) = (getTo row 0 4 : Int) := IntWalk.i64_in _ (by omega)
    have ct := wrap_u64 (n := sumN (row.take 4 ++ (row.drop 8).take (getTo row 0 4))) (by have := sumN_lt (row.take 4 ++ (row.drop 8).take (getTo row 0 4)); omega)
    by_cases hS : sumN (row.take 4 ++ (row.drop 8).take (getTo row 0 4)) = getTo row 4 4
    · rw [if_pos hS] at hfe
      have hT : ((sumN (row.take 4 ++ (row.drop 8).take (getTo row 0 4)) : Int) != (getTo row 4 4 : Int)) = false := by simp; omega
      refine (first_on ao _ row.length cap _ _ _ _ w _ hpl b1 (by omega) c8 (by omega) ci cw ct hT hcut hfr g1 g2 HR2 hsum).mono ?_
      rintro e w' ⟨u, rfl, hO, hb⟩
      refine ⟨u, ?_, ?_, bl_trans hB hb⟩
      · rw [(fst_some hfe).2, hpl]; rfl
      · rw [(fst_some hfe).1]; exact owns_low hO hB.size
    · rw [if_neg hS] at hfe
      have hT : ((sumN (row.take 4 ++ (row.drop 8).take (getTo row 0 4)) : Int) != (getTo row 4 4 : Int)) = true := by simp; omega
      refine (first_off ao _ row.length cap _ _ _ _ w b1 (by omega) c8 (by omega) ci cw ct hT hcut hfr g1 g2 hsum).mono ?_
      rintro e w' ⟨rfl, rfl⟩
      exact fstR_none hfe hB

end Go.Proofs.Ytaembdlidaogdaa
