/- portageref11.First gives what record.First gives. Conditions: as they stand. -/
import Derived.Test.YtaembdlidaogdaaRecFstR
namespace Go.Proofs.Ytaembdlidaogdaa
open Go.RowKit

theorem str_ne {xs ys : List Int} (hx : ∀ n ∈ xs, (Lit.int .u8 n).wf = true) (hy : ∀ n ∈ ys, (Lit.int .u8 n).wf = true) (h : xs ≠ ys) : ((strOfNums xs).toList == (strOfNums ys).toList) = false := by
  rw [beq_eq_false_iff_ne]
  intro h2
  apply h
  refine str_inj hx hy ?_
  rw [ByteArray.toList_eq, ByteArray.toList_eq] at h2
  have h3 : (strOfNums xs).data = (strOfNums ys).data := Array.toList_inj.1 h2
  have e1 : strOfNums xs = ⟨(strOfNums xs).data⟩ := rfl
  have e2 : strOfNums ys = ⟨(strOfNums ys).data⟩ := rfl
  rw [e1, e2, h3]
theorem recB_wf {p : List Int} (hw : ∀ n ∈ p, (Lit.int .u8 n).wf = true) : ∀ n ∈ recB p, (Lit.int .u8 n).wf = true := by
  intro n hn
  unfold recB at hn
  rcases List.mem_append.1 hn with h1 | hn
  · rcases List.mem_append.1 h1 with h1 | h1
    · exact be_wf _ _ n h1
    · exact be_wf _ _ n h1
  · exact hw n hn

theorem rfirst_any (v : Value) (row : List Int) (hw : Hid (∀ n ∈ row, (Lit.int .u8 n).wf = true)) (w : World) (hr : Reads (Value.int .u8) w v row) :
    Calls Try.prog 13 #[v] w (FstR row w) := by
  obtain ⟨ao, cap, rfl, hcap⟩ : ∃ ao cap, v = .slice ao row.length cap ∧ row.length ≤ cap := by
    obtain ⟨_, ao, cap, h, ⟨h2, _⟩, _⟩ := hr
    exact ⟨ao, cap, h, h2⟩
  have hmx := hr.1
  unfold maxLen at hmx
  by_cases h4 : row.length < 4
  · refine (rfirst_short ao row.length cap w h4).mono ?_
    rintro e w' ⟨rfl, rfl⟩
    exact fstR_none (fst_no (.inl (by omega))) (bl_refl _)
  have g1 := rget_good (.slice ao row.length cap) row 0 4 (by omega) (by omega) (by omega) hw w hr
  by_cases d2 : 65536 < getTo row 0 4
  · refine (rfirst_over ao row.length cap _ w (by omega) g1).mono ?_
    rintro e w' ⟨rfl, rfl⟩
    exact fstR_none (fst_no (.inr (.inr (.inl d2)))) (bl_refl _)
  have cw : wrap64 (8 + (getTo row 0 4 : Int)) = 8 + (getTo row 0 4 : Int) := by unfold wrap64; omega
  have ci : IntKind.i64.wrap (getTo row 0 4 : Int) = (getTo row 0 4 : Int) := IntWalk.i64_in _ (by omega)
  by_cases d3 : row.length < 8 + getTo row 0 4
  · refine (rfirst_cut ao row.length cap _ w (by omega) ci cw (by omega) g1).mono ?_
    rintro e w' ⟨rfl, rfl⟩
    exact fstR_none (fst_no (.inr (.inr (.inr d3)))) (bl_refl _)
  have h1 : 8 + getTo row 0 4 ≤ row.length := by omega
  have hpl : ((row.drop 8).take (getTo row 0 4)).length = getTo row 0 4 := by simp; omega
  have HR := reads_cut hr (lo := 8) (m := getTo row 0 4) h1
  obtain ⟨hpw, hfw⟩ := row_parts hw
  obtain ⟨i0, hi, hz⟩ := cut_info
  have hcut : ∀ W, (Instr.sliceAt 22 (.slice ao row.length cap) (some (.int .i64 8)) (some (.int .i64 (8 + (getTo row 0 4 : Int)))) none).run Try.prog W = .ok (cutV ao cap 8 (getTo row 0 4)) W := fun W => by
    have := run_part (P := Try.prog) Try.underlying22 hi hz W ao row.length cap 8 (8 + getTo row 0 4) (by omega) (by omega)
    rw [show 8 + getTo row 0 4 - 8 = getTo row 0 4 by omega, show ((8 + getTo row 0 4 : Nat) : Int) = 8 + (getTo row 0 4 : Int) by omega] at this
    exact this
  have hput := rrecput_any _ _ hpw w HR
  by_cases h0 : getTo row 0 4 = 0
  · have hE : recE ((row.drop 8).take (getTo row 0 4)) = 2 := by unfold recE; rw [if_pos (by rw [hpl]; exact h0)]
    rw [hE] at hput
    refine (rfirst_nought ao _ row.length cap _ _ _ w (by omega) ci cw (by omega) hcut g1 hput).mono ?_
    rintro e w' ⟨rfl, hb⟩
    exact fstR_none (fst_no (.inr (.inl h0))) hb
  have hE := rec_ok h1 h0 (by omega)
  have hO : recO ((row.drop 8).take (getTo row 0 4)) = recB ((row.drop 8).take (getTo row 0 4)) := by unfold recO; rw [if_pos hE]
  rw [hE, hO] at hput
  have hql : (recB ((row.drop 8).take (getTo row 0 4))).length = 8 + getTo row 0 4 := by rw [recB_length, hpl]
  have hqm : (recB ((row.drop 8).take (getTo row 0 4))).length ≤ maxLen := by rw [hql]; simp only [maxLen]; omega
  have hfr : ∀ W, (Instr.sliceAt 22 (.slice ao row.length cap) none (some (.int .i64 (recB ((row.drop 8).take (getTo row 0 4))).length)) none).run Try.prog W = .ok (.slice ao (recB ((row.drop 8).take (getTo row 0 4))).length cap) W := fun W => run_front (P := Try.prog) Try.underlying22 hi hz W ao row.length cap _ (by omega)
  have HF := reads_front hr (m := (recB ((row.drop 8).take (getTo row 0 4))).length) (by omega)
  have hiff := fst_rec hw.out h1
  have hfe := fst_eq (row := row) (by omega)
  by_cases hS : sumN (row.take 4 ++ (row.drop 8).take (getTo row 0 4)) = getTo row 4 4
  · rw [if_pos hS] at hfe
    rw [hql, ← hiff.2 hS, ← hql] at HF
    refine (rfirst_on ao _ row.length cap _ _ _ _ hpl w (by omega) ci cw (by omega) hcut hfr hqm HF HR g1 hput).mono ?_
    rintro e w' ⟨u, rfl, hO, hb⟩
    refine ⟨u, ?_, ?_, hb⟩
    · rw [(fst_some hfe).2, hpl, hql]
    · rw [(fst_some hfe).1]; exact hO
  · rw [if_neg hS] at hfe
    have hne : ((strOfNums (recB ((row.drop 8).take (getTo row 0 4)))).toList == (strOfNums (row.take (recB ((row.drop 8).take (getTo row 0 4))).length)).toList) = false := by
      refine str_ne (recB_wf hpw.out) (fun n hn => hw.out n (List.mem_of_mem_take hn)) (fun h => hS (hiff.1 ?_))
      rw [hql] at h
      exact h
    refine (rfirst_off ao _ row.length cap _ _ _ _ w (by omega) ci cw (by omega) hcut hfr hqm HF hne g1 hput).mono ?_
    rintro e w' ⟨rfl, hb⟩
    exact fstR_none hfe hb

end Go.Proofs.Ytaembdlidaogdaa
