/- The contract of portageref11.Scan. Conditions: the row is not longer than 2^24 (the statement's bound on the arguments is lower). -/
import Derived.Test.YtaembdlidaogdaaRecRFirst
import Derived.Test.YtaembdlidaogdaaRecOut
namespace Go.Proofs.Ytaembdlidaogdaa
open Go.RowKit

theorem infoBytes : (Try.prog.info? 22).map (fun i => (i.zero, i.size, i.bytes)) = some (some (.slice none 0 0), 1, 24) := by kernel_rfl
/-- What a walk over a row's records needs of them. -/
def Steps (row : List Int) (ps : List (List Int)) : Prop := ps.length ≤ row.length ∧ ∀ k, k ≤ ps.length → fst (row.drop (place ps k)) = ps[k]? ∧ place ps k ≤ row.length
theorem steps_recs (row : List Int) : Steps row (recs row) := ⟨recs_len row, fun _ h => recs_step row h⟩
/-- What Scan gives. -/
def ScanR (ps : List (List Int)) (w : World) (e : Ending) (w' : World) : Prop :=
  ∃ u, e = .returned (.tuple #[u, .int .i64 (place ps ps.length : Nat)]) ∧ OutAt w.heap.size w' u ps ∧ Below w.heap.size w w'

set_option maxRecDepth 100000 in
set_option maxHeartbeats 1000000 in
theorem rscan_any (v : Value) (row : List Int) (ps : List (List Int)) (hs : Hid (Steps row ps)) (hw : Hid (∀ n ∈ row, (Lit.int .u8 n).wf = true)) (hlim : row.length ≤ 16777216) (w : World) (hr : Reads (Value.int .u8) w v row) :
    Calls Try.prog 15 #[v] w (ScanR ps w) := by
  obtain ⟨ao, cap, rfl, hcap⟩ : ∃ ao cap, v = .slice ao row.length cap ∧ row.length ≤ cap := by
    obtain ⟨_, ao, cap, h, ⟨h2, _⟩, _⟩ := hr
    exact ⟨ao, cap, h, h2⟩
  have hlen := hs.out.1
  obtain ⟨i1, hi1, hz1⟩ := cut_info
  obtain ⟨j0, hj, hy0, hy1, hy2⟩ := info_parts infoBytes
  have HR := Lib.hid hr
  clear hr
  go_enter Try.func15, Try.ntmps15
  go_wp2
  go_loopw [4, 5] (fun o k wr => ∃ (i : Nat) (qs : List (List Int)), i ≤ ps.length ∧ Hid (qs = ps.take i) ∧ k = .int .i64 (place ps i : Nat) ∧ OutAt w.heap.size wr o qs ∧ Below w.heap.size w wr) (fun _ k _ => row.length + 1 - (intOf k).toNat)
  case atStart => exact ⟨0, [], by omega, rfl, by rw [place_zero]; rfl, OutAt.nil (Nat.le_refl _) _ rfl, bl_alloc (bl_refl w) _⟩
  case round =>
    obtain ⟨i, qs, hi, hqs, rfl, hO, hB⟩ := hrel
    have hql : qs.length = i := by rw [hqs.out, List.length_take]; omega
    obtain ⟨hf, hpl⟩ := hs.out.2 i hi
    have hrd := reads_back (HR.out.below hB) hpl
    have hnx := fun p => place_succ (ps := ps) (k := i) (p := p)
    have hle := fun h => (hs.out.2 (i + 1) h).2
    have hend := fun h : i = ps.length => show place ps ps.length = place ps i by rw [h]
    generalize place ps i = P at hf hpl hrd hnx hend ⊢
    have hcut : ∀ W, (Instr.sliceAt 22 (.slice ao row.length cap) (some (.int .i64 (P : Int))) none none).run Try.prog W = .ok (cutV ao cap P (row.length - P)) W := fun W => run_back (P := Try.prog) Try.underlying22 hi1 hz1 W ao row.length cap _ hpl
    have hdw : Hid (∀ n ∈ row.drop P, (Lit.int .u8 n).wf = true) := Lib.hid fun n hn => hw.out n (List.mem_of_mem_drop hn)
    have hrl : (row.drop P).length = row.length - P := List.length_drop
    rw [← hrl] at hcut
    have hrd : Reads (Value.int .u8) wr (cutV ao cap P (row.drop P).length) (row.drop P) := by rw [hrl]; exact hrd
    obtain ⟨rw', hrw⟩ : ∃ r, row.drop P = r := ⟨_, rfl⟩
    rw [hrw] at hcut hrd hdw hf
    have hcall := rfirst_any _ _ hdw wr hrd
    unfold cutV at hcut hcall
    generalize (if cap = P then ao else ao.map (·.add P)) = qo at hcut hcall
    have HC := Lib.hid hcall
    have HI := Lib.hid hi
    have HQL := Lib.hid hql
    clear hcall hrd hdw hi hrl hrw hql
    obtain ⟨vs, hvl, hvo, hvx⟩ := hO
    obtain ⟨oo, oc, rfl⟩ := owns_form3 hvo
    have HVL := Lib.hid hvl
    have HVO := Lib.hid hvo
    clear hvo hvl
    by_cases hlt : (P : Int) < (row.length : Int)
    · cases hp : ps[i]? with
      | none =>
        have HEND := Lib.hid (hend (by have := List.getElem?_eq_none_iff.1 hp; have := HI.out; omega))
        have HP := Lib.hid hp
        have HF := Lib.hid (hf.trans hp)
        clear hp hf hnx hend hle
        go_wp2_with fail
        refine HC.out.mono ?_
        rintro e w1 ⟨u, rfl, -, hb1⟩
        rw [(fst_none HF.out).2]
        go_wp2
        go_ret2
        have e2 : qs = ps := hqs.out.trans (List.take_of_length_le (List.getElem?_eq_none_iff.1 HP.out))
        refine ⟨_, by rw [HEND.out]; rfl, ?_, bl_trans hB hb1⟩
        rw [← e2]
        have hOO : OutAt w.heap.size wr (.slice oo qs.length oc) qs := ⟨vs, HVL.out, HVO.out, hvx⟩
        exact hOO.bl hb1
      | some p =>
        have HP := Lib.hid hp
        have hf2 := fst_some (hf.trans hp)
        have hil := (List.getElem?_eq_some_iff.1 hp).1
        have hN := hnx p hp
        have hpp := hle hil
        rw [hN] at hpp
        have HN := Lib.hid hN
        clear hp hf hnx hend hle hN
        have c2 : wrap64 ((P : Int) + (8 + (p.length : Int))) = (P : Int) + (8 + (p.length : Int)) := by unfold wrap64; omega
        have b0 : (((8 + p.length : Nat) : Int) == 0) = false := by simp; omega
        have HF1 := Lib.hid hf2.1
        have HF2 := Lib.hid hf2.2
        have A1 : qs.length + 1 ≤ maxLen := by rw [HQL.out]; simp only [maxLen]; omega
        have A2 : (qs.length + 1) * 24 ≤ 140737488355328 := by rw [HQL.out]; omega
        clear hf2
        go_wp2_with fail
        refine HC.out.mono ?_
        rintro e w1 ⟨u, rfl, hu, hb1⟩
        rw [HF2.out]
        rw [HF1.out] at hu
        have HU := Lib.hid hu
        obtain ⟨uo, uc, rfl⟩ := owns_form3 hu
        have hOO : OutAt w.heap.size wr (.slice oo qs.length oc) qs := ⟨vs, HVL.out, HVO.out, hvx⟩
        obtain ⟨vs2, hvl2, hvo2, hvx2⟩ := (hOO.bl hb1).bl (bl_alloc (bl_refl w1) (.cells #[.slice uo p.length uc] 22))
        have HVL2 := Lib.hid hvl2
        clear hvl2 hOO hu
        have hbb := bl_alloc (bl_refl w1) (.cells #[.slice uo p.length uc] 22)
        have HSZ := Lib.hid (bl_trans hB (bl_trans hb1 hbb)).size
        go_wp2_with (at_builtin; refine wpList_append_r _ rfl _ _ 30 rfl w.heap.size 22 j0 (.slice none 0 0) 24 Try.underlying30 hj hy0 hy1 hy2 rfl _ _ _ rfl hvo2 id _ [.slice uo p.length uc] rfl (reads_one id _ _ _) (by simp [Value.oneCell']) A1 A2 HSZ.out ?_; intro o2 w2 hO2 hg2 hne2)
        go_roundw
        case rel =>
          refine ⟨i + 1, qs ++ [p], by omega, Lib.hid ?_, ?_, ?_, bl_grown (bl_trans hB (bl_trans hb1 hbb)) hg2 (fun k hk => (hvo2.lt k hk).1)⟩
          · rw [take_snoc' HP.out, hqs.out]
          · rw [HN.out]; go_num
          · exact OutAt.push HVL2.out hvo2 hvx2 (owns_low (owns_bl HU.out hbb) hB.size) hO2 hg2
        case measure => simp [intOf]; omega
    · have HP : ps[i]? = none := by
        cases hp : ps[i]? with
        | none => rfl
        | some p =>
          have h1 := fst_le (hf.trans hp)
          have h2 := hle (List.getElem?_eq_some_iff.1 hp).1
          rw [hnx p hp] at h2
          omega
      have HEND := Lib.hid (hend (by have := List.getElem?_eq_none_iff.1 HP; have := HI.out; omega))
      have HP := Lib.hid HP
      clear hf hnx hend hle
      go_wp2
      go_ret2
      have e2 : qs = ps := hqs.out.trans (List.take_of_length_le (List.getElem?_eq_none_iff.1 HP.out))
      refine ⟨_, by rw [HEND.out]; rfl, ?_, hB⟩
      rw [← e2]
      exact ⟨vs, HVL.out, HVO.out, hvx⟩

end Go.Proofs.Ytaembdlidaogdaa
