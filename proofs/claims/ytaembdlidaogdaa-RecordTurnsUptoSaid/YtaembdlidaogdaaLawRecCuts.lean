/- The walk of the statement RecordCuts. Conditions: the arguments' own; bulk at most 2^20. -/
import Derived.RegionTactic
import Derived.Test.YtaembdlidaogdaaRecAllR
import Derived.Test.YtaembdlidaogdaaRecAwake
namespace Go.Proofs.Ytaembdlidaogdaa
open Go.RowKit

theorem place_take (ks : List (List Int)) (k : Nat) (h : k ≤ ks.length) : place (ks.take k) (ks.take k).length = place ks k := by
  rw [place_row (ks.take k) _ (Nat.le_refl _), List.take_length, place_row ks k h]
theorem lst_front {w : World} {ao : Option Addr} {n cap : Nat} {ps : List (List Int)} (h : Lst w (.slice ao n cap) ps) {k : Nat} (hk : k ≤ ps.length) : Lst w (.slice ao k cap) (ps.take k) := by
  obtain ⟨vs, h1, h2, h3⟩ := h
  refine ⟨vs.take k, by simp [h1], reads_front h2 (by omega), fun i x p hx hp => ?_⟩
  rw [List.getElem?_take] at hx hp
  split at hx
  · rename_i hi
    rw [if_pos hi] at hp
    exact h3 i x p hx hp
  · cases hx
/-- What KA tells of the bytes and of the payloads. -/
theorem keep_each {B : Nat} {o k : Value} {ks : List (List Int)} {vs : List Value} {W : World} (h : KA B o k ks vs W) : ∀ p ∈ ks, p.length ≤ maxLen ∧ ∀ n ∈ p, (Lit.int .u8 n).wf = true := by
  intro p hp
  obtain ⟨i, hi, rfl⟩ := List.mem_iff_getElem.1 hp
  have hv : i < vs.length := by rw [h.len]; exact hi
  have := h.each i (vs[i]) (ks[i]) (List.getElem?_eq_getElem hv) (List.getElem?_eq_getElem hi)
  exact ⟨this.1.1, this.2.1⟩
theorem keep_wf {B : Nat} {o k : Value} {ks : List (List Int)} {vs : List Value} {W : World} (h : KA B o k ks vs W) : ∀ x ∈ rowB ks, (Lit.int .u8 x).wf = true := row_wf fun p hp => (keep_each h p hp).2
theorem rec_row {W : World} {B : Nat} {o : Value} {ks : List (List Int)} {row : List Int} (h : W.ownsRow B 5 1 o (rowB ks).length ((rowB ks).map (Value.int .u8))) (hr : rowB ks = row) (hl : row.length ≤ 9437184) : Reads (Value.int .u8) W o row := by
  subst hr
  exact Reads.of_owns h (by unfold maxLen; omega)
theorem Reads.cap {α : Type} {f : α → Value} {w : World} {ao : Option Addr} {n cap : Nat} {xs : List α} (h : Reads f w (.slice ao n cap) xs) : n ≤ cap := by
  obtain ⟨_, ao', cap', hv, ⟨h1, _⟩, _⟩ := h
  cases hv
  exact h1
theorem Lst.cap {w : World} {ao : Option Addr} {n cap : Nat} {ps : List (List Int)} (h : Lst w (.slice ao n cap) ps) : n ≤ cap := by
  obtain ⟨vs, _, h2, _⟩ := h
  exact h2.cap
theorem take_lim {row : List Int} {n : Nat} (h : row.length ≤ 9437184) : (row.take n).length ≤ 16777216 := Nat.le_trans (by rw [List.length_take]; exact Nat.min_le_right _ _) (Nat.le_trans h (by decide))
theorem keep_lim {n : Nat} (h : n ≤ 1048576) : n ≤ maxLen := Nat.le_trans h (by decide)
theorem cut_infos : ∃ i, Try.prog.info? 22 = some i ∧ i.size = 1 := by
  obtain ⟨i0, hi, hz0, hz1, hz2⟩ := info_parts infoBytes
  exact ⟨i0, hi, hz1⟩

theorem cut_wrap {C r n : Nat} (h : C % (r + 1) = n) (hr : r ≤ 9437184) : wrap64 ((C : Int) % ((r : Int) + 1)) = (n : Int) := by
  have hl : n ≤ r := by have := Nat.mod_lt C (show 0 < r + 1 by omega); omega
  have e : (C : Int) % ((r : Int) + 1) = (n : Int) := by rw [← h]; rfl
  rw [e]; unfold wrap64; omega
theorem at_plus {E n l : Nat} (h1 : E ≤ n) (h2 : n ≤ 9437184) (h3 : l ≤ 65536) : wrap64 ((E : Int) + 8) = (E : Int) + 8 ∧ wrap64 ((E : Int) + 8 + (l : Int)) = (E : Int) + 8 + (l : Int) := by unfold wrap64; omega

set_option maxRecDepth 100000 in
set_option maxHeartbeats 400000 in
theorem walkRecordCuts (v : Value) (l : List (List Int)) (cut : Int) (hcut : (Lit.int .i64 cut).wf = true) (w : World) (hl : ListsAt w.heap.size w v l) (hbk : bulkL l ≤ 1048576) :
    Calls Try.prog 6 #[v, .int .i64 cut] w fun e w' => e = .returned (.bool true) ∧ Below w.heap.size w w' := by
  have hcb := bounds_i64 hcut
  obtain ⟨C, hC, hCl⟩ : ∃ C : Nat, IntKind.u64.wrap cut = (C : Int) ∧ C < 18446744073709551616 := ⟨(IntKind.u64.wrap cut).toNat, by rw [IntKind.wrap_u64]; omega, by rw [IntKind.wrap_u64]; omega⟩
  obtain ⟨ks, hks⟩ : ∃ ks, keepL l = ks := ⟨_, rfl⟩
  have hfit : ∀ p ∈ ks, recE p = 0 := by rw [← hks]; exact keep_fits
  have hrl : (rowB ks).length ≤ 9437184 := by rw [← hks]; have := rowB_le l; omega
  have hkl : ks.length ≤ 1048576 := by rw [← hks]; have := keep_le l; have := bulkL_len l; omega
  obtain ⟨row, hrow⟩ : ∃ row, rowB ks = row := ⟨_, rfl⟩
  have hall := rall_any v l w hl hbk
  obtain ⟨i1, hi1, hz1⟩ := cut_info
  obtain ⟨j1, hj1, hy1⟩ := cut_infos
  have HALL := Lib.hid hall
  have HKS := Lib.hid hks
  have HFIT := Lib.hid hfit
  rw [hrow] at hrl
  have HROW := Lib.hid hrow
  clear hall hks hfit hl hbk hrow
  obtain ⟨n, hn, hnl⟩ : ∃ n : Nat, C % (row.length + 1) = n ∧ n ≤ row.length := ⟨_, rfl, by have := Nat.mod_lt C (show 0 < row.length + 1 by omega); omega⟩
  obtain ⟨k, hk1, hk2, hk3, hk4⟩ := recs_cut HFIT.out (n := n) (by rw [HROW.out]; exact hnl)
  go_enter Try.func6, Try.ntmps6
  go_wp2_with fail
  refine HALL.out.mono ?_
  rintro e w1 ⟨o, kv, vs, rfl, hK, hB⟩
  rw [HKS.out] at hK
  obtain ⟨oo, oc, rfl⟩ := owns_form3 hK.out
  obtain ⟨ko, kc, rfl⟩ := owns_form3 hK.kept
  rw [HROW.out]
  have hrow := rec_row hK.out HROW.out hrl
  have hkep := hK.lst (keep_lim hkl)
  have hcap : row.length ≤ oc := by have := hrow.cap; rwa [HROW.out] at this
  have hcapk := hkep.cap
  have HK := Lib.hid hK
  have HR := Lib.hid (reads_front hrow hnl)
  have HKF := Lib.hid (lst_front hkep hk1)
  have HKA := Lib.hid hkep
  have cN := cut_wrap hn hrl
  have hfr : ∀ W, (Instr.sliceAt 22 (.slice oo row.length oc) none (some (.int .i64 n)) none).run Try.prog W = .ok (.slice oo n oc) W := fun W => run_front (P := Try.prog) Try.underlying22 hi1 hz1 W oo row.length oc n (Nat.le_trans hnl hcap)
  have hfk : ∀ W, (Instr.sliceAt 30 (.slice ko ks.length kc) none (some (.int .i64 k)) none).run Try.prog W = .ok (.slice ko k kc) W := fun W => run_front (P := Try.prog) Try.underlying30 hj1 hy1 W ko ks.length kc k (Nat.le_trans hk1 hcapk)
  have hst : Steps (row.take n) (ks.take k) := by have := steps_recs (row.take n); rwa [show recs (row.take n) = ks.take k by rw [← HROW.out]; exact hk2] at this
  have hgl : (ks.take k).length = k := List.length_take_of_le hk1
  have hpl : place (ks.take k) (ks.take k).length = place ks k := place_take ks k hk1
  have hkm : (ks.take k).length ≤ maxLen := by rw [hgl]; exact Nat.le_trans hk1 (keep_lim hkl)
  have hwr : Hid (∀ x ∈ row.take n, (Lit.int .u8 x).wf = true) := Lib.hid fun x hx => keep_wf HK.out x (by rw [HROW.out]; exact List.mem_of_mem_take hx)
  have hsm : ∀ p ∈ ks.take k, p.length ≤ maxLen ∧ ∀ n ∈ p, (Lit.int .u8 n).wf = true := fun p hp => keep_each HK.out p (List.mem_of_mem_take hp)
  have HSCAN := Lib.hid (scan_any (.slice oo n oc) (row.take n) (ks.take k) (Lib.hid hst) hwr (take_lim hrl) w1 HR.out)
  obtain ⟨E, hE⟩ : ∃ E, place ks k = E := ⟨_, rfl⟩
  rw [hE] at hpl hk3 hk4
  obtain ⟨gs, hgs⟩ : ∃ gs, ks.take k = gs := ⟨_, rfl⟩
  rw [hgs] at hgl hpl HSCAN HKF hsm hkm
  have HSM := Lib.hid hsm
  have HGL := Lib.hid hgl
  have HPL := Lib.hid hpl
  have HK4 := Lib.hid hk4
  have HKM := Lib.hid hkm
  clear hK hrow hkep hst hgl hpl hsm hk4 hE hgs hk2 hkm hn
  go_wp2_with fail
  refine HSCAN.out.mono ?_
  rintro e w2 ⟨u, rfl, hO, hb⟩
  rw [HPL.out]
  obtain ⟨go, gc, rfl⟩ : ∃ go gc, u = .slice go k gc := by
    obtain ⟨_, _, h, _⟩ := hO
    obtain ⟨go, gc, h⟩ := owns_form3 h
    exact ⟨go, gc, by rw [h, HGL.out]⟩
  have HG := Lib.hid (Lst.of_pays (hO.pays HKM.out HSM.out))
  have HB := Lib.hid (bl_trans hB hb)
  have HKF2 := Lib.hid (HKF.out.below hb)
  have HKA2 := Lib.hid (HKA.out.below hb)
  clear hO hb hB
  go_wp2_with fail
  refine (same03_eq _ _ gs _ HG.out HKF2.out).mono ?_
  rintro e w3 ⟨rfl, hb⟩
  have HB3 := Lib.hid (bl_trans HB.out hb)
  have HKA3 := Lib.hid (HKA2.out.below hb)
  clear hb
  clear cN
  have hEn : ¬ (n : Int) < (E : Int) := by omega
  have hkn : ¬ (ks.length : Int) < (k : Int) := by omega
  have hEn2 : decide (n < E) = false := by simp; omega
  have hkn2 : decide (ks.length < k) = false := by simp; omega
  by_cases hlt : k < ks.length
  · obtain ⟨p, hp⟩ := get_some hlt
    obtain ⟨b, o, x, rfl, hcell, hx⟩ := HKA3.out.at_ hp
    obtain ⟨_, xo, xc, rfl, _⟩ := hx
    have hpl := recE_zero (HFIT.out p (List.mem_of_getElem? hp))
    have h9 := HK4.out p hp
    have hne : ((k : Int) == (ks.length : Int)) = false := by simp; omega
    have hlt2 : (k : Int) < (ks.length : Int) := by omega
    have h92 : (n : Int) < (E : Int) + 8 + (p.length : Int) := by omega
    obtain ⟨e1, e2⟩ := at_plus (l := p.length) hk3 (Nat.le_trans hnl hrl) hpl.2
    clear hp hpl hrl hkl hnl hcap hcapk h9 hCl hcb
    go_wp2_with fail
    refine (awake_any _).mono ?_
    rintro e w4 ⟨rfl, hb⟩
    go_wp2
    go_ret
    exact ⟨rfl, bl_trans HB3.out hb⟩
  · have hkk : k = ks.length := by omega
    have hlt2 : ¬ (k : Int) < (ks.length : Int) := by omega
    have heq : ((k : Int) == (ks.length : Int)) = true := by simp; omega
    clear hrl hkl hnl hcap hcapk hCl hcb
    go_wp2_with fail
    refine (awake_any _).mono ?_
    rintro e w4 ⟨rfl, hb⟩
    go_wp2
    go_ret
    exact ⟨rfl, bl_trans HB3.out hb⟩

end Go.Proofs.Ytaembdlidaogdaa
