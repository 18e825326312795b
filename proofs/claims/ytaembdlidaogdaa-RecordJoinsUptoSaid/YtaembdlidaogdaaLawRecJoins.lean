/- The walk of the statement RecordJoins. Conditions: the arguments' own; bulk at most 2^20. -/
import Derived.RegionTactic
import Derived.Test.YtaembdlidaogdaaLawRecCuts
import Derived.Test.YtaembdlidaogdaaLawRecFirsts
namespace Go.Proofs.Ytaembdlidaogdaa
open Go.RowKit

theorem lst_join {w : World} {B : Nat} {v : Value} {ks ps : List (List Int)} {vs us : List Value} (hv : vs.length = ks.length) (hu : us.length = ps.length) (ho : w.ownsRow B 22 1 v (ks.length + us.length) (vs ++ us.map id)) (hm : (ks ++ ps).length ≤ maxLen)
    (h1 : ∀ (i : Nat) (x : Value) (p : List Int), vs[i]? = some x → ks[i]? = some p → Reads (Value.int .u8) w x p) (h2 : ∀ (i : Nat) (x : Value) (p : List Int), us[i]? = some x → ps[i]? = some p → Reads (Value.int .u8) w x p) : Lst w v (ks ++ ps) := by
  rw [List.map_id] at ho
  have e : (vs ++ us).length = (ks ++ ps).length := by rw [List.length_append, List.length_append, hv, hu]
  have ho2 : w.ownsRow B 22 1 v (vs ++ us).length ((vs ++ us).map id) := by rw [List.map_id, List.length_append, hv]; exact ho
  refine ⟨vs ++ us, e, Reads.of_owns ho2 (by rw [e]; exact hm), fun i x p hx hp => ?_⟩
  by_cases hi : i < ks.length
  · rw [List.getElem?_append_left (by omega)] at hx
    rw [List.getElem?_append_left hi] at hp
    exact h1 i x p hx hp
  · rw [List.getElem?_append_right (by omega), hv] at hx
    rw [List.getElem?_append_right (by omega)] at hp
    exact h2 _ x p hx hp

theorem sum_wrap {a b : Nat} (ha : a ≤ 9437184) (hb : b ≤ 1048576) : wrap64 ((a : Int) + (b : Int)) = (a : Int) + (b : Int) := by unfold wrap64; omega

set_option maxRecDepth 100000 in
set_option maxHeartbeats 1000000 in
theorem walkRecordJoins (v : Value) (l : List (List Int)) (u : Value) (xs : List Int) (w : World) (hr : Reads (Value.int .u8) w u xs) (wx : ∀ n ∈ xs, (Lit.int .u8 n).wf = true) (hle : xs.length * 134217727 ≤ reachBytes) (hl : ListsAt w.heap.size w v l) (hbk : bulkL l ≤ 1048576) :
    Calls Try.prog 5 #[v, u] w fun e w' => e = .returned (.bool true) ∧ Below w.heap.size w w' := by
  obtain ⟨-, -, hm2⟩ := upto_room hle
  clear hle
  obtain ⟨ao, cap, rfl, hcap⟩ := hl.form
  obtain ⟨ro, rc, rfl⟩ : ∃ ro rc, u = .slice ro xs.length rc := by
    obtain ⟨_, ro, rc, h, _⟩ := hr
    exact ⟨ro, rc, h⟩
  have hlen : l.length ≤ 1048576 := Nat.le_trans (bulkL_len l) hbk
  obtain ⟨i0, hi, hz0, hz1, hz2⟩ := info_parts infoByte
  obtain ⟨j0, hj, hy0, hy1, hy2⟩ := info_parts infoBytes
  have HL := Lib.hid hl
  have HBK := Lib.hid hbk
  have HROW := Lib.hid hr
  have HM2 := Lib.hid hm2
  have wx := Lib.hid wx
  clear hl hbk hr hm2
  go_enter Try.func5, Try.ntmps5
  go_wp2
  go_loopw [5, 6, 7] (fun o k ii wr => ∃ (i : Nat) (ks : List (List Int)) (vs : List Value), i ≤ l.length ∧ Hid (ks = keepL (l.take i)) ∧ ii = .int .i64 i ∧ KA w.heap.size o k ks vs wr ∧ Below w.heap.size w wr) (fun _ _ ii _ => l.length - (intOf ii).toNat)
  case atStart =>
    exact ⟨0, [], [], by omega, rfl, rfl, ⟨⟨rfl, .inl ⟨rfl, rfl⟩⟩, rfl, ⟨rfl, .inl ⟨rfl, rfl⟩⟩, fun i x p hx => by simp at hx⟩, bl_refl w⟩
  case round =>
    obtain ⟨i, ks, vs, hil, hks, rfl, hK, hB⟩ := hrel
    have hsz := hB.size
    by_cases hlt : i < l.length
    · obtain ⟨p, hp⟩ := get_some hlt
      obtain ⟨b, o1, x, rfl, hbl, hcell, hx⟩ := (HL.out.below hB).at_ hp
      obtain ⟨xo, xc, rfl⟩ := hx.form
      have hlt' : (i : Int) < (l.length : Int) := by omega
      have hnx := keep_next hp
      have hkl : (rowB ks).length ≤ 9437184 := by
        have h1 := rowB_le (l.take i)
        have h2 := bulkL_take l i
        rw [← hks.out] at h1
        have := HBK.out
        omega
      have hkl2 : ks.length ≤ 1048576 := by
        have h1 := keep_le (l.take i)
        rw [← hks.out, List.length_take] at h1
        have := HBK.out
        omega
      have hput := recput_any _ p (Lib.hid hx.2.1) wr hx.1
      obtain ⟨oo, oc, rfl⟩ := owns_form3 hK.out
      obtain ⟨ko, kc, rfl⟩ := owns_form3 hK.kept
      have HPUT := Lib.hid hput
      have HK := Lib.hid hK
      have HX := Lib.hid hx
      have HB := Lib.hid hB
      have HNX := Lib.hid hnx
      have HKL := Lib.hid hkl
      have HKL2 := Lib.hid hkl2
      have HC0 := Lib.hid hcell
      have HSZ := Lib.hid hsz
      clear hput hK hx hp hB hnx hkl hkl2 hsz
      by_cases hE : recE p = 0
      · have hpl := recE_zero hE
        have hOp : recO p = recB p := by unfold recO; rw [if_pos hE]
        have hrl := recB_length p
        have HKN := Lib.hid (show keepL (l.take (i + 1)) = ks ++ [p] by rw [HNX.out, keep_yes hE, hks.out])
        have A1 : Hid ((rowB ks).length + (recB p).length ≤ maxLen) := by unfold Hid; rw [hrl]; have := HKL.out; unfold maxLen; omega
        have A2 : Hid (((rowB ks).length + (recB p).length) * 1 ≤ 140737488355328) := by unfold Hid; rw [hrl]; have := HKL.out; omega
        have B1 : Hid (ks.length + 1 ≤ maxLen) := by unfold Hid; have := HKL2.out; unfold maxLen; omega
        have B2 : Hid ((ks.length + 1) * 24 ≤ 140737488355328) := by unfold Hid; have := HKL2.out; omega
        have HRM : Hid ((recB p).length ≤ maxLen) := by unfold Hid; rw [hrl]; unfold maxLen; omega
        clear hpl hrl
        go_wp2_with fail
        refine HPUT.out.mono ?_
        rintro e w1 ⟨u, rfl, hu, hb1⟩
        rw [hOp] at hu
        rw [hE]
        have HK1 := Lib.hid (HK.out.bl HSZ.out hb1)
        have HX1 := Lib.hid (HX.out.below ⟨hb1.os, hb1.tape, hb1.output, hb1.size, fun k hk => hb1.block k (by have := HSZ.out; omega)⟩)
        have HU := Lib.hid (Reads.of_owns hu HRM.out)
        have HB1 := Lib.hid (bl_trans HB.out hb1)
        have HS1 := Lib.hid HB1.out.size
        have HC := Lib.hid (show w.cell? ⟨b, o1 + i, none⟩ = some (.slice xo p.length xc) from (HB.out.cell (p := ⟨b, _, none⟩) hbl).symm.trans HC0.out)
        obtain ⟨uo, uc, rfl⟩ := owns_form3 hu
        have NXT := Lib.hid (show ∀ (o2 : Value) (w2 : World) (m : Nat) (ys : List Value), w2.ownsRow w.heap.size 5 1 o2 m ys → w1.grownBy w2 (Value.slice oo (rowB ks).length oc).ownBlock → w2.cell? ⟨b, o1 + i, none⟩ = some (.slice xo p.length xc) from fun o2 w2 m ys hO hg =>
          ((HB1.out.trans (HK1.out.mid HS1.out hO hg).2).cell (p := ⟨b, _, none⟩) hbl).trans HC.out)
        have KEP := Lib.hid (show ∀ (o2 : Value) (w2 : World) (m : Nat) (ys : List Value), w2.ownsRow w.heap.size 5 1 o2 m ys → w1.grownBy w2 (Value.slice oo (rowB ks).length oc).ownBlock → (w2.alloc (.cells #[.slice xo p.length xc] 22)).ownsRow w.heap.size 22 1 (.slice ko ks.length kc) ks.length vs ∧ w.heap.size ≤ (w2.alloc (.cells #[.slice xo p.length xc] 22)).heap.size from fun o2 w2 m ys hO hg =>
          ⟨owns_bl (HK1.out.mid HS1.out hO hg).1 (bl_alloc (bl_refl _) _), (bl_alloc (HB1.out.trans (HK1.out.mid HS1.out hO hg).2) _).size⟩)
        clear hu hb1 hcell
        go_wp2_with (first
          | (at_builtin; refine wpList_append_r _ rfl _ _ 22 rfl w.heap.size 5 i0 (.int .u8 0) 1 Try.underlying22 hi hz0 hz1 hz2 rfl _ _ _ rfl HK1.out.out (Value.int .u8) _ (recB p) rfl HU.out (by intros; rfl) A1.out A2.out HS1.out ?_; intro o2 w2 hO2 hg2 hne2; have hcell2 := NXT.out _ _ _ _ hO2 hg2)
          | (at_builtin; refine wpList_append_r _ rfl _ _ 30 rfl w.heap.size 22 j0 (.slice none 0 0) 24 Try.underlying30 hj hy0 hy1 hy2 rfl _ _ _ rfl (KEP.out _ _ _ _ hO2 hg2).1 id _ [.slice xo p.length xc] rfl (reads_one id _ _ _) (by simp [Value.oneCell']) B1.out B2.out (KEP.out _ _ _ _ hO2 hg2).2 ?_; intro k4 w4 hO4 hg4 hne4))
        obtain ⟨hp1, hp2⟩ := HK1.out.push HS1.out HX1.out hO2 hg2 hO4 hg4
        have HP1 := Lib.hid hp1
        have HP2 := Lib.hid hp2
        clear hp1 hp2 hO2 hg2 hne2 hO4 hg4 hne4 hcell2
        go_roundw
        case rel => exact ⟨i + 1, ks ++ [p], vs ++ [.slice xo p.length xc], by omega, HKN.out.symm, by go_num, HP1.out, HB1.out.trans HP2.out⟩
        case measure => simp [intOf]; omega
      · have hE' : (recE p == 0) = false := by simpa using hE
        have HKN := Lib.hid (show keepL (l.take (i + 1)) = ks by rw [HNX.out, keep_no hE, List.append_nil, hks.out])
        have HEH := Lib.hid hE'
        clear hE
        go_wp2_with fail
        refine HPUT.out.mono ?_
        rintro e w1 ⟨u, rfl, -, hb1⟩
        have HK1 := Lib.hid (HK.out.bl HSZ.out hb1)
        have HB1 := Lib.hid (bl_trans HB.out hb1)
        clear hb1 hcell
        go_wp2
        go_roundw
        case rel => exact ⟨i + 1, ks, vs, by omega, HKN.out.symm, by go_num, HK1.out, HB1.out⟩
        case measure => simp [intOf]; omega
    · obtain rfl : i = l.length := by omega
      have hks2 := hks.out
      rw [List.take_length] at hks2
      have hrl : (rowB ks).length ≤ 9437184 := by rw [hks2]; have := rowB_le l; have := HBK.out; omega
      have hkl : ks.length ≤ 1048576 := by rw [hks2]; have := keep_le l; omega
      have hfit : ∀ p ∈ ks, recE p = 0 := by rw [hks2]; exact keep_fits
      obtain ⟨hj1, hj2⟩ := recs_join xs hfit
      unfold recN at hj2
      rw [hj1] at hj2
      have hst2 := steps_recs (rowB ks ++ xs)
      rw [hj1] at hst2
      have hst := steps_recs xs
      have hpl := recs_len xs
      have hsm : ∀ p ∈ recs xs, p.length ≤ maxLen ∧ ∀ n ∈ p, (Lit.int .u8 n).wf = true := recs_small wx.out (Nat.le_trans HM2.out (by decide))
      obtain ⟨ps, hps⟩ : ∃ ps, recs xs = ps := ⟨_, rfl⟩
      rw [hps] at hj2 hst2 hst hpl hsm
      obtain ⟨row, hrow⟩ : ∃ row, rowB ks = row := ⟨_, rfl⟩
      have hkw := keep_wf hK
      have hke := keep_each hK
      have hrr := rec_row hK.out hrow (by rw [← hrow]; exact hrl)
      rw [hrow] at hj2 hst2 hrl hkw
      obtain ⟨oo, oc, rfl⟩ := owns_form3 hK.out
      obtain ⟨ko, kc, rfl⟩ := owns_form3 hK.kept
      rw [hrow] at hrr ⊢
      have hr1 := HROW.out.below hB
      have HK := Lib.hid hK
      have HB := Lib.hid hB
      have HSCAN := Lib.hid (scan_any _ xs ps (Lib.hid hst) wx (Nat.le_trans HM2.out (by decide)) wr hr1)
      obtain ⟨qs, hqs⟩ : ∃ qs, ks ++ ps = qs := ⟨_, rfl⟩
      rw [hqs] at hst2 hj2
      have HQS := Lib.hid hqs
      have HST2 := Lib.hid hst2
      have hst1 := Lib.hid hst
      have HRR := Lib.hid hrr
      have HR1 := Lib.hid hr1
      have HJ2 := Lib.hid hj2
      have HSM := Lib.hid hsm
      have HKE := Lib.hid hke
      have HRL := Lib.hid hrl
      have HKL := Lib.hid hkl
      have HPL := Lib.hid hpl
      have HW2 : Hid (∀ n ∈ row ++ xs, (Lit.int .u8 n).wf = true) := Lib.hid fun n hn => (List.mem_append.1 hn).elim (hkw n) (wx.out n)
      have C1 : Hid (0 + row.length ≤ maxLen) := by unfold Hid; rw [Nat.zero_add]; exact Nat.le_trans hrl (by decide)
      have C2 : Hid ((0 + row.length) * 1 ≤ 140737488355328) := by unfold Hid; rw [Nat.zero_add, Nat.mul_one]; exact Nat.le_trans hrl (by decide)
      have D0 : row.length + xs.length ≤ 10485760 := Nat.add_le_add hrl HM2.out
      have D1 : Hid (row.length + xs.length ≤ maxLen) := Lib.hid (Nat.le_trans D0 (by decide))
      have D2 : Hid ((row.length + xs.length) * 1 ≤ 140737488355328) := by unfold Hid; rw [Nat.mul_one]; exact Nat.le_trans D0 (by decide)
      have D3 : Hid ((row ++ xs).length ≤ 16777216) := by unfold Hid; rw [List.length_append]; exact Nat.le_trans D0 (by decide)
      have D4 : ps.length ≤ 1048576 := Nat.le_trans hpl HM2.out
      have D5 : ks.length + ps.length ≤ 2097152 := Nat.add_le_add hkl D4
      have HD5 := Lib.hid D5
      have HD4 := Lib.hid D4
      clear hqs hK hB hst hst2 hrr hr1 hj2 hsm hke hrl hkl hpl hkw hfit hj1 hps D0 hks2 hks hil D5 D4 hlt
      go_wp2_with fail
      refine HSCAN.out.mono ?_
      rintro e w2 ⟨more, rfl, hO, hb⟩
      obtain ⟨mo, mc, rfl⟩ : ∃ mo mc, more = .slice mo ps.length mc := by
        obtain ⟨_, _, h, _⟩ := hO
        exact owns_form3 h
      have HOM := Lib.hid hO
      have HB2 := Lib.hid (bl_trans HB.out hb)
      have HK2 := Lib.hid (HK.out.bl HB.out.size hb)
      have HRR2 := Lib.hid ((HRR.out.below hb).below (bl_alloc (bl_refl w2) (.cells #[] 5)))
      have HR2 := Lib.hid (HR1.out.below hb)
      have BA := Lib.hid (show ∀ (w3 : World), (w2.alloc (.cells #[] 5)).grownBy w3 (some w2.heap.size) → Below w2.heap.size w2 w3 from fun w3 hg => bl_grown (bl_alloc (bl_refl w2) _) hg (by intro k hk; cases hk; exact Nat.le_refl _))
      have E1 : Hid (w2.heap.size ≤ (w2.alloc (.cells #[] 5)).heap.size) := by unfold Hid; rw [World.size_alloc]; omega
      clear hO hb
      go_wp2_with (first
        | (at_builtin; refine wpList_append_r _ rfl _ _ 22 rfl w2.heap.size 5 i0 (.int .u8 0) 1 Try.underlying22 hi hz0 hz1 hz2 rfl _ _ _ rfl (owns_empty w2 5 (Nat.le_refl _)) (Value.int .u8) _ row rfl HRR2.out (by intros; rfl) C1.out C2.out E1.out ?_; intro o3 w3 hO3 hg3 hne3; have hb3 := BA.out _ hg3; have hs3 := hb3.size; rw [Nat.zero_add, List.nil_append] at hO3)
        | (at_builtin; refine wpList_append_r _ rfl _ _ 22 rfl w2.heap.size 5 i0 (.int .u8 0) 1 Try.underlying22 hi hz0 hz1 hz2 rfl _ _ _ rfl hO3 (Value.int .u8) _ xs rfl (HR2.out.below hb3) (by intros; rfl) D1.out D2.out hs3 ?_; intro o4 w4 hO4 hg4 hne4))
      have hb4 : Below w2.heap.size w2 w4 := bl_grown hb3 hg4 (fun k hk => (hO3.lt k hk).1)
      rw [← List.map_append, ← List.length_append] at hO4
      have HR4 := Lib.hid (Reads.of_owns hO4 (by rw [List.length_append]; exact D1.out))
      obtain ⟨ho, hc, rfl⟩ := owns_form3 hO4
      have HB4 := Lib.hid hb4
      clear hO4 hb4 hg4 hne4 hO3 hg3 hne3 hb3 hs3
      refine (scan_any _ (row ++ xs) qs HST2 HW2 D3.out w4 HR4.out).mono ?_
      rintro e w5 ⟨got, rfl, hO, hb⟩
      rw [HJ2.out]
      have hgm : qs.length ≤ maxLen := by rw [← HQS.out, List.length_append]; exact Nat.le_trans HD5.out (by decide)
      have hge : ∀ p ∈ qs, p.length ≤ maxLen ∧ ∀ n ∈ p, (Lit.int .u8 n).wf = true := fun p hp => by
        rw [← HQS.out] at hp
        exact (List.mem_append.1 hp).elim (HKE.out p) (HSM.out p)
      have HGOT := Lib.hid (hO.pays hgm hge)
      obtain ⟨go, gc, rfl, _⟩ := HGOT.out.form
      have hb5 := bl_trans HB4.out hb
      have HB5 := Lib.hid (bl_trans HB2.out hb5)
      have hK5 := HK2.out.bl HB2.out.size hb5
      obtain ⟨us, hul, huo, hux⟩ := HOM.out.bl hb5
      have huo2 : w5.ownsRow w.heap.size 22 1 (.slice mo ps.length mc) us.length (us.map id) := by
        have := owns_low huo HB.out.size
        rw [List.map_id, hul]; exact this
      have hkb : ∀ j, (Value.slice ko ks.length kc).ownBlock = some j → j < w4.heap.size := fun j hj => Nat.lt_of_lt_of_le (HK2.out.kept.lt j hj).2 HB4.out.size
      have HUR := Lib.hid (Reads.of_owns huo2 (by rw [hul]; exact Nat.le_trans HD4.out (by decide)))
      have h6 : ∀ (o6 : Value) (w6 : World), w6.ownsRow w.heap.size 22 1 o6 (ks.length + us.length) (vs ++ us.map id) → w5.grownBy w6 (Value.slice ko ks.length kc).ownBlock → Lst w6 o6 qs ∧ Lst w6 (.slice go qs.length gc) qs ∧ Below w.heap.size w w6 := by
        intro o6 w6 ho hg
        have hF : Fr (fun j => (Value.slice ko ks.length kc).ownBlock = some j) w5 w6 := (Fr.refl _ _).grown hg (fun k hk => .inl hk)
        have hbb : Below w.heap.size w5 w6 := (Below.refl w.heap.size w5).grown hg HB5.out.size fun j hj => (hK5.kept.lt j hj).1
        refine ⟨?_, ?_, HB5.out.trans hbb⟩
        · rw [← HQS.out]
          refine lst_join hK5.len hul ho (by rw [HQS.out]; exact hgm) (fun i x p hx hp => ((hK5.each i x p hx hp).below hbb).1) (fun i x p hx hp => ?_)
          have h7 := hux i x p hx hp
          exact Reads.of_owns (owns_grown h7 hg fun j hj e => owns_apart h7 hK5.kept (by decide) j hj e.symm) (HSM.out p (List.mem_of_getElem? hp)).1
        · exact Lst.of_pays (HGOT.out.fr hF fun j hj hj2 => by have := hkb j hj2; omega)
      have H6 := Lib.hid h6
      have HK5 := Lib.hid hK5.kept
      have Q1 : Hid (ks.length + us.length ≤ maxLen) := by unfold Hid; rw [hul]; exact Nat.le_trans HD5.out (by decide)
      have Q2 : Hid ((ks.length + us.length) * 24 ≤ 140737488355328) := by unfold Hid; rw [hul]; have := HD5.out; omega
      have Q3 : ∀ y ∈ us, (id y : Value).oneCell' = true := by
        intro y hy
        obtain ⟨i, hi, rfl⟩ := List.mem_iff_getElem.1 hy
        obtain ⟨p, hp⟩ := get_some (xs := ps) (k := i) (by omega)
        obtain ⟨ao, cap, he⟩ := owns_form3 (hux i (us[i]) p (List.getElem?_eq_getElem hi) hp)
        rw [he]; rfl
      have Q3 := Lib.hid Q3
      have HS5 := Lib.hid HB5.out.size
      have cS : wrap64 ((row.length : Int) + (place ps ps.length : Nat)) = (row.length : Int) + (place ps ps.length : Nat) := sum_wrap HRL.out (Nat.le_trans (hst1.out.2 _ (Nat.le_refl _)).2 HM2.out)
      clear hO hb hb5 hK5 hux huo huo2 hul h6 hkb hgm hge
      go_wp2_with (at_builtin; refine wpList_append_r _ rfl _ _ 30 rfl w.heap.size 22 j0 (.slice none 0 0) 24 Try.underlying30 hj hy0 hy1 hy2 rfl _ _ _ rfl HK5.out id _ us rfl HUR.out Q3.out Q1.out Q2.out HS5.out ?_; intro o6 w6 hO6 hg6 hne6)
      obtain ⟨hl1, hl2, hb6⟩ := H6.out _ _ hO6 hg6
      refine (same03_eq _ _ qs _ hl2 hl1).mono ?_
      rintro e w7 ⟨rfl, hb7⟩
      have HB7 := Lib.hid (bl_trans hb6 hb7)
      clear hO6 hg6 hne6 hl1 hl2 hb6 hb7
      go_wp2_with fail
      refine (awake_any _).mono ?_
      rintro e w8 ⟨rfl, hb8⟩
      go_wp2
      go_ret
      exact ⟨rfl, bl_trans HB7.out hb8⟩

end Go.Proofs.Ytaembdlidaogdaa
