/- The walk of the statement RecordTurns. Conditions: the arguments' own; bulk at most 2^20. -/
import Derived.RegionTactic
import Derived.Laws.BitsAllLaws
import Derived.Test.YtaembdlidaogdaaLater
import Derived.Test.YtaembdlidaogdaaLawRecCuts
import Derived.Test.YtaembdlidaogdaaTurn
import Derived.Test.YtaembdlidaogdaaLawRecFirsts
namespace Go.Proofs.Ytaembdlidaogdaa
open Go.RowKit

theorem lst_later {w0 : World} {v : Value} {ps : List (List Int)} (h : Lst w0 v ps) (x : Later w0) : Lst x.w v ps := h.below x.h
theorem place_mono {ks : List (List Int)} {j k : Nat} (hj : j ≤ k) (hk : k ≤ ks.length) : place ks j ≤ place ks k := by
  induction k with
  | zero => obtain rfl : j = 0 := by omega
            exact Nat.le_refl _
  | succ k ih =>
    by_cases h : j = k + 1
    · subst h; exact Nat.le_refl _
    · obtain ⟨p, hp⟩ := get_some (xs := ks) (k := k) (by omega)
      have := ih (by omega) (by omega)
      rw [place_succ hp]; omega
theorem turn_byte {x m : Int} (hx : (Lit.int .u8 x).wf = true) (hm : (Lit.int .u8 m).wf = true) (h0 : m ≠ 0) : x ≠ bits .xor .u8 x m := by
  have bx := bounds_u8 hx
  have bm := bounds_u8 hm
  rw [u8_xor x m bx.1 (by omega) bm.1 (by omega)]
  intro h
  have h1 : x.toNat = x.toNat ^^^ m.toNat := by omega
  have h2 : 0 ^^^ x.toNat = m.toNat ^^^ x.toNat := by rw [Nat.zero_xor, Nat.xor_comm m.toNat]; exact h1
  have h3 := xor_cancel h2
  omega
theorem rem_wrap {C r f : Nat} (h : C % r = f) (h0 : 0 < r) (hr : r ≤ 9437184) : wrap64 ((C : Int) % (r : Int)) = (f : Int) := by
  have hl : f < r := by rw [← h]; exact Nat.mod_lt C h0
  have e : (C : Int) % (r : Int) = (f : Int) := by rw [← h]; rfl
  rw [e]; unfold wrap64; omega

theorem next_wrap {j : Nat} (h : j ≤ 1048576) : wrap64 ((j : Int) + 1) = (j : Int) + 1 := by unfold wrap64; omega
def leftN (k : Nat) (v : Value) : Nat := k - (intOf v).toNat
theorem next_less {j k : Nat} (h : j < k) : leftN k (.int .i64 ((j : Int) + 1)) < leftN k (.int .i64 (j : Int)) := by
  unfold leftN
  simp only [intOf]
  omega
theorem own_pos {w : World} {base : Nat} {e : TypeId} {s : Nat} {v : Value} {n : Nat} {xs : List Value} (h : w.ownsRow base e s v n xs) (hn : 0 < n) : ∃ g cap, v = .slice (some ⟨g, 0, none⟩) n cap := by
  rcases h.2 with ⟨_, h0⟩ | ⟨g, cap, cur, h1, _⟩
  · omega
  · exact ⟨g, cap, h1⟩

set_option maxRecDepth 100000 in
set_option maxHeartbeats 1000000 in
theorem walkRecordTurns (v : Value) (l : List (List Int)) (at_ : Int) (hat : (Lit.int .i64 at_).wf = true) (mask : Int) (hmask : (Lit.int .u8 mask).wf = true) (w : World) (hl : ListsAt w.heap.size w v l) (hbk : bulkL l ≤ 1048576) :
    Calls Try.prog 7 #[v, .int .i64 at_, .int .u8 mask] w fun e w' => e = .returned (.bool true) ∧ Below w.heap.size w w' := by
  have hcb := bounds_i64 hat
  obtain ⟨C, hC, hCl⟩ : ∃ C : Nat, IntKind.u64.wrap at_ = (C : Int) ∧ C < 18446744073709551616 := ⟨(IntKind.u64.wrap at_).toNat, by rw [IntKind.wrap_u64]; omega, by rw [IntKind.wrap_u64]; omega⟩
  clear hcb hat hCl
  obtain ⟨ks, hks⟩ : ∃ ks, keepL l = ks := ⟨_, rfl⟩
  have hfit : ∀ p ∈ ks, recE p = 0 := by rw [← hks]; exact keep_fits
  have hrl : (rowB ks).length ≤ 9437184 := by rw [← hks]; have := rowB_le l; omega
  have hkl : ks.length ≤ 1048576 := by rw [← hks]; have := keep_le l; have := bulkL_len l; omega
  obtain ⟨row, hrow⟩ : ∃ row, rowB ks = row := ⟨_, rfl⟩
  have hall := rall_any v l w hl hbk
  obtain ⟨i0, hi, hz0, hz1, hz2⟩ := info_parts infoByte
  obtain ⟨j1, hj1, hy1⟩ := cut_infos
  have HALL := Lib.hid hall
  have HKS := Lib.hid hks
  have HFIT := Lib.hid hfit
  rw [hrow] at hrl
  have HROW := Lib.hid hrow
  have HRL := Lib.hid hrl
  have HKL := Lib.hid hkl
  have HMASK := Lib.hid hmask
  clear hall hks hfit hl hbk hrow hrl hkl hmask
  go_enter Try.func7, Try.ntmps7
  go_wp2_with fail
  refine HALL.out.mono ?_
  rintro e w1 ⟨o, kv, vs, rfl, hK, hB⟩
  rw [HKS.out] at hK
  obtain ⟨oo, oc, rfl⟩ := owns_form3 hK.out
  obtain ⟨ko, kc, rfl⟩ := owns_form3 hK.kept
  rw [HROW.out]
  have hR := rec_row hK.out HROW.out HRL.out
  have hkep := hK.lst (keep_lim HKL.out)
  have hkw := keep_wf hK
  have hke := keep_each hK
  rw [HROW.out] at hkw hR
  have HR := Lib.hid hR
  have HKA := Lib.hid hkep
  have HKE := Lib.hid hke
  have HKW := Lib.hid hkw
  have HB := Lib.hid hB
  clear hK hR hkep hke hkw hB
  by_cases hz : row.length = 0 ∨ mask = 0
  · have hst : Steps row ks := by have := steps_recs row; rwa [show recs row = ks by rw [← HROW.out]; exact recs_all HFIT.out] at this
    have HSCAN := Lib.hid (scan_any _ row ks (Lib.hid hst) HKW (Nat.le_trans HRL.out (by decide)) w1 HR.out)
    clear hst
    by_cases h0 : row.length = 0
    · have d0 : ((row.length : Int) == 0) = true := beq_iff_eq.2 (by omega)
      have H0 := Lib.hid h0
      clear hz h0
      go_wp2_with fail
      refine HSCAN.out.mono ?_
      rintro e w2 ⟨u, rfl, hO, hb⟩
      have hg := Lst.of_pays (hO.pays (keep_lim HKL.out) HKE.out)
      have hk2 := HKA.out.below hb
      obtain ⟨go, gc, rfl, _⟩ := hg.form
      have HG := Lib.hid hg
      have HK2 := Lib.hid hk2
      have HB2 := Lib.hid (bl_trans HB.out hb)
      clear hO hb hg hk2
      go_wp2_with fail
      refine (same03_eq _ _ ks _ HG.out HK2.out).mono ?_
      rintro e w3 ⟨rfl, hb⟩
      have HB3 := Lib.hid (bl_trans HB2.out hb)
      clear hb
      go_wp2_with fail
      refine (awake_any _).mono ?_
      rintro e w4 ⟨rfl, hb⟩
      go_wp2
      go_ret
      exact ⟨rfl, bl_trans HB3.out hb⟩
    · have d0 : ((row.length : Int) == 0) = false := beq_eq_false_iff_ne.2 (by omega)
      obtain rfl : mask = 0 := by rcases hz with h | h; exact absurd h h0; exact h
      clear hz h0
      go_wp2_with fail
      refine HSCAN.out.mono ?_
      rintro e w2 ⟨u, rfl, hO, hb⟩
      have hg := Lst.of_pays (hO.pays (keep_lim HKL.out) HKE.out)
      have hk2 := HKA.out.below hb
      obtain ⟨go, gc, rfl, _⟩ := hg.form
      have HG := Lib.hid hg
      have HK2 := Lib.hid hk2
      have HB2 := Lib.hid (bl_trans HB.out hb)
      clear hO hb hg hk2
      go_wp2_with fail
      refine (same03_eq _ _ ks _ HG.out HK2.out).mono ?_
      rintro e w3 ⟨rfl, hb⟩
      have HB3 := Lib.hid (bl_trans HB2.out hb)
      clear hb
      go_wp2_with fail
      refine (awake_any _).mono ?_
      rintro e w4 ⟨rfl, hb⟩
      go_wp2
      go_ret
      exact ⟨rfl, bl_trans HB3.out hb⟩
  · have h0 : row.length ≠ 0 := fun h => hz (.inl h)
    have hm0 : mask ≠ 0 := fun h => hz (.inr h)
    clear hz
    obtain ⟨f, hf, hfl⟩ : ∃ f : Nat, C % row.length = f ∧ f < row.length := ⟨_, rfl, Nat.mod_lt C (by omega)⟩
    obtain ⟨x, hx⟩ := get_some (xs := row) (k := f) hfl
    have hxw := HKW.out x (List.mem_of_getElem? hx)
    have hyw : (Lit.int .u8 (bits .xor .u8 x mask)).wf = true := wf_bits _ _ _ _
    have hne := turn_byte hxw HMASK.out hm0
    obtain ⟨k, p, more, hp, hk1, hk2, hrec, hmore⟩ := recs_turned (ks := ks) (f := f) (x := x) HFIT.out (fun p hp => (HKE.out p hp).2) (by rw [HROW.out]; exact hx) hyw hne
    rw [HROW.out] at hrec
    have hkl := (List.getElem?_eq_some_iff.1 hp).1
    have hst := steps_recs (row.set f (bits .xor .u8 x mask))
    have hgw : ∀ n ∈ row.set f (bits .xor .u8 x mask), (Lit.int .u8 n).wf = true := set_wf8 HKW.out hyw f
    have hsm := recs_small hgw (by rw [List.length_set]; exact Nat.le_trans HRL.out (by decide))
    have hrn := recs_len (row.set f (bits .xor .u8 x mask))
    rw [List.length_set] at hrn
    rw [hrec] at hst hsm hrn
    obtain ⟨gs, hgs⟩ : ∃ gs, ks.take k ++ more = gs := ⟨_, rfl⟩
    rw [hgs] at hst hsm hrn
    have hgl : gs.length = k + more.length := by rw [← hgs, List.length_append, List.length_take, Nat.min_eq_left (Nat.le_of_lt hkl)]
    have hgt : gs.take k = ks.take k := by rw [← hgs, List.take_append_of_le_length (by rw [List.length_take, Nat.min_eq_left (Nat.le_of_lt hkl)]; exact Nat.le_refl _), List.take_take, Nat.min_self]
    have hgk : gs[k]? = more[0]? := by rw [← hgs, List.getElem?_append_right (by rw [List.length_take, Nat.min_eq_left (Nat.le_of_lt hkl)]; exact Nat.le_refl _), List.length_take, Nat.min_eq_left (Nat.le_of_lt hkl), Nat.sub_self]
    have HST := Lib.hid hst
    have HGW := Lib.hid hgw
    have HSM := Lib.hid hsm
    have HGM : Hid (gs.length ≤ maxLen) := Lib.hid (Nat.le_trans hrn (Nat.le_trans HRL.out (by decide)))
    have HGT := Lib.hid hgt
    have HGK := Lib.hid hgk
    have HMORE := Lib.hid hmore
    have HP := Lib.hid hp
    have HGL := Lib.hid hgl
    have d0 : ((row.length : Int) == 0) = false := beq_eq_false_iff_ne.2 (by omega)
    have d1 : (mask == 0) = false := beq_eq_false_iff_ne.2 hm0
    have hfl2 : (f : Int) < (row.length : Int) := by omega
    have P1 : Hid (0 + row.length ≤ maxLen) := by unfold Hid; rw [Nat.zero_add]; exact Nat.le_trans HRL.out (by decide)
    have P2 : Hid ((0 + row.length) * 1 ≤ 140737488355328) := by unfold Hid; rw [Nat.zero_add, Nat.mul_one]; exact Nat.le_trans HRL.out (by decide)
    have HRR := Lib.hid (HR.out.below (bl_alloc (bl_refl w1) (.cells #[] 5)))
    have HPOS : Hid (0 < row.length) := Lib.hid (by omega)
    have cW : IntKind.u64.wrap (row.length : Int) = (row.length : Int) := wrap_u64 (Nat.lt_of_le_of_lt HRL.out (by decide))
    have cN := rem_wrap hf (by omega) HRL.out
    obtain ⟨y, hy⟩ : ∃ y, bits .xor .u8 x mask = y := ⟨_, rfl⟩
    have HY := Lib.hid hy
    rw [hy] at HST HGW hyw
    have HX := Lib.hid hx
    have BA := Lib.hid (show ∀ (w3 : World), (w1.alloc (.cells #[] 5)).grownBy w3 (some w1.heap.size) → Below w1.heap.size w1 w3 from fun w3 hg => bl_grown (bl_alloc (bl_refl w1) _) hg (by intro k hk; cases hk; exact Nat.le_refl _))
    have RC := Lib.hid (show ∀ (g cap : Nat) (w3 : World), w3.ownsRow w1.heap.size 5 1 (.slice (some ⟨g, 0, none⟩) row.length cap) row.length (row.map (Value.int .u8)) → w3.cell? ⟨g, f, none⟩ = some (.int .u8 x) from fun g cap w3 h => by
      rw [h.cellAt f (by rw [Nat.mul_one]; exact hfl), List.getElem?_map, HX.out]; rfl)
    clear hst hsm hgw hgl hgt hgk hgs hp hmore hf hrec hxw hx hne hm0
    go_wp2_with (at_builtin; refine wpList_append_r _ rfl _ _ 22 rfl w1.heap.size 5 i0 (.int .u8 0) 1 Try.underlying22 hi hz0 hz1 hz2 rfl _ _ _ rfl (owns_empty w1 5 (Nat.le_refl _)) (Value.int .u8) _ row rfl HRR.out (by intros; rfl) P1.out P2.out (by simp) ?_; intro o2 w2 hO2 hg2 hne2; rw [Nat.zero_add, List.nil_append] at hO2; obtain ⟨g2, c2, rfl⟩ := own_pos hO2 HPOS.out; have hc2 := RC.out _ _ _ hO2; have hz2 := hO2.frozenAt f)
    have hge := (hO2.lt g2 rfl).1
    have hb3 : Below w1.heap.size w1 (w2.setCell ⟨g2, f, none⟩ (.int .u8 y)) := (BA.out _ hg2).setCell (p := ⟨g2, f, none⟩) hge _
    have hst := (hO2.stored f (.int .u8 y)).1
    rw [show (Value.int .u8 y) = (Value.int .u8) y from rfl, ← List.map_set] at hst
    have hrd : Reads (Value.int .u8) (w2.setCell ⟨g2, f, none⟩ (.int .u8 y)) (.slice (some ⟨g2, 0, none⟩) row.length c2) (row.set f y) :=
      Reads.of_owns (base := w1.heap.size) (e := 5) (by rw [List.length_set]; exact hst) (by rw [List.length_set]; exact Nat.le_trans HRL.out (by decide))
    have HKA3 := Lib.hid (HKA.out.below hb3)
    have HB3 := Lib.hid (bl_trans HB.out hb3)
    have HRD := Lib.hid hrd
    generalize w2.setCell ⟨g2, f, none⟩ (.int .u8 y) = w3 at HKA3 HB3 HRD ⊢
    clear hst hrd hb3 hge hO2 hg2 hne2 hc2 hz2
    refine (scan_any _ (row.set f y) gs HST HGW (by rw [List.length_set]; exact Nat.le_trans HRL.out (by decide)) w3 HRD.out).mono ?_
    rintro e w4 ⟨u, rfl, hO, hb⟩
    have hg := Lst.of_pays (hO.pays HGM.out HSM.out)
    obtain ⟨go, gc, rfl, hgc, _⟩ := hg.form
    have HG := Lib.hid hg
    have HK4 := Lib.hid (HKA3.out.below hb)
    have HB4 := Lib.hid (bl_trans HB3.out hb)
    have hkc := HK4.out.cap
    clear hO hb hg cN cW hC
    go_wp2_with fail
    go_loop [15, 16] (fun kk ee => ∃ j : Nat, j ≤ k ∧ kk = .int .i64 j ∧ ee = .int .i64 (place ks j : Nat)) (fun kk _ => leftN k kk)
    case atStart => exact ⟨0, by omega, rfl, by rw [place_zero]; rfl⟩
    case round =>
      obtain ⟨j, hj, rfl, rfl⟩ := hrel
      obtain ⟨pj, hpj⟩ := get_some (xs := ks) (k := j) (by omega)
      obtain ⟨b, o, xj, rfl, hcell, hxj⟩ := HK4.out.at_ hpj
      obtain ⟨_, xo, xc, rfl, _⟩ := hxj
      have hpl := recE_zero (HFIT.out pj (List.mem_of_getElem? hpj))
      have hnx := place_succ hpj
      have hlt2 : (j : Int) < (ks.length : Int) := by omega
      have hlt3 : decide (j < ks.length) = true := by simp; omega
      have hEj := place_mono (ks := ks) hj (Nat.le_of_lt hkl)
      have hfr : f ≤ 9437184 := Nat.le_trans (Nat.le_of_lt hfl) HRL.out
      by_cases hjk : j < k
      · have hmn := place_mono (ks := ks) (show j + 1 ≤ k from hjk) (Nat.le_of_lt hkl)
        rw [hnx] at hmn
        have HNX := Lib.hid hnx
        obtain ⟨E, hE⟩ : ∃ E, place ks j = E := ⟨_, rfl⟩
        rw [hE] at hmn hEj HNX ⊢
        have t1 : (E : Int) + 8 + (pj.length : Int) ≤ (f : Int) := by omega
        have t2 : decide (E + 8 + pj.length ≤ f) = true := by simp; omega
        have HV := Lib.hid (show ((place ks (j + 1) : Nat) : Int) = (E : Int) + 8 + (pj.length : Int) by rw [HNX.out]; omega)
        have HJ : Hid (j + 1 ≤ k) := Lib.hid hjk
        have hEf : E ≤ f := by omega
        obtain ⟨e1, e2⟩ := at_plus (E := E) (n := f) (l := pj.length) hEf hfr hpl.2
        have HEE := Lib.hid (show Value.int .i64 (wrap64 ((E : Int) + 8 + (pj.length : Int))) = .int .i64 ((place ks (j + 1) : Nat) : Int) by rw [e2, HV.out])
        have e3 := next_wrap (j := j) (Nat.le_trans (Nat.le_trans hj (Nat.le_of_lt hkl)) HKL.out)
        have HME := Lib.hid (show leftN k (.int .i64 (wrap64 ((j : Int) + 1))) < leftN k (.int .i64 (j : Int)) by rw [e3]; exact next_less hjk)
        have HKK := Lib.hid (show Value.int .i64 (wrap64 ((j : Int) + 1)) = .int .i64 ((j + 1 : Nat) : Int) by rw [e3]; rfl)
        clear e3
        clear hEf hpj hpl hnx hE hmn hEj hfr
        go_wp2
        go_round
        case rel => exact ⟨j + 1, HJ.out, HKK.out, HEE.out⟩
        case measure => exact HME.out
      · have hjk2 : j = k := by omega
        have hpp : pj = p := by rw [hjk2, HP.out] at hpj; exact (Option.some.inj hpj).symm
        rw [hpp, hjk2] at hcell
        rw [hjk2] at hlt2 hlt3
        rw [hpp] at hpl
        rw [hjk2]
        clear hpj hnx hEj hjk hjk2 hpp hj
        obtain ⟨E, hE⟩ : ∃ E, place ks k = E := ⟨_, rfl⟩
        rw [hE] at hk1 hk2 ⊢
        have t1 : ¬ (E : Int) + 8 + (p.length : Int) ≤ (f : Int) := by omega
        have t2 : decide (E + 8 + p.length ≤ f) = false := by simp; omega
        have g1 : decide (gs.length < k) = false := by have := HGL.out; simp; omega
        have g2' : ¬ (gs.length : Int) < (k : Int) := by have := HGL.out; omega
        have hkg : k ≤ gs.length := by have := HGL.out; omega
        have hfg : ∀ W, (Instr.sliceAt 30 (.slice go gs.length gc) none (some (.int .i64 k)) none).run Try.prog W = .ok (.slice go k gc) W := fun W => run_front (P := Try.prog) Try.underlying30 hj1 hy1 W go gs.length gc k (Nat.le_trans hkg hgc)
        have hfk : ∀ W, (Instr.sliceAt 30 (.slice (some ⟨b, o, none⟩) ks.length kc) none (some (.int .i64 k)) none).run Try.prog W = .ok (.slice (some ⟨b, o, none⟩) k kc) W := fun W => run_front (P := Try.prog) Try.underlying30 hj1 hy1 W (some ⟨b, o, none⟩) ks.length kc k (Nat.le_trans (Nat.le_of_lt hkl) hkc)
        have HGF := Lib.hid (lst_front HG.out hkg)
        have HKF := Lib.hid (lst_front HK4.out (Nat.le_of_lt hkl))
        rw [HGT.out] at HGF
        obtain ⟨ts, hts⟩ : ∃ ts, ks.take k = ts := ⟨_, rfl⟩
        rw [hts] at HGF HKF
        obtain ⟨e1, e2⟩ := at_plus (E := E) (n := f) (l := p.length) hk1 hfr hpl.2
        clear hk1 hk2 hfr hpl hE hts hfl hkl hkg hgc hkc
        go_wp2_with fail
        refine wp_region_later (by kernel_rfl) (by kernel_rfl) ?_
        repeat (go_big_quiet_step ((first | (go_at_call 16; exact calls_later (same03_eq _ _ ts _ (lst_later HGF.out _) (lst_later HKF.out _))))))
        refine wpQuiet_nil ?_
        rintro _ ⟨x5, rfl⟩
        have HB5 := Lib.hid (bl_trans HB4.out x5.h)
        have HG5 := Lib.hid (lst_later HG.out x5)
        have HK5 := Lib.hid (lst_later HK4.out x5)
        generalize x5.w = w5 at HB5 HG5 HK5 ⊢
        cases hmc : more with
        | nil =>
          have hgk2 : gs.length = k := by rw [HGL.out, hmc]; rfl
          have q1 : ((gs.length : Int) == (k : Int)) = true := beq_iff_eq.2 (by omega)
          have q2 : decide (gs.length = k) = true := decide_eq_true hgk2
          have q3 : (gs.length == k) = true := beq_iff_eq.2 hgk2
          clear hmc hgk2
          go_wp2_with fail
          refine wp_region_later (by kernel_rfl) (by kernel_rfl) ?_
          repeat (go_big_quiet_step ((first | (go_at_call 11; exact calls_later (awake_any _)))))
          refine wpQuiet_nil ?_
          rintro _ ⟨x6, rfl⟩
          go_wp2
          go_ret
          exact ⟨rfl, bl_trans HB5.out x6.h⟩
        | cons q more2 =>
          have hgl2 : k < gs.length := by rw [HGL.out, hmc]; simp
          have hgq : gs[k]? = some q := by rw [HGK.out, hmc]; rfl
          have hql := HMORE.out q (by rw [hmc]; rfl)
          obtain ⟨bg, og, xg, rfl, hcg, hxg⟩ := HG5.out.at_ hgq
          obtain ⟨bk, ok, xk, hke, hck, hxk⟩ := HK5.out.at_ HP.out
          cases hke
          obtain ⟨_, xgo, xgc, rfl, _⟩ := hxg
          obtain ⟨_, xko, xkc, rfl, _⟩ := hxk
          have lg := Later.cell hcg
          have lk := Later.cell hck
          have q1 : ((gs.length : Int) == (k : Int)) = false := beq_eq_false_iff_ne.2 (by omega)
          have q2 : decide (gs.length = k) = false := decide_eq_false (by omega)
          have q3 : (gs.length == k) = false := beq_eq_false_iff_ne.2 (by omega)
          have q4 : ((q.length : Int) != (p.length : Int)) = true := bne_iff_ne.2 (by omega)
          have q5 : (k : Int) < (gs.length : Int) := by omega
          have q6 : decide (q.length = p.length) = false := decide_eq_false hql
          have q7 : (q.length == p.length) = false := beq_eq_false_iff_ne.2 hql
          clear hmc hgq hcg hck
          go_wp2_with fail
          refine wp_region_later (by kernel_rfl) (by kernel_rfl) ?_
          repeat (go_big_quiet_step ((first | (go_at_call 11; exact calls_later (awake_any _)))))
          refine wpQuiet_nil ?_
          rintro _ ⟨x6, rfl⟩
          go_wp2
          go_ret
          exact ⟨rfl, bl_trans HB5.out x6.h⟩

end Go.Proofs.Ytaembdlidaogdaa
