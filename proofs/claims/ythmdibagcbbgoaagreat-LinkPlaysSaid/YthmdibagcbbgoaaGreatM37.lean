/- portageref09.setups, Out, In. portageref08: Numbers, Missing, Check. Conditions: as they stand. -/
import Derived.Test.YthmdibagcbbgoaaGreatM36
import Derived.Test.YthmdibagcbbgoaaGreatM26
import Derived.BigQuiet
import Derived.Deep.RegionHeld3
import Derived.Test.YthmdibagcbbgoaaGreatM34
namespace Go.Proofs.YthmdibagcbbgoaaGreat
open Go.RowKit

def Lk.setups (t : Lk) (c : Cn) : Lk := if c.kind = 5 then t.sabme c.me c.p else if c.kind = 6 then t.ua c.peer c.me else if c.kind = 7 then t.dm c.peer c.me else t
theorem sabmed_known (t : Lk) (m : Int) : t.sabmed m = t.known m := rfl
theorem known_out (t : Lk) (m : Int) : (t.known m).out = t.out := by unfold Lk.known; split <;> rfl

set_option maxRecDepth 100000 in
set_option maxHeartbeats 4000000 in
theorem r9setups_any (C : Nat → Prop) (w : World) (sl rl ra ov iv : Value) (t : Lk) (h : RfAt C w sl rl ra ov iv t) (c : Cn) (xo : Option Addr) (xn xc : Nat) (hme : t.me < 65536) (hk5 : 5 ≤ c.kind) (hk7 : c.kind ≤ 7) (hm : t.out.length ≤ 700000) :
    Calls Tryz.prog 54 #[.agg (t.ref sl rl ra ov iv), .agg #[.int .i64 c.kind, .int .i64 c.ns, .int .i64 c.nr, .bool c.p, .int .i64 c.me, .int .i64 c.peer, .slice xo xn xc]] w fun e w' => Rf9 C w (t.setups c) e w' := by
  obtain ⟨W0, hW0, hB0, hc0⟩ := h.boxes3 #[.int .i64 c.kind, .int .i64 c.ns, .int .i64 c.nr, .bool c.p, .int .i64 c.me, .int .i64 c.peer, .slice xo xn xc]
  have B0 := Lib.hid hB0
  have A0 := Lib.hid hB0.ba
  have HC0 := Lib.hid hc0
  have k0 : W0.cell? ⟨w.heap.size + 1, 0, none⟩ = some (.int .i64 c.kind) := by rw [cell_of_row _ _ _ _ _ _ hc0]; rfl
  have k3 : W0.cell? ⟨w.heap.size + 1, 3, none⟩ = some (.bool c.p) := by rw [cell_of_row _ _ _ _ _ _ hc0]; rfl
  have k4 : W0.cell? ⟨w.heap.size + 1, 4, none⟩ = some (.int .i64 c.me) := by rw [cell_of_row _ _ _ _ _ _ hc0]; rfl
  have k5 : W0.cell? ⟨w.heap.size + 1, 5, none⟩ = some (.int .i64 c.peer) := by rw [cell_of_row _ _ _ _ _ _ hc0]; rfl
  have c0 : W0.cell? ⟨w.heap.size, 0, none⟩ = some (.int .i64 t.me) := hB0.cell 0 rfl
  have c1 : W0.cell? ⟨w.heap.size, 1, none⟩ = some (.int .i64 t.peer) := hB0.cell 1 rfl
  have c2 : W0.cell? ⟨w.heap.size, 2, none⟩ = some (.bool t.up) := hB0.cell 2 rfl
  obtain ⟨T, hT⟩ : ∃ T, t.setups c = T := ⟨_, rfl⟩
  rw [hT]
  have HQ : Hid (T = t.setups c) := hT.symm
  clear hc0 hT
  by_cases h5 : c.kind = 5
  · have e : T = (t.known c.me).send ⟨6, 0, 0, c.p, 0, (t.known c.me).peer, []⟩ := by rw [HQ.out]; unfold Lk.setups; rw [if_pos h5]; rfl
    rw [h5] at k0
    have HK := r9known_any _ W0 _ _ _ _ _ _ hB0.rf c.me
    obtain ⟨q, hq⟩ : ∃ q, t.known c.me = q := ⟨_, rfl⟩
    have hqo : q.out.length ≤ 700000 := by rw [← hq, known_out]; exact hm
    rw [hq] at e HK
    have HE := Lib.hid e
    clear hB0 h HQ e hq h5
    go_enter Tryz.func54, Tryz.ntmps54
    go_wp2_with (first | simp only [hW0] | (with_reducible show wpList _ _ _ (⟨_, .load 38 (.tmp 2), _, _, _, none⟩ :: _) _ _; refine RowKit.Hid.out ?_))
    refine Lib.hid ?_
    refine wpList_load_row rfl 38 (.tmp 2) rfl _ rfl _ _ (0, 0) _ A0.out Tryz.underlying38 rfl infoL9 ?_
    go_wp2_with fail
    refine (HK).mono ?_
    rintro e W1 ⟨⟨sl1, rl1, ra1, ov1, iv1, rfl, hr1⟩, hb1⟩
    have m3 := below_cell hb1 k3
    go_wp2_with (with_reducible show wpList _ _ _ (⟨_, .store 38 (.tmp 2) (.tmp 11), _, _, _, none⟩ :: _) _ _; refine RowKit.Hid.out ?_)
    refine Lib.hid ?_
    refine wpList_store_row rfl 38 (.tmp 2) (.tmp 11) rfl _ _ rfl rfl _ _ (bl_get hb1 B0.out.ba) infoL9 rfl hr1.one ?_
    have hB1 := B0.out.stored hb1 hr1
    have hF1 := fr_row W1 w.heap.size (Lk.ref q sl1 rl1 ra1 ov1 iv1)
    obtain ⟨V1, hV1⟩ : ∃ V, W1.setRow w.heap.size (Lk.ref q sl1 rl1 ra1 ov1 iv1) = V := ⟨_, rfl⟩
    rw [hV1] at hB1 hF1 ⊢
    have B1 := Lib.hid hB1
    have A1 := Lib.hid hB1.ba
    clear hB1 hV1
    have n3 : V1.cell? ⟨w.heap.size + 1, 3, none⟩ = some (.bool c.p) := hF1.cell m3 (by omega)
    have n1 := B1.out.cell 1 (v := .int .i64 q.peer) rfl
    have HS := r9send_any _ V1 _ _ _ _ _ _ B1.out.rf ⟨6, 0, 0, c.p, 0, q.peer, []⟩ _ (byt_nil _ _) (by omega)
    rw [← HE.out] at HS
    clear hb1 hr1 HK hF1 k0 k3 k4 k5 c0 c1 c2 HE m3
    go_wp2_with (with_reducible show wpList _ _ _ (⟨_, .load 38 (.tmp 2), _, _, _, none⟩ :: _) _ _; refine RowKit.Hid.out ?_)
    refine Lib.hid ?_
    refine wpList_load_row rfl 38 (.tmp 2) rfl _ rfl _ _ (0, 0) _ A1.out Tryz.underlying38 rfl infoL9 ?_
    go_wp2_with fail
    refine (HS).mono ?_
    rintro e W2 ⟨⟨sl2, rl2, ra2, ov2, iv2, rfl, hr2⟩, hb2⟩
    go_wp2_with (with_reducible show wpList _ _ _ (⟨_, .store 38 (.tmp 4) (.tmp 18), _, _, _, none⟩ :: _) _ _; refine RowKit.Hid.out ?_)
    refine Lib.hid ?_
    obtain ⟨cs, hcs, hz⟩ := B1.out.bz
    refine wpList_store_row rfl 38 (.tmp 4) (.tmp 18) rfl _ _ rfl rfl _ _ (bl_get hb2 hz) infoL9 hcs hr2.one ?_
    obtain ⟨hret, hrow⟩ := B1.out.rets hb2 hr2
    go_wp2_with fail
    refine bodyPost_ret (results_cell_row rfl _ _ (w.heap.size + 1 + 1) 38 _ (0, 0) _ rfl hrow Tryz.underlying38 rfl infoL9) rfl ?_
    exact hret
  · by_cases hp : c.peer = t.me
    · by_cases h6 : c.kind = 6
      · rw [h6] at k0
        have e0 : T = t.ua c.peer c.me := by rw [HQ.out]; unfold Lk.setups; rw [if_neg h5, if_pos h6]
        rw [hp] at k5
        cases hup : t.up with
        | false =>
          have e : T = (t.known c.me).heard := by
            rw [e0]
            unfold Lk.ua
            rw [if_pos ⟨hp, hup⟩]
            unfold Lk.known
            rw [hup]
            split <;> rfl
          rw [hup] at c2
          have HK := r9known_any _ W0 _ _ _ _ _ _ hB0.rf c.me
          obtain ⟨q, hq⟩ : ∃ q, t.known c.me = q := ⟨_, rfl⟩
          rw [hq] at e HK
          have HE := Lib.hid e
          clear hB0 h HQ e hq h5 h6 e0 hp hup
          go_enter Tryz.func54, Tryz.ntmps54
          go_wp2_with (first | simp only [hW0] | (with_reducible show wpList _ _ _ (⟨_, .load 38 (.tmp 2), _, _, _, none⟩ :: _) _ _; refine RowKit.Hid.out ?_))
          refine Lib.hid ?_
          refine wpList_load_row rfl 38 (.tmp 2) rfl _ rfl _ _ (0, 0) _ A0.out Tryz.underlying38 rfl infoL9 ?_
          go_wp2_with fail
          refine (HK).mono ?_
          rintro e W1 ⟨⟨sl1, rl1, ra1, ov1, iv1, rfl, hr1⟩, hb1⟩
          have HH := r9heard_any _ W1 _ _ _ _ _ _ hr1
          rw [← HE.out] at HH
          have HB1 := Lib.hid hb1
          clear hr1 hb1 HK HE
          go_wp2_with fail
          refine (HH).mono ?_
          rintro e W2 ⟨⟨sl2, rl2, ra2, ov2, iv2, rfl, hr2⟩, hb2⟩
          have hb12 := bl_trans HB1.out hb2
          go_wp2_with (with_reducible show wpList _ _ _ (⟨_, .store 38 (.tmp 4) (.tmp 37), _, _, _, none⟩ :: _) _ _; refine RowKit.Hid.out ?_)
          refine Lib.hid ?_
          obtain ⟨cs, hcs, hz⟩ := B0.out.bz
          refine wpList_store_row rfl 38 (.tmp 4) (.tmp 37) rfl _ _ rfl rfl _ _ (bl_get hb12 hz) infoL9 hcs hr2.one ?_
          obtain ⟨hret, hrow⟩ := B0.out.rets hb12 hr2
          go_wp2_with fail
          refine bodyPost_ret (results_cell_row rfl _ _ (w.heap.size + 1 + 1) 38 _ (0, 0) _ rfl hrow Tryz.underlying38 rfl infoL9) rfl ?_
          exact hret
        | true =>
          have e : T = t := by rw [e0]; unfold Lk.ua; rw [if_neg (by rw [hup]; simp)]
          subst e
          rw [hup] at c2
          clear hB0 h HQ h5 h6 e0 hp hup
          go_enter Tryz.func54, Tryz.ntmps54
          go_wp2_with (first | simp only [hW0] | (with_reducible show wpList _ _ _ (⟨_, .load 38 (.tmp 2), _, _, _, none⟩ :: _) _ _; refine RowKit.Hid.out ?_))
          refine Lib.hid ?_
          refine wpList_load_row rfl 38 (.tmp 2) rfl _ rfl _ _ (0, 0) _ A0.out Tryz.underlying38 rfl infoL9 ?_
          go_wp2_with (with_reducible show wpList _ _ _ (⟨_, .store 38 (.tmp 4) (.tmp 54), _, _, _, none⟩ :: _) _ _; refine RowKit.Hid.out ?_)
          refine Lib.hid ?_
          obtain ⟨cs, hcs, hz⟩ := B0.out.bz
          have hone := B0.out.rf.one
          refine wpList_store_row rfl 38 (.tmp 4) (.tmp 54) rfl _ _ rfl rfl _ _ hz infoL9 hcs hone ?_
          obtain ⟨hret, hrow⟩ := B0.out.ret
          go_wp2_with fail
          refine bodyPost_ret (results_cell_row rfl _ _ (w.heap.size + 1 + 1) 38 _ (0, 0) _ rfl hrow Tryz.underlying38 rfl infoL9) rfl ?_
          exact hret
      · have h7 : c.kind = 7 := by omega
        rw [h7] at k0
        have e0 : T = t.dm c.peer c.me := by rw [HQ.out]; unfold Lk.setups; rw [if_neg h5, if_neg h6, if_pos h7]
        rw [hp] at k5
        cases hup : t.up with
        | false =>
          have e : T = t := by rw [e0]; unfold Lk.dm; rw [if_neg (by rw [hup]; simp)]
          subst e
          rw [hup] at c2
          clear hB0 h HQ h5 h6 h7 e0 hp hup
          go_enter Tryz.func54, Tryz.ntmps54
          go_wp2_with (first | simp only [hW0] | (with_reducible show wpList _ _ _ (⟨_, .load 38 (.tmp 2), _, _, _, none⟩ :: _) _ _; refine RowKit.Hid.out ?_))
          refine Lib.hid ?_
          refine wpList_load_row rfl 38 (.tmp 2) rfl _ rfl _ _ (0, 0) _ A0.out Tryz.underlying38 rfl infoL9 ?_
          go_wp2_with (with_reducible show wpList _ _ _ (⟨_, .store 38 (.tmp 4) (.tmp 54), _, _, _, none⟩ :: _) _ _; refine RowKit.Hid.out ?_)
          refine Lib.hid ?_
          obtain ⟨cs, hcs, hz⟩ := B0.out.bz
          have hone := B0.out.rf.one
          refine wpList_store_row rfl 38 (.tmp 4) (.tmp 54) rfl _ _ rfl rfl _ _ hz infoL9 hcs hone ?_
          obtain ⟨hret, hrow⟩ := B0.out.ret
          go_wp2_with fail
          refine bodyPost_ret (results_cell_row rfl _ _ (w.heap.size + 1 + 1) 38 _ (0, 0) _ rfl hrow Tryz.underlying38 rfl infoL9) rfl ?_
          exact hret
        | true =>
          rw [hup] at c2
          by_cases hmp : c.me = t.peer
          · have e : T = t := by rw [e0]; unfold Lk.dm; rw [if_neg (fun g => g.2.2 hmp)]
            subst e
            rw [hmp] at k4
            clear hB0 h HQ h5 h6 h7 e0 hp hup hmp
            go_enter Tryz.func54, Tryz.ntmps54
            go_wp2_with (first | simp only [hW0] | (with_reducible show wpList _ _ _ (⟨_, .load 38 (.tmp 2), _, _, _, none⟩ :: _) _ _; refine RowKit.Hid.out ?_))
            refine Lib.hid ?_
            refine wpList_load_row rfl 38 (.tmp 2) rfl _ rfl _ _ (0, 0) _ A0.out Tryz.underlying38 rfl infoL9 ?_
            go_wp2_with (with_reducible show wpList _ _ _ (⟨_, .store 38 (.tmp 4) (.tmp 54), _, _, _, none⟩ :: _) _ _; refine RowKit.Hid.out ?_)
            refine Lib.hid ?_
            obtain ⟨cs, hcs, hz⟩ := B0.out.bz
            have hone := B0.out.rf.one
            refine wpList_store_row rfl 38 (.tmp 4) (.tmp 54) rfl _ _ rfl rfl _ _ hz infoL9 hcs hone ?_
            obtain ⟨hret, hrow⟩ := B0.out.ret
            go_wp2_with fail
            refine bodyPost_ret (results_cell_row rfl _ _ (w.heap.size + 1 + 1) 38 _ (0, 0) _ rfl hrow Tryz.underlying38 rfl infoL9) rfl ?_
            exact hret
          · have e : T = t.anew := by rw [e0]; unfold Lk.dm; rw [if_pos ⟨hup, hp, hmp⟩]
            subst e
            have HA := r9anew_any _ W0 _ _ _ _ _ _ hB0.rf hme (by omega)
            clear hB0 h HQ h5 h6 h7 e0 hp hup
            go_enter Tryz.func54, Tryz.ntmps54
            go_wp2_with (first | simp only [hW0] | (with_reducible show wpList _ _ _ (⟨_, .load 38 (.tmp 2), _, _, _, none⟩ :: _) _ _; refine RowKit.Hid.out ?_))
            refine Lib.hid ?_
            refine wpList_load_row rfl 38 (.tmp 2) rfl _ rfl _ _ (0, 0) _ A0.out Tryz.underlying38 rfl infoL9 ?_
            go_wp2_with fail
            refine (HA).mono ?_
            rintro e W1 ⟨⟨sl1, rl1, ra1, ov1, iv1, rfl, hr1⟩, hb1⟩
            go_wp2_with (with_reducible show wpList _ _ _ (⟨_, .store 38 (.tmp 4) (.tmp 53), _, _, _, none⟩ :: _) _ _; refine RowKit.Hid.out ?_)
            refine Lib.hid ?_
            obtain ⟨cs, hcs, hz⟩ := B0.out.bz
            refine wpList_store_row rfl 38 (.tmp 4) (.tmp 53) rfl _ _ rfl rfl _ _ (bl_get hb1 hz) infoL9 hcs hr1.one ?_
            obtain ⟨hret, hrow⟩ := B0.out.rets hb1 hr1
            go_wp2_with fail
            refine bodyPost_ret (results_cell_row rfl _ _ (w.heap.size + 1 + 1) 38 _ (0, 0) _ rfl hrow Tryz.underlying38 rfl infoL9) rfl ?_
            exact hret
    · have e : T = t := by
        rw [HQ.out]
        unfold Lk.setups Lk.ua Lk.dm
        rw [if_neg h5]
        split
        · rw [if_neg (fun g => hp g.1)]
        split
        · rw [if_neg (fun g => hp g.2.1)]
        · rfl
      have hp' : ¬ c.peer = t.me := hp
      subst e
      clear hB0 h HQ hp
      go_enter Tryz.func54, Tryz.ntmps54
      go_wp2_with (first | simp only [hW0] | (with_reducible show wpList _ _ _ (⟨_, .load 38 (.tmp 2), _, _, _, none⟩ :: _) _ _; refine RowKit.Hid.out ?_))
      refine Lib.hid ?_
      refine wpList_load_row rfl 38 (.tmp 2) rfl _ rfl _ _ (0, 0) _ A0.out Tryz.underlying38 rfl infoL9 ?_
      go_wp2_with (with_reducible show wpList _ _ _ (⟨_, .store 38 (.tmp 4) (.tmp 24), _, _, _, none⟩ :: _) _ _; refine RowKit.Hid.out ?_)
      refine Lib.hid ?_
      obtain ⟨cs, hcs, hz⟩ := B0.out.bz
      have hone := B0.out.rf.one
      refine wpList_store_row rfl 38 (.tmp 4) (.tmp 24) rfl _ _ rfl rfl _ _ hz infoL9 hcs hone ?_
      obtain ⟨hret, hrow⟩ := B0.out.ret
      go_wp2_with fail
      refine bodyPost_ret (results_cell_row rfl _ _ (w.heap.size + 1 + 1) 38 _ (0, 0) _ rfl hrow Tryz.underlying38 rfl infoL9) rfl ?_
      exact hret

set_option maxRecDepth 100000 in
set_option maxHeartbeats 4000000 in
theorem r9out_any (C : Nat → Prop) (w : World) (sl rl ra ov iv : Value) (t : Lk) (h : RfAt C w sl rl ra ov iv t) :
    Calls Tryz.prog 8 #[.agg (t.ref sl rl ra ov iv)] w fun e w' => (∃ sl' rl' ra' ov' iv', e = .returned (.tuple #[.agg (Lk.ref { t with out := [] } sl' rl' ra' ov' iv'), ov]) ∧ RfAt C w' sl' rl' ra' ov' iv' { t with out := [] }) ∧ Below w.heap.size w w' := by
  obtain ⟨_, _, _, ⟨oo, on, oc, rfl⟩, io, inn, ic, rfl⟩ := h.form
  obtain ⟨W0, hW0, hB0⟩ := h.boxes
  have B0 := Lib.hid hB0
  have A0 := Lib.hid hB0.ba
  have c9 : W0.cell? ⟨w.heap.size, 18, none⟩ = some (.slice oo on oc) := hB0.cell 18 rfl
  have z9 := hB0.frozen 18
  have hB1 := hB0.put (t' := { t with out := [] }) (ov' := .slice none 0 0) 18 (.slice none 0 0) rfl ⟨hB0.rf.lim, hB0.rf.snd, hB0.rf.kept, hB0.rf.asked, Els.nil _ _ _, hB0.rf.inn⟩
  obtain ⟨V1, hV1⟩ : ∃ V, W0.setCell ⟨w.heap.size, 18, none⟩ (.slice none 0 0) = V := ⟨_, rfl⟩
  rw [hV1] at hB1
  have B1 := Lib.hid hB1
  have A1 := Lib.hid hB1.ba
  clear hB0 hB1 h
  go_enter Tryz.func8, Tryz.ntmps8
  go_wp2_with (first | simp only [hW0] | (with_reducible show wpList _ _ _ (⟨_, .load 38 (.tmp 1), _, _, _, none⟩ :: _) _ _; refine RowKit.Hid.out ?_))
  refine Lib.hid ?_
  refine wpList_load_row rfl 38 (.tmp 1) rfl _ rfl _ _ (0, 0) _ A1.out Tryz.underlying38 rfl infoL9 ?_
  go_wp2_with (with_reducible show wpList _ _ _ (⟨_, .store 38 (.tmp 2) (.tmp 8), _, _, _, none⟩ :: _) _ _; refine RowKit.Hid.out ?_)
  refine Lib.hid ?_
  obtain ⟨cs, hcs, hz⟩ := B1.out.bz
  have hone := B1.out.rf.one
  refine wpList_store_row rfl 38 (.tmp 2) (.tmp 8) rfl _ _ rfl rfl _ _ hz infoL9 hcs hone ?_
  obtain ⟨hret, hbl, hrow⟩ := B1.out.rets2 (bl_refl _) B1.out.rf
  go_wp2_with fail
  refine bodyPost_ret (results_tmp_row rfl _ _ (w.heap.size + 1) 38 _ (0, 0) _ rfl hrow Tryz.underlying38 rfl infoL9) rfl ?_
  exact ⟨⟨_, _, _, _, _, rfl, hret⟩, hbl⟩

set_option maxRecDepth 100000 in
set_option maxHeartbeats 4000000 in
theorem r9in_any (C : Nat → Prop) (w : World) (sl rl ra ov iv : Value) (t : Lk) (h : RfAt C w sl rl ra ov iv t) :
    Calls Tryz.prog 9 #[.agg (t.ref sl rl ra ov iv)] w fun e w' => (∃ sl' rl' ra' ov' iv', e = .returned (.tuple #[.agg (Lk.ref { t with inn := [] } sl' rl' ra' ov' iv'), iv]) ∧ RfAt C w' sl' rl' ra' ov' iv' { t with inn := [] }) ∧ Below w.heap.size w w' := by
  obtain ⟨_, _, _, ⟨oo, on, oc, rfl⟩, io, inn, ic, rfl⟩ := h.form
  obtain ⟨W0, hW0, hB0⟩ := h.boxes
  have B0 := Lib.hid hB0
  have A0 := Lib.hid hB0.ba
  have c9 : W0.cell? ⟨w.heap.size, 19, none⟩ = some (.slice io inn ic) := hB0.cell 19 rfl
  have z9 := hB0.frozen 19
  have hB1 := hB0.put (t' := { t with inn := [] }) (iv' := .slice none 0 0) 19 (.slice none 0 0) rfl ⟨hB0.rf.lim, hB0.rf.snd, hB0.rf.kept, hB0.rf.asked, hB0.rf.out, Pays.nil _ _⟩
  obtain ⟨V1, hV1⟩ : ∃ V, W0.setCell ⟨w.heap.size, 19, none⟩ (.slice none 0 0) = V := ⟨_, rfl⟩
  rw [hV1] at hB1
  have B1 := Lib.hid hB1
  have A1 := Lib.hid hB1.ba
  clear hB0 hB1 h
  go_enter Tryz.func9, Tryz.ntmps9
  go_wp2_with (first | simp only [hW0] | (with_reducible show wpList _ _ _ (⟨_, .load 38 (.tmp 1), _, _, _, none⟩ :: _) _ _; refine RowKit.Hid.out ?_))
  refine Lib.hid ?_
  refine wpList_load_row rfl 38 (.tmp 1) rfl _ rfl _ _ (0, 0) _ A1.out Tryz.underlying38 rfl infoL9 ?_
  go_wp2_with (with_reducible show wpList _ _ _ (⟨_, .store 38 (.tmp 2) (.tmp 8), _, _, _, none⟩ :: _) _ _; refine RowKit.Hid.out ?_)
  refine Lib.hid ?_
  obtain ⟨cs, hcs, hz⟩ := B1.out.bz
  have hone := B1.out.rf.one
  refine wpList_store_row rfl 38 (.tmp 2) (.tmp 8) rfl _ _ rfl rfl _ _ hz infoL9 hcs hone ?_
  obtain ⟨hret, hbl, hrow⟩ := B1.out.rets2 (bl_refl _) B1.out.rf
  go_wp2_with fail
  refine bodyPost_ret (results_tmp_row rfl _ _ (w.heap.size + 1) 38 _ (0, 0) _ rfl hrow Tryz.underlying38 rfl infoL9) rfl ?_
  exact ⟨⟨_, _, _, _, _, rfl, hret⟩, hbl⟩

end Go.Proofs.YthmdibagcbbgoaaGreat

namespace Go.Proofs.YthmdibagcbbgoaaGreat
open Go.RowKit

theorem rcv_box (w : World) (r : Rcv) (rl ra : Value) : ∃ W, w.alloc (.cells #[.int .i64 r.size, .int .i64 r.waits, rl, ra] 35) = W ∧ Below w.heap.size w W ∧ W.heap[w.heap.size]? = some (.cells #[.int .i64 r.size, .int .i64 r.waits, rl, ra] 35 (0, 0)) ∧ W.heap.size = w.heap.size + 1 :=
  ⟨_, rfl, bl_alloc (bl_refl w) _, heap_alloc_new w _, by simp⟩

theorem own_mono8 {w : World} {b b' : Nat} {e : TypeId} {s : Nat} {v : Value} {n : Nat} {xs : List Value} (h : w.ownsRow b e s v n xs) (hb : b' ≤ b) : w.ownsRow b' e s v n xs := by
  refine ⟨h.1, ?_⟩
  rcases h.2 with h | ⟨g, cap, cur, rfl, hbg, r⟩
  · exact .inl h
  · exact .inr ⟨g, cap, cur, rfl, by omega, r⟩

set_option maxRecDepth 100000 in
set_option maxHeartbeats 2000000 in
theorem r8numbers_any (F : Nat → Prop) (r : Rcv) (rl ra : Value) (w : World) (h : Els kKept F w rl r.kept) (hlen : r.kept.length ≤ 1000) :
    Calls Tryz.prog 107 #[refR r rl ra] w fun e w' => ∃ u, e = .returned u ∧ w'.ownsRow w.heap.size 3 1 u r.numbers.length (r.numbers.map (Value.int .i64)) ∧ Below w.heap.size w w' := by
  obtain ⟨i0, hi, hz0, hz1, hz2⟩ := info_parts infoInt
  obtain ⟨ao, cap, rfl, hlc, _⟩ := h.form
  have HKL : Hid (r.keys.length = r.kept.length) := by unfold Hid Rcv.keys; simp
  unfold refR
  obtain ⟨W1, hW1, hb1, hx1, hs1⟩ := rcv_box w r (.slice ao r.kept.length cap) ra
  have HL := Lib.hid h
  have hE := owns_empty W1 (base := w.heap.size) 3 hb1.size
  have hB1 := bl_alloc hb1 (.cells #[] 3)
  have hxa := kept_alloc hx1 (.cells #[] 3)
  have hne0 : some w.heap.size ≠ (Value.slice (some ⟨W1.heap.size, 0, none⟩) 0 0).ownBlock := by simp [Value.ownBlock]; omega
  clear h hb1 hx1 hs1
  go_enter Tryz.func107, Tryz.ntmps107
  go_wp2_with (simp only [hW1])
  go_loopw [3, 4] (fun u k wr => ∃ i : Nat, i ≤ r.kept.length ∧ k = .int .i64 i ∧ wr.ownsRow w.heap.size 3 1 u (r.keys.take i).length ((r.keys.take i).map (Value.int .i64)) ∧ Below w.heap.size w wr ∧ wr.heap[w.heap.size]? = some (.cells #[.int .i64 r.size, .int .i64 r.waits, .slice ao r.kept.length cap, ra] 35 (0, 0)) ∧ some w.heap.size ≠ u.ownBlock)
    (fun _ k _ => 1001 - (intOf k).toNat)
  case atStart => exact ⟨0, by omega, rfl, by simpa using hE, hB1, hxa, hne0⟩
  case round =>
    obtain ⟨k, hk, rfl, hown, hB, hgr, hne⟩ := hrel
    clear hE hB1 hxa hne0
    obtain ⟨a0, a1, a2, a3⟩ := rc_cells hgr
    by_cases hlt : k < r.kept.length
    · obtain ⟨c, hc⟩ := get_some hlt
      obtain ⟨b, o, x, rfl, _, hcell, _⟩ := ((HL.out.below hB).at_) hc
      have c0 : wr.cell? ⟨b, o + (k * 2 + 0), none⟩ = some (.int .i64 c.1) := hcell 0 _ rfl
      rw [Nat.add_zero] at c0
      have f0 : (0 : Int) ≤ (k : Int) := by omega
      have f1 : (k : Int) < (r.kept.length : Int) := by omega
      have hkk : Hid (r.keys.take (k + 1) = r.keys.take k ++ [c.1]) := by
        unfold Hid
        rw [List.take_add_one]
        unfold Rcv.keys
        rw [List.getElem?_map, hc]
        rfl
      have hle : (r.keys.take k).length ≤ 1000 := by rw [List.length_take]; omega
      have Q1 : (r.keys.take k).length + [c.1].length ≤ maxLen := by unfold maxLen; simp only [List.length_singleton]; omega
      have Q2 : ((r.keys.take k).length + [c.1].length) * 8 ≤ 140737488355328 := by simp only [List.length_singleton]; omega
      have Q3 : w.heap.size ≤ (wr.alloc (.cells #[.int .i64 c.1] 3)).heap.size := (bl_alloc hB _).size
      clear hcell hc
      go_wp2_with (at_builtin; refine wpList_append_r _ rfl _ _ 33 rfl w.heap.size 3 i0 (.int .i64 0) 8 Tryz.underlying33 hi hz0 hz1 hz2 rfl _ _ _ rfl (hown.alloc _) (Value.int .i64) _ [c.1] rfl (reads_one _ _ _ _) (by simp [Value.oneCell']) Q1 Q2 Q3 ?_; intro v' w2 hown' hgrow hne')
      go_roundw
      case rel =>
        refine ⟨k + 1, by omega, by go_num, ?_, bl_grown (bl_alloc hB _) hgrow (owns_row_ge hown), kept_block (kept_alloc hgr _) hgrow hne, hne' w.heap.size (by have := lt_of_get hgr; simp; omega) hne⟩
        rw [hkk.out]; simpa using hown'
      case measure => simp [intOf]; omega
    · obtain rfl : k = r.kept.length := by omega
      have e : r.keys.take r.kept.length = r.keys := List.take_of_length_le (by rw [HKL.out]; omega)
      rw [e] at hown
      have hl9 : r.keys.length ≤ maxLen := by rw [HKL.out]; unfold maxLen; omega
      have hS := rsort_any (r.waits : Int) _ r.keys wr (Reads.of_owns hown hl9)
      obtain ⟨uo, uc, rfl⟩ := rc_form hown
      have HB := Lib.hid hB
      clear hown hgr hne hB e hl9 hlt
      go_wp2_with fail
      refine hS.mono ?_
      rintro e w2 ⟨u2, rfl, hown2, hb2⟩
      have hB2 := bl_trans HB.out hb2
      have hO2 := own_mono8 hown2 HB.out.size
      clear hown2 hb2
      go_wp2
      go_ret
      exact ⟨_, rfl, hO2, hB2⟩

set_option maxRecDepth 100000 in
set_option maxHeartbeats 2000000 in
theorem r8missing_any (F : Nat → Prop) (r : Rcv) (rl ra : Value) (w : World) (h : Els kKept F w rl r.kept) (hlen : r.kept.length ≤ 1000) (hra : ∃ o n c, ra = .slice o n c) :
    Calls Tryz.prog 100 #[refR r rl ra] w fun e w' => ∃ u, e = .returned u ∧ w'.ownsRow w.heap.size 3 1 u r.missing.length (r.missing.map (Value.int .i64)) ∧ Below w.heap.size w w' := by
  obtain ⟨ro, rn, rc, rfl⟩ := hra
  obtain ⟨ao, cap, rfl, hlc, _⟩ := h.form
  obtain ⟨W1, hW1, hb1, hx1, hs1⟩ := rcv_box w r (.slice ao r.kept.length cap) (.slice ro rn rc)
  have HN := r8numbers_any F r (.slice ao r.kept.length cap) (.slice ro rn rc) W1 (h.below hb1) hlen
  have hle : r.numbers.length ≤ 128 := by have := sorted_le r.keys (win r.waits 128); rw [win_length] at this; exact this
  obtain ⟨ns, hns⟩ : ∃ ns, r.numbers = ns := ⟨_, rfl⟩
  have HM0 : r.missing = match ns.getLast? with
      | none => []
      | some t => missed ns (win r.waits ((t - (r.waits : Int)) % 128).toNat) := by unfold Rcv.missing; rw [hns]; cases ns.getLast? <;> rfl
  have HM := Lib.hid HM0
  clear HM0
  rw [hns] at HN hle
  unfold refR at HN ⊢
  have HB1 := Lib.hid hb1
  obtain ⟨a0, a1, a2, a3⟩ := rc_cells hx1
  have HX1 := Lib.hid hx1
  clear h hb1 hns hx1
  go_enter Tryz.func100, Tryz.ntmps100
  go_wp2_with fail
  try simp only [hW1]
  go_wp2_with fail
  refine HN.mono ?_
  rintro e w2 ⟨u, rfl, hu, hb2⟩
  have HB2 : Hid (Below w.heap.size w w2) := bl_trans HB1.out hb2
  have hx2 := bl_get hb2 HX1.out
  obtain ⟨b0, b1, b2, b3⟩ := rc_cells hx2
  have hl9 : ns.length ≤ maxLen := by unfold maxLen; omega
  have HRD := Lib.hid (Reads.of_owns hu hl9)
  obtain ⟨uo, uc, rfl⟩ := rc_form hu
  cases hl : ns.getLast? with
  | none =>
    have hn0 : ns = [] := List.getLast?_eq_none_iff.1 hl
    subst hn0
    have hm0 : r.missing = [] := HM.out
    have hO := owns_empty w2 (base := w.heap.size) 3 HB2.out.size
    have hB3 := bl_alloc HB2.out (.cells #[] 3)
    clear hu hb2 HM hx2 a0 a1 a2 a3 HN
    go_wp2
    go_ret
    refine ⟨_, rfl, ?_, hB3⟩
    rw [hm0]
    exact hO
  | some t =>
    have hlen2 : 0 < ns.length := by cases ns with
      | nil => cases hl
      | cons x r => simp
    have hlt : ns[ns.length - 1]? = some t := by rw [← List.getLast?_eq_getElem?]; exact hl
    have hm2 : r.missing = missed ns (win r.waits ((t - (r.waits : Int)) % 128).toNat) := by rw [HM.out, hl]
    obtain ⟨g, gcap, cur, hv, hge, hg, hcur⟩ := owns_block hu hlen2
    simp only [Value.slice.injEq] at hv
    obtain ⟨rfl, _, rfl⟩ := hv
    obtain ⟨m, hm⟩ : ∃ m, ns.length = m + 1 := ⟨ns.length - 1, by omega⟩
    have ct : w2.cell? ⟨g, m, none⟩ = some (.int .i64 t) := by
      rw [cell_of_row _ _ _ _ _ _ hg]
      rw [hm] at hlt
      exact hcur m t (by simpa using hlt)
    have HR := fun W : World => fun hb : Below w2.heap.size w2 W => rmissing_any (r.waits : Int) t _ ns W (HRD.out.below hb)
    have HM2 := Lib.hid hm2
    rw [hm] at HR
    simp only [hm]
    have f0 : (0 : Int) ≤ (m : Int) := by omega
    have f1 : (m : Int) < (m : Int) + 1 := by omega
    have f2 : (m : Int) < ((m + 1 : Nat) : Int) := by omega
    have f3 : (m : Int) + 1 - 1 = (m : Int) := by omega
    have f4 : ((m + 1 : Nat) : Int) - 1 = (m : Int) := by omega
    have f5 : IntKind.i64.wrap (m : Int) = (m : Int) := IntWalk.i64_in _ (by omega)
    have f6 : m < m + 1 := by omega
    have f7 : wrap64 (m : Int) = (m : Int) := by unfold wrap64; omega
    have HSZ : Hid (m ≤ 1000) := by unfold Hid; omega
    clear hu hb2 HM hx2 a0 a1 a2 a3 HN hl hlt hm2 hg hcur HRD hlen2 hm hle
    go_wp2_with fail
    go_region_held3 (fun w' => w'.cell? ⟨w.heap.size, 1, none⟩ = some (.int .i64 r.waits) ∧ w'.cell? ⟨g, m, none⟩ = some (.int .i64 t))
      (first | exact ⟨below_cell (bl_drew (bl_refl _)) b1, below_cell (bl_drew (bl_refl _)) ct⟩ | exact ⟨b1, ct⟩ | exact ⟨below_cell (bl_trans (bl_drew (bl_refl w2)) hb4) b1, below_cell (bl_trans (bl_drew (bl_refl w2)) hb4) ct⟩)
      (first | (go_at_call 108; refine (HR _ (bl_drew (bl_refl _))).mono ?_; rintro e w4 ⟨u4, rfl, hu4, hb4⟩))
    have hb4' := bl_trans (bl_drew (bl_refl w2)) hb4
    have hO4 := own_mono8 hu4 (Nat.le_trans HB2.out.size (bl_drew (bl_refl w2)).size)
    go_wp2
    go_ret
    refine ⟨_, rfl, ?_, bl_trans HB2.out hb4'⟩
    rw [HM2.out]
    exact hO4

set_option maxRecDepth 100000 in
set_option maxHeartbeats 2000000 in
theorem r8check_any (F : Nat → Prop) (r : Rcv) (rl ra : Value) (ns : Int) (v : Value) (p : List Int) (w : World) (h : Els kKept F w rl r.kept) (hra : ∃ o n c, ra = .slice o n c) (hr : Reads (Value.int .u8) w v p) :
    Calls Tryz.prog 97 #[refR r rl ra, .int .i64 ns, v] w fun e w' => e = .returned (.int .i64 (r.chk ns p.length)) ∧ Below w.heap.size w w' := by
  obtain ⟨ro, rn, rc, rfl⟩ := hra
  obtain ⟨ao, cap, rfl, hlc, _⟩ := h.form
  obtain ⟨W1, hW1, hb1, hx1, hs1⟩ := rcv_box w r (.slice ao r.kept.length cap) (.slice ro rn rc)
  obtain ⟨vo, vc, rfl⟩ : ∃ vo vc, v = .slice vo p.length vc := by
    obtain ⟨_, vo, vc, e, _⟩ := hr
    exact ⟨vo, vc, e⟩
  have HP := rpay_any (.slice vo p.length vc) p W1 (hr.below hb1)
  have HI := rin_any r.waits r.size ns W1
  have HPL := r8place_any F (.slice ao r.kept.length cap) r.kept ns W1 (h.below hb1)
  obtain ⟨a0, a1, a2, a3⟩ := rc_cells hx1
  unfold refR
  clear h hr hx1
  by_cases h0 : ns < 0 ∨ 127 < ns
  · have hE : r.chk ns p.length = 1 := by unfold Rcv.chk; rw [if_pos (by omega)]
    rw [hE]
    rcases h0 with h0 | h0
    · go_enter Tryz.func97, Tryz.ntmps97
      go_wp2
      try simp only [hW1]
      go_ret
      exact ⟨rfl, by first | exact hb1 | (rw [hW1]; exact hb1)⟩
    · have h1 : ¬ ns < 0 := by omega
      go_enter Tryz.func97, Tryz.ntmps97
      go_wp2
      try simp only [hW1]
      go_ret
      exact ⟨rfl, by first | exact hb1 | (rw [hW1]; exact hb1)⟩
  · have g1 : ¬ ns < 0 := by omega
    have g2 : ¬ (127 : Int) < ns := by omega
    by_cases hp : payN p = 0
    · have q : 1 ≤ p.length ∧ p.length ≤ 121 := by
        unfold payN at hp
        split at hp
        · cases hp
        split at hp
        · cases hp
        · omega
      rw [hp] at HP
      have e7 : (((r.size : Int) : Int) = (r.size : Int)) := rfl
      by_cases hin : (ns - (r.waits : Int)) % 128 < (r.size : Int)
      · rw [decide_eq_true hin] at HI
        by_cases hk : ns ∈ r.keys
        · obtain ⟨j, x, hj⟩ := pos_mem (f := r.kept) (k := ns) hk
          have hpl : placeN r.kept ns = (j : Int) := by unfold placeN; rw [hj]
          have hE : r.chk ns p.length = 5 := by unfold Rcv.chk; rw [if_neg (by omega), if_neg (by omega), if_neg (by omega), if_neg (by simpa using hin), if_pos hk]
          rw [hpl] at HPL
          rw [hE]
          have f0 : (0 : Int) ≤ (j : Int) := by omega
          clear hk hj hin h0 q
          go_enter Tryz.func97, Tryz.ntmps97
          go_wp2_with fail
          try simp only [hW1]
          refine HP.mono ?_
          rintro e w2 ⟨rfl, rfl⟩
          go_wp2_with fail
          refine HI.mono ?_
          rintro e w2 ⟨rfl, rfl⟩
          go_wp2_with fail
          refine HPL.mono ?_
          rintro e w2 ⟨rfl, rfl⟩
          go_wp2
          go_ret
          exact ⟨rfl, hb1⟩
        · have hj : pos r.kept ns = none := by
            cases hh : pos r.kept ns with
            | none => rfl
            | some y => exact absurd (List.mem_map.2 ⟨_, List.mem_of_getElem? (pos_some (j := y.1) (v := y.2) hh), rfl⟩) hk
          have hpl : placeN r.kept ns = -1 := by unfold placeN; rw [hj]
          have hE : r.chk ns p.length = 0 := by unfold Rcv.chk; rw [if_neg (by omega), if_neg (by omega), if_neg (by omega), if_neg (by simpa using hin), if_neg hk]
          rw [hpl] at HPL
          rw [hE]
          clear hk hj hin h0 q
          go_enter Tryz.func97, Tryz.ntmps97
          go_wp2_with fail
          try simp only [hW1]
          refine HP.mono ?_
          rintro e w2 ⟨rfl, rfl⟩
          go_wp2_with fail
          refine HI.mono ?_
          rintro e w2 ⟨rfl, rfl⟩
          go_wp2_with fail
          refine HPL.mono ?_
          rintro e w2 ⟨rfl, rfl⟩
          go_wp2
          go_ret
          exact ⟨rfl, hb1⟩
      · rw [decide_eq_false hin] at HI
        have hE : r.chk ns p.length = 7 := by unfold Rcv.chk; rw [if_neg (by omega), if_neg (by omega), if_neg (by omega), if_pos (by simpa using hin)]
        rw [hE]
        clear hin h0 q HPL
        go_enter Tryz.func97, Tryz.ntmps97
        go_wp2_with fail
        try simp only [hW1]
        refine HP.mono ?_
        rintro e w2 ⟨rfl, rfl⟩
        go_wp2_with fail
        refine HI.mono ?_
        rintro e w2 ⟨rfl, rfl⟩
        go_wp2
        go_ret
        exact ⟨rfl, hb1⟩
    · have hE : r.chk ns p.length = payN p := by
        unfold Rcv.chk payN at *
        rw [if_neg (by omega)]
        split
        · rfl
        · rename_i h1
          rw [if_neg h1] at hp
          split
          · rfl
          · rename_i h2
            rw [if_neg h2] at hp
            exact absurd rfl hp
      rw [hE]
      obtain ⟨q, hq⟩ : ∃ q, payN p = q := ⟨_, rfl⟩
      rw [hq] at hp HP ⊢
      have f3 : ¬ q = 0 := hp
      clear hE hq h0 HI HPL
      go_enter Tryz.func97, Tryz.ntmps97
      go_wp2_with fail
      try simp only [hW1]
      refine HP.mono ?_
      rintro e w2 ⟨rfl, rfl⟩
      go_wp2_with fail
      refine HP.mono ?_
      rintro e w2 ⟨rfl, rfl⟩
      go_wp2
      go_ret
      exact ⟨rfl, hb1⟩

end Go.Proofs.YthmdibagcbbgoaaGreat
