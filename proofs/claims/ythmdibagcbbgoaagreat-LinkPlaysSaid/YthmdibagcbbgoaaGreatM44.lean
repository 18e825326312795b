/- portageref09.fits. Conditions: as they stand. -/
import Derived.Test.YthmdibagcbbgoaaGreatM40
namespace Go.Proofs.YthmdibagcbbgoaaGreat
open Go.RowKit

set_option maxRecDepth 100000 in
set_option maxHeartbeats 4000000 in
theorem r9fits_any (C : Nat → Prop) (w : World) (sl rl ra ov iv : Value) (t : Lk) (h : RfAt C w sl rl ra ov iv t) (hok : LkOk t) {m : Nat} (hbn : Bnd m t.r.asked) (hm : m ≤ 800000) (c : Cn) (x : Value) (hx : Byz (Live C w) w x c.data) (hmo : t.out.length ≤ 700000) (hmi : t.inn.length ≤ 700000) (hk1 : 1 ≤ c.kind) (hk4 : c.kind ≤ 4) :
    Calls Tryz.prog 55 #[.agg (t.ref sl rl ra ov iv), .agg #[.int .i64 c.kind, .int .i64 c.ns, .int .i64 c.nr, .bool c.p, .int .i64 c.me, .int .i64 c.peer, x]] w fun e w' => Rf9 C w (t.fits c) e w' := by
  obtain ⟨xo, xc, rfl⟩ : ∃ xo xc, x = .slice xo c.data.length xc := by
    obtain ⟨⟨⟨_, ao, cap, h, _⟩, _⟩, _⟩ := hx
    exact ⟨ao, cap, h⟩
  have HM := Lib.hid hm
  have HK : Hid (1 ≤ c.kind ∧ c.kind ≤ 4) := ⟨hk1, hk4⟩
  obtain ⟨Q, hQ⟩ : ∃ Q, t.fits c = Q := ⟨_, rfl⟩
  have HQ00 : Hid (Q = if c.kind = 1 then t.woke.comes c.ns c.nr c.p c.data else if c.kind = 4 then t.woke.again c.nr else t.woke.ready c.kind c.nr c.p) := hQ.symm
  rw [hQ]
  have HWO : Hid (LkOk t.woke ∧ t.woke.out.length ≤ 700000 ∧ t.woke.inn.length ≤ 700000 ∧ Bnd m t.woke.r.asked) := by
    obtain ⟨g1, g2, g3⟩ := woke_grow t hok
    obtain ⟨_, e2, _⟩ := woke_same t
    exact ⟨g1, by omega, by omega, by rw [e2]; exact hbn⟩
  obtain ⟨W0, hW0, hB0, hc0⟩ := h.boxes3 #[.int .i64 c.kind, .int .i64 c.ns, .int .i64 c.nr, .bool c.p, .int .i64 c.me, .int .i64 c.peer, .slice xo c.data.length xc]
  have B0 := Lib.hid hB0
  have A0 := Lib.hid hB0.ba
  have hx0 := hB0.byz hx
  have c2 : W0.cell? ⟨w.heap.size, 2, none⟩ = some (.bool t.up) := hB0.cell 2 rfl
  have HCq := Lib.hid hc0
  have HXq := Lib.hid hx0
  clear h hx hx0 hc0 hQ hok hbn hm hmo hmi hk1 hk4
  cases hup : t.up with
  | true =>
    rw [hup] at c2
    have hwk : t.woke = t := by unfold Lk.woke; rw [if_pos hup]
    rw [hwk] at HQ00 HWO
    have HQ0 := HQ00
    have HH := HWO
    have hBq := hB0
    have hcq := HCq.out
    have hxq := HXq.out
    clear hB0 HQ00 HWO hup hwk HCq HXq B0 A0
    go_enter Tryz.func55, Tryz.ntmps55
    go_wp2_with (first | simp only [hW0] | (with_reducible show wpList _ _ _ (⟨_, .load 3 (.tmp 12), _, _, _, none⟩ :: _) _ _; refine RowKit.Hid.out ?_))
    refine Lib.hid ?_
    have k0 : W0.cell? ⟨w.heap.size + 1, 0, none⟩ = some (.int .i64 c.kind) := by rw [cell_of_row _ _ _ _ _ _ hcq]; rfl
    have k2 : W0.cell? ⟨w.heap.size + 1, 2, none⟩ = some (.int .i64 c.nr) := by rw [cell_of_row _ _ _ _ _ _ hcq]; rfl
    have k3 : W0.cell? ⟨w.heap.size + 1, 3, none⟩ = some (.bool c.p) := by rw [cell_of_row _ _ _ _ _ _ hcq]; rfl
    have hlm := hBq.rf.lim
    by_cases h1 : c.kind = 1
    · have HQ : Hid (Q = t.comes c.ns c.nr c.p c.data) := by
        unfold Hid
        rw [HQ0.out, if_pos h1]
      have HCM := r9came_any _ W0 _ _ _ _ _ _ hBq.rf HH.out.1 HH.out.2.2.2 HM.out c _ hxq HH.out.2.1 HH.out.2.2.1
      rw [h1] at k0
      have Bq := Lib.hid hBq
      have Aq := Lib.hid hBq.ba
      have Hcq := Lib.hid hcq
      clear hBq hcq hxq HQ0 h1
      go_wp2_with (with_reducible show wpList _ _ _ (⟨_, .load 38 (.tmp 2), _, _, _, none⟩ :: _) _ _; refine RowKit.Hid.out ?_)
      refine Lib.hid ?_
      refine wpList_load_row rfl 38 (.tmp 2) rfl _ rfl _ _ (0, 0) _ Aq.out Tryz.underlying38 rfl infoL9 ?_
      go_wp2_with (with_reducible show wpList _ _ _ (⟨_, .load 46 (.tmp 3), _, _, _, none⟩ :: _) _ _; refine RowKit.Hid.out ?_)
      refine Lib.hid ?_
      refine wpList_load_row rfl 46 (.tmp 3) rfl _ rfl _ _ (0, 0) _ Hcq.out Tryz.underlying46 rfl infoC7 ?_
      go_wp2_with fail
      refine (HCM).mono ?_
      rintro e W9 ⟨⟨sl9, rl9, ra9, ov9, iv9, rfl, hr9⟩, hb9⟩
      go_wp2_with (with_reducible show wpList _ _ _ (⟨_, .store 38 (.tmp 4) (.tmp 18), _, _, _, none⟩ :: _) _ _; refine RowKit.Hid.out ?_)
      refine Lib.hid ?_
      obtain ⟨cs, hcs, hz⟩ := Bq.out.bz
      refine wpList_store_row rfl 38 (.tmp 4) (.tmp 18) rfl _ _ rfl rfl _ _ (bl_get hb9 hz) infoL9 hcs hr9.one ?_
      obtain ⟨hret, hrow⟩ := Bq.out.rets hb9 hr9
      go_wp2_with fail
      refine bodyPost_ret (results_cell_row rfl _ _ (w.heap.size + 1 + 1) 38 _ (0, 0) _ rfl hrow Tryz.underlying38 rfl infoL9) rfl ?_
      have hT := HQ.out
      subst hT
      exact hret
    by_cases h4 : c.kind = 4
    · have HQ1 : Hid (Q = t.again c.nr) := by
        unfold Hid
        rw [HQ0.out, if_neg h1, if_pos h4]
      rw [h4] at k0
      obtain ⟨so, sc, hso⟩ : ∃ o c, sl = .slice o t.s.ps.length c := hBq.rf.form.1
      subst hso
      have c10 : W0.cell? ⟨w.heap.size, 10, none⟩ = some (.int .i64 t.s.size) := hBq.cell 10 rfl
      have c11 : W0.cell? ⟨w.heap.size, 11, none⟩ = some (.int .i64 t.s.base) := hBq.cell 11 rfl
      have c12 : W0.cell? ⟨w.heap.size, 12, none⟩ = some (.slice so t.s.ps.length sc) := hBq.cell 12 rfl
      have c13 : W0.cell? ⟨w.heap.size, 13, none⟩ = some (.int .i64 t.s.under) := hBq.cell 13 rfl
      have HAG := ragain_any _ t.s HH.out.1.s (.slice so t.s.ps.length sc) c.nr W0 hBq.rf.snd
      unfold refV at HAG
      obtain ⟨P, hP⟩ : ∃ P, t.s.againP c.nr = P := ⟨_, rfl⟩
      obtain ⟨E, hE⟩ : ∃ E, t.s.againE c.nr = E := ⟨_, rfl⟩
      have HQ2 : Hid (Q = if E = 0 then t.dat c.nr P false else t) := by
        unfold Hid
        rw [HQ1.out]
        unfold Lk.again
        rw [hE, hP]
      rw [hP, hE] at HAG
      have Bq := Lib.hid hBq
      clear hBq hcq hxq HQ0 HQ1 h1 h4 hP hE
      by_cases hE0 : E = 0
      · subst hE0
        have HQ : Hid (Q = t.dat c.nr P false) := by
          unfold Hid
          rw [HQ2.out, if_pos rfl]
        go_wp2_with fail
        refine HAG.mono ?_
        rintro e W5 ⟨u, rfl, hu, hb5⟩
        obtain ⟨uo, uc, rfl⟩ : ∃ uo uc, u = .slice uo P.length uc := by
          obtain ⟨⟨⟨_, ao, cap, h, _⟩, _⟩, _⟩ := hu
          exact ⟨ao, cap, h⟩
        have hB5 := Bq.out.below hb5
        have m2 := below_cell hb5 k2
        have HDT := r9data_any _ W5 _ _ _ _ _ _ hB5.rf c.nr P false _ (hu.mono fun k hk => hk.grow hb5.size) (by have := HH.out.2.1; omega)
        have B5 := Lib.hid hB5
        have A5 := Lib.hid hB5.ba
        clear hB5 hu hb5 HAG c10 c11 c12 c13 k0 k2 k3
        go_wp2_with (with_reducible show wpList _ _ _ (⟨_, .load 38 (.tmp 2), _, _, _, none⟩ :: _) _ _; refine RowKit.Hid.out ?_)
        refine Lib.hid ?_
        refine wpList_load_row rfl 38 (.tmp 2) rfl _ rfl _ _ (0, 0) _ A5.out Tryz.underlying38 rfl infoL9 ?_
        go_wp2_with fail
        refine (HDT).mono ?_
        rintro e W9 ⟨⟨sl9, rl9, ra9, ov9, iv9, rfl, hr9⟩, hb9⟩
        go_wp2_with (with_reducible show wpList _ _ _ (⟨_, .store 38 (.tmp 4) (.tmp 36), _, _, _, none⟩ :: _) _ _; refine RowKit.Hid.out ?_)
        refine Lib.hid ?_
        obtain ⟨cs, hcs, hz⟩ := B5.out.bz
        refine wpList_store_row rfl 38 (.tmp 4) (.tmp 36) rfl _ _ rfl rfl _ _ (bl_get hb9 hz) infoL9 hcs hr9.one ?_
        obtain ⟨hret, hrow⟩ := B5.out.rets hb9 hr9
        go_wp2_with fail
        refine bodyPost_ret (results_cell_row rfl _ _ (w.heap.size + 1 + 1) 38 _ (0, 0) _ rfl hrow Tryz.underlying38 rfl infoL9) rfl ?_
        have hT := HQ.out
        subst hT
        exact hret
      · have HQ : Hid (Q = t) := by
          unfold Hid
          rw [HQ2.out, if_neg hE0]
        have hEb : (E != 0) = true := by simpa using hE0
        go_wp2_with fail
        refine HAG.mono ?_
        rintro e W5 ⟨u, rfl, hu, hb5⟩
        obtain ⟨uo, uc, rfl⟩ : ∃ uo uc, u = .slice uo P.length uc := by
          obtain ⟨⟨⟨_, ao, cap, h, _⟩, _⟩, _⟩ := hu
          exact ⟨ao, cap, h⟩
        have hB5 := Bq.out.below hb5
        have B5 := Lib.hid hB5
        have A5 := Lib.hid hB5.ba
        clear hB5 hu hb5 HAG c10 c11 c12 c13 k0 k2 k3
        go_wp2_with (with_reducible show wpList _ _ _ (⟨_, .load 38 (.tmp 2), _, _, _, none⟩ :: _) _ _; refine RowKit.Hid.out ?_)
        refine Lib.hid ?_
        refine wpList_load_row rfl 38 (.tmp 2) rfl _ rfl _ _ (0, 0) _ A5.out Tryz.underlying38 rfl infoL9 ?_
        go_wp2_with (with_reducible show wpList _ _ _ (⟨_, .store 38 (.tmp 4) (.tmp 31), _, _, _, none⟩ :: _) _ _; refine RowKit.Hid.out ?_)
        refine Lib.hid ?_
        obtain ⟨cs, hcs, hz⟩ := B5.out.bz
        have hone := B5.out.rf.one
        refine wpList_store_row rfl 38 (.tmp 4) (.tmp 31) rfl _ _ rfl rfl _ _ hz infoL9 hcs hone ?_
        obtain ⟨hret, hrow⟩ := B5.out.ret
        go_wp2_with fail
        refine bodyPost_ret (results_cell_row rfl _ _ (w.heap.size + 1 + 1) 38 _ (0, 0) _ rfl hrow Tryz.underlying38 rfl infoL9) rfl ?_
        have hT := HQ.out
        subst hT
        exact hret
    by_cases h2 : c.kind = 2
    · rw [h2] at k0
      have z8 := hBq.frozen 8
      have g8 : W0.cell? ⟨w.heap.size, 8, none⟩ = some (.bool t.busy) := hBq.cell 8 rfl
      have hBb := hBq.put1 (t' := { t with busy := false }) 8 (.bool false) rfl rfl rfl rfl rfl
      obtain ⟨V3, hV3⟩ : ∃ V, W0.setCell ⟨w.heap.size, 8, none⟩ (.bool false) = V := ⟨_, rfl⟩
      have hf3 : Fr (fun k => k = w.heap.size) W0 V3 := hV3 ▸ fr_cell W0 w.heap.size 8 _
      rw [hV3] at hBb
      have m2 := hf3.cell k2 (by omega)
      have m3 := hf3.cell k3 (by omega)
      have hc3 := hf3.get hcq (by omega)
      have hkb : LkOk ({ t with busy := false } : Lk) := ⟨HH.out.1.me, HH.out.1.s, HH.out.1.r⟩
      have HAK := r9ack_any _ V3 _ _ _ _ _ _ hBb.rf hkb.s c.nr
      obtain ⟨hka, hko, hki⟩ := ack_grow { t with busy := false } c.nr hkb
      obtain ⟨X, hX⟩ : ∃ X, ({ t with busy := false } : Lk).ack c.nr = X := ⟨_, rfl⟩
      have hXb : X.busy = false := by
        rw [← hX]
        unfold Lk.ack
        split <;> rfl
      rw [hX] at HAK hka hko hki
      have HXO : Hid (LkOk X ∧ X.out.length ≤ 700000) := ⟨hka, by have h9 := HH.out.2.1; have h8 : ({ t with busy := false } : Lk).out.length = t.out.length := rfl; omega⟩
      have HQ1 : Hid (Q = if c.p = true then X.goes.rearm.answer else X.goes.rearm) := by
        unfold Hid
        rw [HQ0.out, if_neg h1, if_neg h4, h2]
        unfold Lk.ready
        rw [← hX]
        rfl
      have Bb := Lib.hid hBb
      have Ab := Lib.hid hBb.ba
      have HC3 := Lib.hid hc3
      have HQ2 : Hid (Q = if c.p = true then X.goes.answer else X.goes) := by
        unfold Hid
        obtain ⟨_, _, g⟩ := goes_went X
        have hgb : X.goes.busy = false := g.2.2.2.2.2.2.2.2.1.trans hXb
        have hra : X.goes.rearm = X.goes := by unfold Lk.rearm; rw [if_neg (by rw [hgb]; simp)]
        rw [HQ1.out, hra]
      clear hBq hcq hxq HQ0 HQ1 hBb hf3 hc3 hkb hka hko hki hX hXb h1 h4 h2
      go_wp2_with (first | simp only [hV3] | (with_reducible show wpList _ _ _ (⟨_, .load 38 (.tmp 2), _, _, _, none⟩ :: _) _ _; refine RowKit.Hid.out ?_))
      refine Lib.hid ?_
      refine wpList_load_row rfl 38 (.tmp 2) rfl _ rfl _ _ (0, 0) _ Ab.out Tryz.underlying38 rfl infoL9 ?_
      go_wp2_with fail
      refine (HAK).mono ?_
      rintro e W4 ⟨⟨sl4, rl4, ra4, ov4, iv4, rfl, hr4⟩, hb4⟩
      have HGO := r9goes_any _ W4 _ _ _ _ _ _ hr4 HXO.out.1.s (by have := HXO.out.2; omega)
      go_wp2_with fail
      refine (HGO).mono ?_
      rintro e W5 ⟨⟨sl5, rl5, ra5, ov5, iv5, rfl, hr5⟩, hb5⟩
      have hb45 := bl_trans hb4 hb5
      have hYO := (goes_grow X HXO.out.1).2.1
      have HO : Hid (X.goes.out.length ≤ 900000) := by have := HXO.out.2; unfold Hid; omega
      obtain ⟨Y, hY⟩ : ∃ Y, X.goes = Y := ⟨_, rfl⟩
      rw [hY] at HQ2 HO hr5
      simp only [hY]
      go_wp2_with (with_reducible show wpList _ _ _ (⟨_, .store 38 (.tmp 2) (.tmp 44), _, _, _, none⟩ :: _) _ _; refine RowKit.Hid.out ?_)
      refine Lib.hid ?_
      refine wpList_store_row rfl 38 (.tmp 2) (.tmp 44) rfl _ _ rfl rfl _ _ (bl_get hb45 Bb.out.ba) infoL9 rfl hr5.one ?_
      have hB6 := Bb.out.stored hb45 hr5
      have hF6 := fr_row W5 w.heap.size (Lk.ref Y sl5 rl5 ra5 ov5 iv5)
      obtain ⟨V6, hV6⟩ : ∃ V, W5.setRow w.heap.size (Lk.ref Y sl5 rl5 ra5 ov5 iv5) = V := ⟨_, rfl⟩
      rw [hV6] at hB6 hF6 ⊢
      have B6 := Lib.hid hB6
      have A6 := Lib.hid hB6.ba
      clear hB6 hV6
      have hlb := Bb.out.rf.lim
      have HQp := HQ2
      have kp : V6.cell? ⟨w.heap.size + 1, 3, none⟩ = some (.bool c.p) := hF6.cell (below_cell hb45 m3) (by omega)
      clear hb4 hb5 hb45 hr4 hr5 HAK HGO hY hYO HQ2 hF6 m2 m3 k2 k3 k0 hlm hlb
      cases hp : c.p with
      | true =>
        rw [hp] at kp
        have HQ : Hid (Q = Y.answer) := by
          unfold Hid
          rw [HQp.out, if_pos hp]
        have HAN := r9answer_any _ V6 _ _ _ _ _ _ B6.out.rf HO.out
        have Aq := Lib.hid B6.out.ba
        clear HQp hp
        go_wp2_with (with_reducible show wpList _ _ _ (⟨_, .load 38 (.tmp 2), _, _, _, none⟩ :: _) _ _; refine RowKit.Hid.out ?_)
        refine Lib.hid ?_
        refine wpList_load_row rfl 38 (.tmp 2) rfl _ rfl _ _ (0, 0) _ Aq.out Tryz.underlying38 rfl infoL9 ?_
        go_wp2_with fail
        refine (HAN).mono ?_
        rintro e W9 ⟨⟨sl9, rl9, ra9, ov9, iv9, rfl, hr9⟩, hb9⟩
        go_wp2_with (with_reducible show wpList _ _ _ (⟨_, .store 38 (.tmp 4) (.tmp 68), _, _, _, none⟩ :: _) _ _; refine RowKit.Hid.out ?_)
        refine Lib.hid ?_
        obtain ⟨cs, hcs, hz⟩ := B6.out.bz
        refine wpList_store_row rfl 38 (.tmp 4) (.tmp 68) rfl _ _ rfl rfl _ _ (bl_get hb9 hz) infoL9 hcs hr9.one ?_
        obtain ⟨hret, hrow⟩ := B6.out.rets hb9 hr9
        go_wp2_with fail
        refine bodyPost_ret (results_cell_row rfl _ _ (w.heap.size + 1 + 1) 38 _ (0, 0) _ rfl hrow Tryz.underlying38 rfl infoL9) rfl ?_
        have hT := HQ.out
        subst hT
        exact hret
      | false =>
        rw [hp] at kp
        have HQ : Hid (Q = Y) := by
          unfold Hid
          rw [HQp.out, if_neg (by rw [hp]; simp)]
        have Aq := Lib.hid B6.out.ba
        clear HQp hp
        go_wp2_with (with_reducible show wpList _ _ _ (⟨_, .load 38 (.tmp 2), _, _, _, none⟩ :: _) _ _; refine RowKit.Hid.out ?_)
        refine Lib.hid ?_
        refine wpList_load_row rfl 38 (.tmp 2) rfl _ rfl _ _ (0, 0) _ Aq.out Tryz.underlying38 rfl infoL9 ?_
        go_wp2_with (with_reducible show wpList _ _ _ (⟨_, .store 38 (.tmp 4) (.tmp 69), _, _, _, none⟩ :: _) _ _; refine RowKit.Hid.out ?_)
        refine Lib.hid ?_
        obtain ⟨cs, hcs, hz⟩ := B6.out.bz
        have hone := B6.out.rf.one
        refine wpList_store_row rfl 38 (.tmp 4) (.tmp 69) rfl _ _ rfl rfl _ _ hz infoL9 hcs hone ?_
        obtain ⟨hret, hrow⟩ := B6.out.ret
        go_wp2_with fail
        refine bodyPost_ret (results_cell_row rfl _ _ (w.heap.size + 1 + 1) 38 _ (0, 0) _ rfl hrow Tryz.underlying38 rfl infoL9) rfl ?_
        have hT := HQ.out
        subst hT
        exact hret
    obtain h3 : c.kind = 3 := by have := HK.out; omega
    rw [h3] at k0
    have z8 := hBq.frozen 8
    have g8 : W0.cell? ⟨w.heap.size, 8, none⟩ = some (.bool t.busy) := hBq.cell 8 rfl
    have hBb := hBq.put1 (t' := { t with busy := true }) 8 (.bool true) rfl rfl rfl rfl rfl
    obtain ⟨V3, hV3⟩ : ∃ V, W0.setCell ⟨w.heap.size, 8, none⟩ (.bool true) = V := ⟨_, rfl⟩
    have hf3 : Fr (fun k => k = w.heap.size) W0 V3 := hV3 ▸ fr_cell W0 w.heap.size 8 _
    rw [hV3] at hBb
    have m2 := hf3.cell k2 (by omega)
    have m3 := hf3.cell k3 (by omega)
    have hc3 := hf3.get hcq (by omega)
    have hkb : LkOk ({ t with busy := true } : Lk) := ⟨HH.out.1.me, HH.out.1.s, HH.out.1.r⟩
    have HAK := r9ack_any _ V3 _ _ _ _ _ _ hBb.rf hkb.s c.nr
    obtain ⟨hka, hko, hki⟩ := ack_grow { t with busy := true } c.nr hkb
    obtain ⟨X, hX⟩ : ∃ X, ({ t with busy := true } : Lk).ack c.nr = X := ⟨_, rfl⟩
    have hXb : X.busy = true := by
      rw [← hX]
      unfold Lk.ack
      split <;> rfl
    rw [hX] at HAK hka hko hki
    have HXO : Hid (LkOk X ∧ X.out.length ≤ 700000) := ⟨hka, by have h9 := HH.out.2.1; have h8 : ({ t with busy := true } : Lk).out.length = t.out.length := rfl; omega⟩
    have HQ1 : Hid (Q = if c.p = true then X.goes.rearm.answer else X.goes.rearm) := by
      unfold Hid
      rw [HQ0.out, if_neg h1, if_neg h4, h3]
      unfold Lk.ready
      rw [← hX]
      rfl
    have Bb := Lib.hid hBb
    have Ab := Lib.hid hBb.ba
    have HC3 := Lib.hid hc3
    have hgo : X.goes = X := by
      show goesN (63 + 1) X = X
      unfold goesN
      rw [if_neg (by rw [hXb]; simp)]
    have HQ2 : Hid (Q = if c.p = true then X.rearm.answer else X.rearm) := by
      unfold Hid
      rw [HQ1.out, hgo]
    have HXB := Lib.hid hXb
    clear hBq hcq hxq HQ0 HQ1 hBb hf3 hc3 hkb hka hko hki hX hXb hgo h1 h4 h2 h3
    go_wp2_with (first | simp only [hV3] | (with_reducible show wpList _ _ _ (⟨_, .load 38 (.tmp 2), _, _, _, none⟩ :: _) _ _; refine RowKit.Hid.out ?_))
    refine Lib.hid ?_
    refine wpList_load_row rfl 38 (.tmp 2) rfl _ rfl _ _ (0, 0) _ Ab.out Tryz.underlying38 rfl infoL9 ?_
    go_wp2_with fail
    refine (HAK).mono ?_
    rintro e W4 ⟨⟨sl4, rl4, ra4, ov4, iv4, rfl, hr4⟩, hb4⟩
    go_wp2_with (with_reducible show wpList _ _ _ (⟨_, .store 38 (.tmp 2) (.tmp 51), _, _, _, none⟩ :: _) _ _; refine RowKit.Hid.out ?_)
    refine Lib.hid ?_
    refine wpList_store_row rfl 38 (.tmp 2) (.tmp 51) rfl _ _ rfl rfl _ _ (bl_get hb4 Bb.out.ba) infoL9 rfl hr4.one ?_
    have hB6 := Bb.out.stored hb4 hr4
    have hF6 := fr_row W4 w.heap.size (Lk.ref X sl4 rl4 ra4 ov4 iv4)
    obtain ⟨V6, hV6⟩ : ∃ V, W4.setRow w.heap.size (Lk.ref X sl4 rl4 ra4 ov4 iv4) = V := ⟨_, rfl⟩
    rw [hV6] at hB6 hF6 ⊢
    have B6 := Lib.hid hB6
    have A6 := Lib.hid hB6.ba
    clear hB6 hV6
    have hlb := Bb.out.rf.lim
    have kp : V6.cell? ⟨w.heap.size + 1, 3, none⟩ = some (.bool c.p) := hF6.cell (below_cell hb4 m3) (by omega)
    obtain ⟨uo, uc, huo⟩ : ∃ o c, sl4 = .slice o X.s.ps.length c := B6.out.rf.form.1
    subst huo
    have d12 : V6.cell? ⟨w.heap.size, 12, none⟩ = some (.slice uo X.s.ps.length uc) := B6.out.cell 12 rfl
    have d5 : V6.cell? ⟨w.heap.size, 5, none⟩ = some (.int .i64 X.left) := B6.out.cell 5 rfl
    have d3 : V6.cell? ⟨w.heap.size, 3, none⟩ = some (.int .i64 X.timer) := B6.out.cell 3 rfl
    have x5 := B6.out.frozen 5
    clear hb4 hr4 HAK hF6 m2 m3 k2 k3 k0 hlm hlb
    by_cases hl : 0 < X.s.ps.length
    · have f1 : (0 : Int) < (X.s.ps.length : Int) := by omega
      have fb : decide ((0 : Int) < (X.s.ps.length : Int)) = true := decide_eq_true f1
      by_cases hz : X.left = 0
      · have hRE : X.rearm = { X with left := X.timer } := by unfold Lk.rearm; rw [if_pos ⟨HXB.out, hl, hz⟩]
        have hB7 := B6.out.put1 (t' := { X with left := X.timer }) 5 (.int .i64 X.timer) rfl rfl rfl rfl rfl
        obtain ⟨V7, hV7⟩ : ∃ V, V6.setCell ⟨w.heap.size, 5, none⟩ (.int .i64 X.timer) = V := ⟨_, rfl⟩
        have hf7 : Fr (fun k => k = w.heap.size) V6 V7 := hV7 ▸ fr_cell V6 w.heap.size 5 _
        rw [hV7] at hB7
        have kq := hf7.cell kp (by omega)
        rw [← hRE] at hB7
        have HO : Hid (X.rearm.out.length ≤ 900000) := by have := HXO.out.2; unfold Hid; rw [hRE]; show X.out.length ≤ _; omega
        obtain ⟨Y, hY⟩ : ∃ Y, X.rearm = Y := ⟨_, rfl⟩
        rw [hY] at hB7 HQ2 HO
        have B7 := Lib.hid hB7
        have HQp := HQ2
        rw [hz] at d5
        clear hRE hY hB7 hf7 HQ2 hl kp
        have kp := kq
        clear kq
        cases hp : c.p with
        | true =>
          rw [hp] at kp
          have HQ : Hid (Q = Y.answer) := by
            unfold Hid
            rw [HQp.out, if_pos hp]
          have HAN := r9answer_any _ V7 _ _ _ _ _ _ B7.out.rf HO.out
          have Aq := Lib.hid B7.out.ba
          clear HQp hp
          go_wp2_with (first | simp only [hV7] | with_reducible show wpList _ _ _ (⟨_, .load 38 (.tmp 2), _, _, _, none⟩ :: _) _ _; refine RowKit.Hid.out ?_)
          refine Lib.hid ?_
          refine wpList_load_row rfl 38 (.tmp 2) rfl _ rfl _ _ (0, 0) _ Aq.out Tryz.underlying38 rfl infoL9 ?_
          go_wp2_with fail
          refine (HAN).mono ?_
          rintro e W9 ⟨⟨sl9, rl9, ra9, ov9, iv9, rfl, hr9⟩, hb9⟩
          go_wp2_with (with_reducible show wpList _ _ _ (⟨_, .store 38 (.tmp 4) (.tmp 68), _, _, _, none⟩ :: _) _ _; refine RowKit.Hid.out ?_)
          refine Lib.hid ?_
          obtain ⟨cs, hcs, hz⟩ := B7.out.bz
          refine wpList_store_row rfl 38 (.tmp 4) (.tmp 68) rfl _ _ rfl rfl _ _ (bl_get hb9 hz) infoL9 hcs hr9.one ?_
          obtain ⟨hret, hrow⟩ := B7.out.rets hb9 hr9
          go_wp2_with fail
          refine bodyPost_ret (results_cell_row rfl _ _ (w.heap.size + 1 + 1) 38 _ (0, 0) _ rfl hrow Tryz.underlying38 rfl infoL9) rfl ?_
          have hT := HQ.out
          subst hT
          exact hret
        | false =>
          rw [hp] at kp
          have HQ : Hid (Q = Y) := by
            unfold Hid
            rw [HQp.out, if_neg (by rw [hp]; simp)]
          have Aq := Lib.hid B7.out.ba
          clear HQp hp
          go_wp2_with (with_reducible show wpList _ _ _ (⟨_, .load 38 (.tmp 2), _, _, _, none⟩ :: _) _ _; refine RowKit.Hid.out ?_)
          refine Lib.hid ?_
          refine wpList_load_row rfl 38 (.tmp 2) rfl _ rfl _ _ (0, 0) _ Aq.out Tryz.underlying38 rfl infoL9 ?_
          go_wp2_with (with_reducible show wpList _ _ _ (⟨_, .store 38 (.tmp 4) (.tmp 69), _, _, _, none⟩ :: _) _ _; refine RowKit.Hid.out ?_)
          refine Lib.hid ?_
          obtain ⟨cs, hcs, hz⟩ := B7.out.bz
          have hone := B7.out.rf.one
          refine wpList_store_row rfl 38 (.tmp 4) (.tmp 69) rfl _ _ rfl rfl _ _ hz infoL9 hcs hone ?_
          obtain ⟨hret, hrow⟩ := B7.out.ret
          go_wp2_with fail
          refine bodyPost_ret (results_cell_row rfl _ _ (w.heap.size + 1 + 1) 38 _ (0, 0) _ rfl hrow Tryz.underlying38 rfl infoL9) rfl ?_
          have hT := HQ.out
          subst hT
          exact hret
      · have hRE : X.rearm = X := by unfold Lk.rearm; rw [if_neg (fun g => hz g.2.2)]
        have fz : ((X.left : Int) = 0) = False := eq_false (by omega)
        have HO : Hid (X.out.length ≤ 900000) := by have := HXO.out.2; unfold Hid; omega
        rw [hRE] at HQ2
        have HQp := HQ2
        clear hRE HQ2 hl
        cases hp : c.p with
        | true =>
          rw [hp] at kp
          have HQ : Hid (Q = X.answer) := by
            unfold Hid
            rw [HQp.out, if_pos hp]
          have HAN := r9answer_any _ V6 _ _ _ _ _ _ B6.out.rf HO.out
          have Aq := Lib.hid B6.out.ba
          clear HQp hp
          go_wp2_with (with_reducible show wpList _ _ _ (⟨_, .load 38 (.tmp 2), _, _, _, none⟩ :: _) _ _; refine RowKit.Hid.out ?_)
          refine Lib.hid ?_
          refine wpList_load_row rfl 38 (.tmp 2) rfl _ rfl _ _ (0, 0) _ Aq.out Tryz.underlying38 rfl infoL9 ?_
          go_wp2_with fail
          refine (HAN).mono ?_
          rintro e W9 ⟨⟨sl9, rl9, ra9, ov9, iv9, rfl, hr9⟩, hb9⟩
          go_wp2_with (with_reducible show wpList _ _ _ (⟨_, .store 38 (.tmp 4) (.tmp 68), _, _, _, none⟩ :: _) _ _; refine RowKit.Hid.out ?_)
          refine Lib.hid ?_
          obtain ⟨cs, hcs, hz⟩ := B6.out.bz
          refine wpList_store_row rfl 38 (.tmp 4) (.tmp 68) rfl _ _ rfl rfl _ _ (bl_get hb9 hz) infoL9 hcs hr9.one ?_
          obtain ⟨hret, hrow⟩ := B6.out.rets hb9 hr9
          go_wp2_with fail
          refine bodyPost_ret (results_cell_row rfl _ _ (w.heap.size + 1 + 1) 38 _ (0, 0) _ rfl hrow Tryz.underlying38 rfl infoL9) rfl ?_
          have hT := HQ.out
          subst hT
          exact hret
        | false =>
          rw [hp] at kp
          have HQ : Hid (Q = X) := by
            unfold Hid
            rw [HQp.out, if_neg (by rw [hp]; simp)]
          have Aq := Lib.hid B6.out.ba
          clear HQp hp
          go_wp2_with (with_reducible show wpList _ _ _ (⟨_, .load 38 (.tmp 2), _, _, _, none⟩ :: _) _ _; refine RowKit.Hid.out ?_)
          refine Lib.hid ?_
          refine wpList_load_row rfl 38 (.tmp 2) rfl _ rfl _ _ (0, 0) _ Aq.out Tryz.underlying38 rfl infoL9 ?_
          go_wp2_with (with_reducible show wpList _ _ _ (⟨_, .store 38 (.tmp 4) (.tmp 69), _, _, _, none⟩ :: _) _ _; refine RowKit.Hid.out ?_)
          refine Lib.hid ?_
          obtain ⟨cs, hcs, hz⟩ := B6.out.bz
          have hone := B6.out.rf.one
          refine wpList_store_row rfl 38 (.tmp 4) (.tmp 69) rfl _ _ rfl rfl _ _ hz infoL9 hcs hone ?_
          obtain ⟨hret, hrow⟩ := B6.out.ret
          go_wp2_with fail
          refine bodyPost_ret (results_cell_row rfl _ _ (w.heap.size + 1 + 1) 38 _ (0, 0) _ rfl hrow Tryz.underlying38 rfl infoL9) rfl ?_
          have hT := HQ.out
          subst hT
          exact hret
    · have hRE : X.rearm = X := by unfold Lk.rearm; rw [if_neg (fun g => hl g.2.1)]
      have f1 : ¬ (0 : Int) < (X.s.ps.length : Int) := by omega
      have fb : decide ((0 : Int) < (X.s.ps.length : Int)) = false := decide_eq_false f1
      have HO : Hid (X.out.length ≤ 900000) := by have := HXO.out.2; unfold Hid; omega
      rw [hRE] at HQ2
      have HQp := HQ2
      clear hRE HQ2 hl
      cases hp : c.p with
      | true =>
        rw [hp] at kp
        have HQ : Hid (Q = X.answer) := by
          unfold Hid
          rw [HQp.out, if_pos hp]
        have HAN := r9answer_any _ V6 _ _ _ _ _ _ B6.out.rf HO.out
        have Aq := Lib.hid B6.out.ba
        clear HQp hp
        go_wp2_with (with_reducible show wpList _ _ _ (⟨_, .load 38 (.tmp 2), _, _, _, none⟩ :: _) _ _; refine RowKit.Hid.out ?_)
        refine Lib.hid ?_
        refine wpList_load_row rfl 38 (.tmp 2) rfl _ rfl _ _ (0, 0) _ Aq.out Tryz.underlying38 rfl infoL9 ?_
        go_wp2_with fail
        refine (HAN).mono ?_
        rintro e W9 ⟨⟨sl9, rl9, ra9, ov9, iv9, rfl, hr9⟩, hb9⟩
        go_wp2_with (with_reducible show wpList _ _ _ (⟨_, .store 38 (.tmp 4) (.tmp 68), _, _, _, none⟩ :: _) _ _; refine RowKit.Hid.out ?_)
        refine Lib.hid ?_
        obtain ⟨cs, hcs, hz⟩ := B6.out.bz
        refine wpList_store_row rfl 38 (.tmp 4) (.tmp 68) rfl _ _ rfl rfl _ _ (bl_get hb9 hz) infoL9 hcs hr9.one ?_
        obtain ⟨hret, hrow⟩ := B6.out.rets hb9 hr9
        go_wp2_with fail
        refine bodyPost_ret (results_cell_row rfl _ _ (w.heap.size + 1 + 1) 38 _ (0, 0) _ rfl hrow Tryz.underlying38 rfl infoL9) rfl ?_
        have hT := HQ.out
        subst hT
        exact hret
      | false =>
        rw [hp] at kp
        have HQ : Hid (Q = X) := by
          unfold Hid
          rw [HQp.out, if_neg (by rw [hp]; simp)]
        have Aq := Lib.hid B6.out.ba
        clear HQp hp
        go_wp2_with (with_reducible show wpList _ _ _ (⟨_, .load 38 (.tmp 2), _, _, _, none⟩ :: _) _ _; refine RowKit.Hid.out ?_)
        refine Lib.hid ?_
        refine wpList_load_row rfl 38 (.tmp 2) rfl _ rfl _ _ (0, 0) _ Aq.out Tryz.underlying38 rfl infoL9 ?_
        go_wp2_with (with_reducible show wpList _ _ _ (⟨_, .store 38 (.tmp 4) (.tmp 69), _, _, _, none⟩ :: _) _ _; refine RowKit.Hid.out ?_)
        refine Lib.hid ?_
        obtain ⟨cs, hcs, hz⟩ := B6.out.bz
        have hone := B6.out.rf.one
        refine wpList_store_row rfl 38 (.tmp 4) (.tmp 69) rfl _ _ rfl rfl _ _ hz infoL9 hcs hone ?_
        obtain ⟨hret, hrow⟩ := B6.out.ret
        go_wp2_with fail
        refine bodyPost_ret (results_cell_row rfl _ _ (w.heap.size + 1 + 1) 38 _ (0, 0) _ rfl hrow Tryz.underlying38 rfl infoL9) rfl ?_
        have hT := HQ.out
        subst hT
        exact hret
  | false =>
    rw [hup] at c2
    have hwk : t.woke = t.heard := by unfold Lk.woke; rw [if_neg (by rw [hup]; simp)]
    rw [hwk] at HQ00 HWO
    have HHE := r9heard_any _ W0 _ _ _ _ _ _ hB0.rf
    obtain ⟨T1, hT1⟩ : ∃ T, t.heard = T := ⟨_, rfl⟩
    rw [hT1] at HQ00 HWO HHE
    clear hB0 hup hwk
    go_enter Tryz.func55, Tryz.ntmps55
    go_wp2_with (first | simp only [hW0] | (with_reducible show wpList _ _ _ (⟨_, .load 38 (.tmp 2), _, _, _, none⟩ :: _) _ _; refine RowKit.Hid.out ?_))
    refine Lib.hid ?_
    refine wpList_load_row rfl 38 (.tmp 2) rfl _ rfl _ _ (0, 0) _ A0.out Tryz.underlying38 rfl infoL9 ?_
    go_wp2_with fail
    refine (HHE).mono ?_
    rintro e W1 ⟨⟨sl1, rl1, ra1, ov1, iv1, rfl, hr1⟩, hb1⟩
    go_wp2_with (with_reducible show wpList _ _ _ (⟨_, .store 38 (.tmp 2) (.tmp 11), _, _, _, none⟩ :: _) _ _; refine RowKit.Hid.out ?_)
    refine Lib.hid ?_
    refine wpList_store_row rfl 38 (.tmp 2) (.tmp 11) rfl _ _ rfl rfl _ _ (bl_get hb1 B0.out.ba) infoL9 rfl hr1.one ?_
    have hB1 := B0.out.stored hb1 hr1
    have hF1 := fr_row W1 w.heap.size (Lk.ref T1 sl1 rl1 ra1 ov1 iv1)
    obtain ⟨V1, hV1⟩ : ∃ V, W1.setRow w.heap.size (Lk.ref T1 sl1 rl1 ra1 ov1 iv1) = V := ⟨_, rfl⟩
    rw [hV1] at hB1 hF1 ⊢
    have B1 := Lib.hid hB1
    have A1 := Lib.hid hB1.ba
    clear hB1 hV1
    have hlm1 := B1.out.rf.lim
    have HQ0 := HQ00
    have HH := HWO
    have hBq := B1.out
    have hcq := hF1.get (bl_get hb1 HCq.out) (by omega)
    have hxq : Byz (Live (fun k => C k ∨ k = w.heap.size ∨ k = w.heap.size + 1 + 1) V1) V1 (.slice xo c.data.length xc) c.data := (((HXq.out.below hb1).mono fun k hk => hk.grow hb1.size).fr hF1 fun k hk e => hk.2 (.inr (.inl e))).mono fun k hk => hk.grow hF1.size
    clear hlm1 B1 hF1 hb1 hr1 HHE HQ00 HWO HCq HXq hT1 B0 A0 A1
    have k0 : V1.cell? ⟨w.heap.size + 1, 0, none⟩ = some (.int .i64 c.kind) := by rw [cell_of_row _ _ _ _ _ _ hcq]; rfl
    have k2 : V1.cell? ⟨w.heap.size + 1, 2, none⟩ = some (.int .i64 c.nr) := by rw [cell_of_row _ _ _ _ _ _ hcq]; rfl
    have k3 : V1.cell? ⟨w.heap.size + 1, 3, none⟩ = some (.bool c.p) := by rw [cell_of_row _ _ _ _ _ _ hcq]; rfl
    have hlm := hBq.rf.lim
    by_cases h1 : c.kind = 1
    · have HQ : Hid (Q = T1.comes c.ns c.nr c.p c.data) := by
        unfold Hid
        rw [HQ0.out, if_pos h1]
      have HCM := r9came_any _ V1 _ _ _ _ _ _ hBq.rf HH.out.1 HH.out.2.2.2 HM.out c _ hxq HH.out.2.1 HH.out.2.2.1
      rw [h1] at k0
      have Bq := Lib.hid hBq
      have Aq := Lib.hid hBq.ba
      have Hcq := Lib.hid hcq
      clear hBq hcq hxq HQ0 h1
      go_wp2_with (with_reducible show wpList _ _ _ (⟨_, .load 38 (.tmp 2), _, _, _, none⟩ :: _) _ _; refine RowKit.Hid.out ?_)
      refine Lib.hid ?_
      refine wpList_load_row rfl 38 (.tmp 2) rfl _ rfl _ _ (0, 0) _ Aq.out Tryz.underlying38 rfl infoL9 ?_
      go_wp2_with (with_reducible show wpList _ _ _ (⟨_, .load 46 (.tmp 3), _, _, _, none⟩ :: _) _ _; refine RowKit.Hid.out ?_)
      refine Lib.hid ?_
      refine wpList_load_row rfl 46 (.tmp 3) rfl _ rfl _ _ (0, 0) _ Hcq.out Tryz.underlying46 rfl infoC7 ?_
      go_wp2_with fail
      refine (HCM).mono ?_
      rintro e W9 ⟨⟨sl9, rl9, ra9, ov9, iv9, rfl, hr9⟩, hb9⟩
      go_wp2_with (with_reducible show wpList _ _ _ (⟨_, .store 38 (.tmp 4) (.tmp 18), _, _, _, none⟩ :: _) _ _; refine RowKit.Hid.out ?_)
      refine Lib.hid ?_
      obtain ⟨cs, hcs, hz⟩ := Bq.out.bz
      refine wpList_store_row rfl 38 (.tmp 4) (.tmp 18) rfl _ _ rfl rfl _ _ (bl_get hb9 hz) infoL9 hcs hr9.one ?_
      obtain ⟨hret, hrow⟩ := Bq.out.rets hb9 hr9
      go_wp2_with fail
      refine bodyPost_ret (results_cell_row rfl _ _ (w.heap.size + 1 + 1) 38 _ (0, 0) _ rfl hrow Tryz.underlying38 rfl infoL9) rfl ?_
      have hT := HQ.out
      subst hT
      exact hret
    by_cases h4 : c.kind = 4
    · have HQ1 : Hid (Q = T1.again c.nr) := by
        unfold Hid
        rw [HQ0.out, if_neg h1, if_pos h4]
      rw [h4] at k0
      obtain ⟨so, sc, hso⟩ : ∃ o c, sl1 = .slice o T1.s.ps.length c := hBq.rf.form.1
      subst hso
      have c10 : V1.cell? ⟨w.heap.size, 10, none⟩ = some (.int .i64 T1.s.size) := hBq.cell 10 rfl
      have c11 : V1.cell? ⟨w.heap.size, 11, none⟩ = some (.int .i64 T1.s.base) := hBq.cell 11 rfl
      have c12 : V1.cell? ⟨w.heap.size, 12, none⟩ = some (.slice so T1.s.ps.length sc) := hBq.cell 12 rfl
      have c13 : V1.cell? ⟨w.heap.size, 13, none⟩ = some (.int .i64 T1.s.under) := hBq.cell 13 rfl
      have HAG := ragain_any _ T1.s HH.out.1.s (.slice so T1.s.ps.length sc) c.nr V1 hBq.rf.snd
      unfold refV at HAG
      obtain ⟨P, hP⟩ : ∃ P, T1.s.againP c.nr = P := ⟨_, rfl⟩
      obtain ⟨E, hE⟩ : ∃ E, T1.s.againE c.nr = E := ⟨_, rfl⟩
      have HQ2 : Hid (Q = if E = 0 then T1.dat c.nr P false else T1) := by
        unfold Hid
        rw [HQ1.out]
        unfold Lk.again
        rw [hE, hP]
      rw [hP, hE] at HAG
      have Bq := Lib.hid hBq
      clear hBq hcq hxq HQ0 HQ1 h1 h4 hP hE
      by_cases hE0 : E = 0
      · subst hE0
        have HQ : Hid (Q = T1.dat c.nr P false) := by
          unfold Hid
          rw [HQ2.out, if_pos rfl]
        go_wp2_with fail
        refine HAG.mono ?_
        rintro e W5 ⟨u, rfl, hu, hb5⟩
        obtain ⟨uo, uc, rfl⟩ : ∃ uo uc, u = .slice uo P.length uc := by
          obtain ⟨⟨⟨_, ao, cap, h, _⟩, _⟩, _⟩ := hu
          exact ⟨ao, cap, h⟩
        have hB5 := Bq.out.below hb5
        have m2 := below_cell hb5 k2
        have HDT := r9data_any _ W5 _ _ _ _ _ _ hB5.rf c.nr P false _ (hu.mono fun k hk => hk.grow hb5.size) (by have := HH.out.2.1; omega)
        have B5 := Lib.hid hB5
        have A5 := Lib.hid hB5.ba
        clear hB5 hu hb5 HAG c10 c11 c12 c13 k0 k2 k3
        go_wp2_with (with_reducible show wpList _ _ _ (⟨_, .load 38 (.tmp 2), _, _, _, none⟩ :: _) _ _; refine RowKit.Hid.out ?_)
        refine Lib.hid ?_
        refine wpList_load_row rfl 38 (.tmp 2) rfl _ rfl _ _ (0, 0) _ A5.out Tryz.underlying38 rfl infoL9 ?_
        go_wp2_with fail
        refine (HDT).mono ?_
        rintro e W9 ⟨⟨sl9, rl9, ra9, ov9, iv9, rfl, hr9⟩, hb9⟩
        go_wp2_with (with_reducible show wpList _ _ _ (⟨_, .store 38 (.tmp 4) (.tmp 36), _, _, _, none⟩ :: _) _ _; refine RowKit.Hid.out ?_)
        refine Lib.hid ?_
        obtain ⟨cs, hcs, hz⟩ := B5.out.bz
        refine wpList_store_row rfl 38 (.tmp 4) (.tmp 36) rfl _ _ rfl rfl _ _ (bl_get hb9 hz) infoL9 hcs hr9.one ?_
        obtain ⟨hret, hrow⟩ := B5.out.rets hb9 hr9
        go_wp2_with fail
        refine bodyPost_ret (results_cell_row rfl _ _ (w.heap.size + 1 + 1) 38 _ (0, 0) _ rfl hrow Tryz.underlying38 rfl infoL9) rfl ?_
        have hT := HQ.out
        subst hT
        exact hret
      · have HQ : Hid (Q = T1) := by
          unfold Hid
          rw [HQ2.out, if_neg hE0]
        have hEb : (E != 0) = true := by simpa using hE0
        go_wp2_with fail
        refine HAG.mono ?_
        rintro e W5 ⟨u, rfl, hu, hb5⟩
        obtain ⟨uo, uc, rfl⟩ : ∃ uo uc, u = .slice uo P.length uc := by
          obtain ⟨⟨⟨_, ao, cap, h, _⟩, _⟩, _⟩ := hu
          exact ⟨ao, cap, h⟩
        have hB5 := Bq.out.below hb5
        have B5 := Lib.hid hB5
        have A5 := Lib.hid hB5.ba
        clear hB5 hu hb5 HAG c10 c11 c12 c13 k0 k2 k3
        go_wp2_with (with_reducible show wpList _ _ _ (⟨_, .load 38 (.tmp 2), _, _, _, none⟩ :: _) _ _; refine RowKit.Hid.out ?_)
        refine Lib.hid ?_
        refine wpList_load_row rfl 38 (.tmp 2) rfl _ rfl _ _ (0, 0) _ A5.out Tryz.underlying38 rfl infoL9 ?_
        go_wp2_with (with_reducible show wpList _ _ _ (⟨_, .store 38 (.tmp 4) (.tmp 31), _, _, _, none⟩ :: _) _ _; refine RowKit.Hid.out ?_)
        refine Lib.hid ?_
        obtain ⟨cs, hcs, hz⟩ := B5.out.bz
        have hone := B5.out.rf.one
        refine wpList_store_row rfl 38 (.tmp 4) (.tmp 31) rfl _ _ rfl rfl _ _ hz infoL9 hcs hone ?_
        obtain ⟨hret, hrow⟩ := B5.out.ret
        go_wp2_with fail
        refine bodyPost_ret (results_cell_row rfl _ _ (w.heap.size + 1 + 1) 38 _ (0, 0) _ rfl hrow Tryz.underlying38 rfl infoL9) rfl ?_
        have hT := HQ.out
        subst hT
        exact hret
    by_cases h2 : c.kind = 2
    · rw [h2] at k0
      have z8 := hBq.frozen 8
      have g8 : V1.cell? ⟨w.heap.size, 8, none⟩ = some (.bool T1.busy) := hBq.cell 8 rfl
      have hBb := hBq.put1 (t' := { T1 with busy := false }) 8 (.bool false) rfl rfl rfl rfl rfl
      obtain ⟨V3, hV3⟩ : ∃ V, V1.setCell ⟨w.heap.size, 8, none⟩ (.bool false) = V := ⟨_, rfl⟩
      have hf3 : Fr (fun k => k = w.heap.size) V1 V3 := hV3 ▸ fr_cell V1 w.heap.size 8 _
      rw [hV3] at hBb
      have m2 := hf3.cell k2 (by omega)
      have m3 := hf3.cell k3 (by omega)
      have hc3 := hf3.get hcq (by omega)
      have hkb : LkOk ({ T1 with busy := false } : Lk) := ⟨HH.out.1.me, HH.out.1.s, HH.out.1.r⟩
      have HAK := r9ack_any _ V3 _ _ _ _ _ _ hBb.rf hkb.s c.nr
      obtain ⟨hka, hko, hki⟩ := ack_grow { T1 with busy := false } c.nr hkb
      obtain ⟨X, hX⟩ : ∃ X, ({ T1 with busy := false } : Lk).ack c.nr = X := ⟨_, rfl⟩
      have hXb : X.busy = false := by
        rw [← hX]
        unfold Lk.ack
        split <;> rfl
      rw [hX] at HAK hka hko hki
      have HXO : Hid (LkOk X ∧ X.out.length ≤ 700000) := ⟨hka, by have h9 := HH.out.2.1; have h8 : ({ T1 with busy := false } : Lk).out.length = T1.out.length := rfl; omega⟩
      have HQ1 : Hid (Q = if c.p = true then X.goes.rearm.answer else X.goes.rearm) := by
        unfold Hid
        rw [HQ0.out, if_neg h1, if_neg h4, h2]
        unfold Lk.ready
        rw [← hX]
        rfl
      have Bb := Lib.hid hBb
      have Ab := Lib.hid hBb.ba
      have HC3 := Lib.hid hc3
      have HQ2 : Hid (Q = if c.p = true then X.goes.answer else X.goes) := by
        unfold Hid
        obtain ⟨_, _, g⟩ := goes_went X
        have hgb : X.goes.busy = false := g.2.2.2.2.2.2.2.2.1.trans hXb
        have hra : X.goes.rearm = X.goes := by unfold Lk.rearm; rw [if_neg (by rw [hgb]; simp)]
        rw [HQ1.out, hra]
      clear hBq hcq hxq HQ0 HQ1 hBb hf3 hc3 hkb hka hko hki hX hXb h1 h4 h2
      go_wp2_with (first | simp only [hV3] | (with_reducible show wpList _ _ _ (⟨_, .load 38 (.tmp 2), _, _, _, none⟩ :: _) _ _; refine RowKit.Hid.out ?_))
      refine Lib.hid ?_
      refine wpList_load_row rfl 38 (.tmp 2) rfl _ rfl _ _ (0, 0) _ Ab.out Tryz.underlying38 rfl infoL9 ?_
      go_wp2_with fail
      refine (HAK).mono ?_
      rintro e W4 ⟨⟨sl4, rl4, ra4, ov4, iv4, rfl, hr4⟩, hb4⟩
      have HGO := r9goes_any _ W4 _ _ _ _ _ _ hr4 HXO.out.1.s (by have := HXO.out.2; omega)
      go_wp2_with fail
      refine (HGO).mono ?_
      rintro e W5 ⟨⟨sl5, rl5, ra5, ov5, iv5, rfl, hr5⟩, hb5⟩
      have hb45 := bl_trans hb4 hb5
      have hYO := (goes_grow X HXO.out.1).2.1
      have HO : Hid (X.goes.out.length ≤ 900000) := by have := HXO.out.2; unfold Hid; omega
      obtain ⟨Y, hY⟩ : ∃ Y, X.goes = Y := ⟨_, rfl⟩
      rw [hY] at HQ2 HO hr5
      simp only [hY]
      go_wp2_with (with_reducible show wpList _ _ _ (⟨_, .store 38 (.tmp 2) (.tmp 44), _, _, _, none⟩ :: _) _ _; refine RowKit.Hid.out ?_)
      refine Lib.hid ?_
      refine wpList_store_row rfl 38 (.tmp 2) (.tmp 44) rfl _ _ rfl rfl _ _ (bl_get hb45 Bb.out.ba) infoL9 rfl hr5.one ?_
      have hB6 := Bb.out.stored hb45 hr5
      have hF6 := fr_row W5 w.heap.size (Lk.ref Y sl5 rl5 ra5 ov5 iv5)
      obtain ⟨V6, hV6⟩ : ∃ V, W5.setRow w.heap.size (Lk.ref Y sl5 rl5 ra5 ov5 iv5) = V := ⟨_, rfl⟩
      rw [hV6] at hB6 hF6 ⊢
      have B6 := Lib.hid hB6
      have A6 := Lib.hid hB6.ba
      clear hB6 hV6
      have hlb := Bb.out.rf.lim
      have HQp := HQ2
      have kp : V6.cell? ⟨w.heap.size + 1, 3, none⟩ = some (.bool c.p) := hF6.cell (below_cell hb45 m3) (by omega)
      clear hb4 hb5 hb45 hr4 hr5 HAK HGO hY hYO HQ2 hF6 m2 m3 k2 k3 k0 hlm hlb
      cases hp : c.p with
      | true =>
        rw [hp] at kp
        have HQ : Hid (Q = Y.answer) := by
          unfold Hid
          rw [HQp.out, if_pos hp]
        have HAN := r9answer_any _ V6 _ _ _ _ _ _ B6.out.rf HO.out
        have Aq := Lib.hid B6.out.ba
        clear HQp hp
        go_wp2_with (with_reducible show wpList _ _ _ (⟨_, .load 38 (.tmp 2), _, _, _, none⟩ :: _) _ _; refine RowKit.Hid.out ?_)
        refine Lib.hid ?_
        refine wpList_load_row rfl 38 (.tmp 2) rfl _ rfl _ _ (0, 0) _ Aq.out Tryz.underlying38 rfl infoL9 ?_
        go_wp2_with fail
        refine (HAN).mono ?_
        rintro e W9 ⟨⟨sl9, rl9, ra9, ov9, iv9, rfl, hr9⟩, hb9⟩
        go_wp2_with (with_reducible show wpList _ _ _ (⟨_, .store 38 (.tmp 4) (.tmp 68), _, _, _, none⟩ :: _) _ _; refine RowKit.Hid.out ?_)
        refine Lib.hid ?_
        obtain ⟨cs, hcs, hz⟩ := B6.out.bz
        refine wpList_store_row rfl 38 (.tmp 4) (.tmp 68) rfl _ _ rfl rfl _ _ (bl_get hb9 hz) infoL9 hcs hr9.one ?_
        obtain ⟨hret, hrow⟩ := B6.out.rets hb9 hr9
        go_wp2_with fail
        refine bodyPost_ret (results_cell_row rfl _ _ (w.heap.size + 1 + 1) 38 _ (0, 0) _ rfl hrow Tryz.underlying38 rfl infoL9) rfl ?_
        have hT := HQ.out
        subst hT
        exact hret
      | false =>
        rw [hp] at kp
        have HQ : Hid (Q = Y) := by
          unfold Hid
          rw [HQp.out, if_neg (by rw [hp]; simp)]
        have Aq := Lib.hid B6.out.ba
        clear HQp hp
        go_wp2_with (with_reducible show wpList _ _ _ (⟨_, .load 38 (.tmp 2), _, _, _, none⟩ :: _) _ _; refine RowKit.Hid.out ?_)
        refine Lib.hid ?_
        refine wpList_load_row rfl 38 (.tmp 2) rfl _ rfl _ _ (0, 0) _ Aq.out Tryz.underlying38 rfl infoL9 ?_
        go_wp2_with (with_reducible show wpList _ _ _ (⟨_, .store 38 (.tmp 4) (.tmp 69), _, _, _, none⟩ :: _) _ _; refine RowKit.Hid.out ?_)
        refine Lib.hid ?_
        obtain ⟨cs, hcs, hz⟩ := B6.out.bz
        have hone := B6.out.rf.one
        refine wpList_store_row rfl 38 (.tmp 4) (.tmp 69) rfl _ _ rfl rfl _ _ hz infoL9 hcs hone ?_
        obtain ⟨hret, hrow⟩ := B6.out.ret
        go_wp2_with fail
        refine bodyPost_ret (results_cell_row rfl _ _ (w.heap.size + 1 + 1) 38 _ (0, 0) _ rfl hrow Tryz.underlying38 rfl infoL9) rfl ?_
        have hT := HQ.out
        subst hT
        exact hret
    obtain h3 : c.kind = 3 := by have := HK.out; omega
    rw [h3] at k0
    have z8 := hBq.frozen 8
    have g8 : V1.cell? ⟨w.heap.size, 8, none⟩ = some (.bool T1.busy) := hBq.cell 8 rfl
    have hBb := hBq.put1 (t' := { T1 with busy := true }) 8 (.bool true) rfl rfl rfl rfl rfl
    obtain ⟨V3, hV3⟩ : ∃ V, V1.setCell ⟨w.heap.size, 8, none⟩ (.bool true) = V := ⟨_, rfl⟩
    have hf3 : Fr (fun k => k = w.heap.size) V1 V3 := hV3 ▸ fr_cell V1 w.heap.size 8 _
    rw [hV3] at hBb
    have m2 := hf3.cell k2 (by omega)
    have m3 := hf3.cell k3 (by omega)
    have hc3 := hf3.get hcq (by omega)
    have hkb : LkOk ({ T1 with busy := true } : Lk) := ⟨HH.out.1.me, HH.out.1.s, HH.out.1.r⟩
    have HAK := r9ack_any _ V3 _ _ _ _ _ _ hBb.rf hkb.s c.nr
    obtain ⟨hka, hko, hki⟩ := ack_grow { T1 with busy := true } c.nr hkb
    obtain ⟨X, hX⟩ : ∃ X, ({ T1 with busy := true } : Lk).ack c.nr = X := ⟨_, rfl⟩
    have hXb : X.busy = true := by
      rw [← hX]
      unfold Lk.ack
      split <;> rfl
    rw [hX] at HAK hka hko hki
    have HXO : Hid (LkOk X ∧ X.out.length ≤ 700000) := ⟨hka, by have h9 := HH.out.2.1; have h8 : ({ T1 with busy := true } : Lk).out.length = T1.out.length := rfl; omega⟩
    have HQ1 : Hid (Q = if c.p = true then X.goes.rearm.answer else X.goes.rearm) := by
      unfold Hid
      rw [HQ0.out, if_neg h1, if_neg h4, h3]
      unfold Lk.ready
      rw [← hX]
      rfl
    have Bb := Lib.hid hBb
    have Ab := Lib.hid hBb.ba
    have HC3 := Lib.hid hc3
    have hgo : X.goes = X := by
      show goesN (63 + 1) X = X
      unfold goesN
      rw [if_neg (by rw [hXb]; simp)]
    have HQ2 : Hid (Q = if c.p = true then X.rearm.answer else X.rearm) := by
      unfold Hid
      rw [HQ1.out, hgo]
    have HXB := Lib.hid hXb
    clear hBq hcq hxq HQ0 HQ1 hBb hf3 hc3 hkb hka hko hki hX hXb hgo h1 h4 h2 h3
    go_wp2_with (first | simp only [hV3] | (with_reducible show wpList _ _ _ (⟨_, .load 38 (.tmp 2), _, _, _, none⟩ :: _) _ _; refine RowKit.Hid.out ?_))
    refine Lib.hid ?_
    refine wpList_load_row rfl 38 (.tmp 2) rfl _ rfl _ _ (0, 0) _ Ab.out Tryz.underlying38 rfl infoL9 ?_
    go_wp2_with fail
    refine (HAK).mono ?_
    rintro e W4 ⟨⟨sl4, rl4, ra4, ov4, iv4, rfl, hr4⟩, hb4⟩
    go_wp2_with (with_reducible show wpList _ _ _ (⟨_, .store 38 (.tmp 2) (.tmp 51), _, _, _, none⟩ :: _) _ _; refine RowKit.Hid.out ?_)
    refine Lib.hid ?_
    refine wpList_store_row rfl 38 (.tmp 2) (.tmp 51) rfl _ _ rfl rfl _ _ (bl_get hb4 Bb.out.ba) infoL9 rfl hr4.one ?_
    have hB6 := Bb.out.stored hb4 hr4
    have hF6 := fr_row W4 w.heap.size (Lk.ref X sl4 rl4 ra4 ov4 iv4)
    obtain ⟨V6, hV6⟩ : ∃ V, W4.setRow w.heap.size (Lk.ref X sl4 rl4 ra4 ov4 iv4) = V := ⟨_, rfl⟩
    rw [hV6] at hB6 hF6 ⊢
    have B6 := Lib.hid hB6
    have A6 := Lib.hid hB6.ba
    clear hB6 hV6
    have hlb := Bb.out.rf.lim
    have kp : V6.cell? ⟨w.heap.size + 1, 3, none⟩ = some (.bool c.p) := hF6.cell (below_cell hb4 m3) (by omega)
    obtain ⟨uo, uc, huo⟩ : ∃ o c, sl4 = .slice o X.s.ps.length c := B6.out.rf.form.1
    subst huo
    have d12 : V6.cell? ⟨w.heap.size, 12, none⟩ = some (.slice uo X.s.ps.length uc) := B6.out.cell 12 rfl
    have d5 : V6.cell? ⟨w.heap.size, 5, none⟩ = some (.int .i64 X.left) := B6.out.cell 5 rfl
    have d3 : V6.cell? ⟨w.heap.size, 3, none⟩ = some (.int .i64 X.timer) := B6.out.cell 3 rfl
    have x5 := B6.out.frozen 5
    clear hb4 hr4 HAK hF6 m2 m3 k2 k3 k0 hlm hlb
    by_cases hl : 0 < X.s.ps.length
    · have f1 : (0 : Int) < (X.s.ps.length : Int) := by omega
      have fb : decide ((0 : Int) < (X.s.ps.length : Int)) = true := decide_eq_true f1
      by_cases hz : X.left = 0
      · have hRE : X.rearm = { X with left := X.timer } := by unfold Lk.rearm; rw [if_pos ⟨HXB.out, hl, hz⟩]
        have hB7 := B6.out.put1 (t' := { X with left := X.timer }) 5 (.int .i64 X.timer) rfl rfl rfl rfl rfl
        obtain ⟨V7, hV7⟩ : ∃ V, V6.setCell ⟨w.heap.size, 5, none⟩ (.int .i64 X.timer) = V := ⟨_, rfl⟩
        have hf7 : Fr (fun k => k = w.heap.size) V6 V7 := hV7 ▸ fr_cell V6 w.heap.size 5 _
        rw [hV7] at hB7
        have kq := hf7.cell kp (by omega)
        rw [← hRE] at hB7
        have HO : Hid (X.rearm.out.length ≤ 900000) := by have := HXO.out.2; unfold Hid; rw [hRE]; show X.out.length ≤ _; omega
        obtain ⟨Y, hY⟩ : ∃ Y, X.rearm = Y := ⟨_, rfl⟩
        rw [hY] at hB7 HQ2 HO
        have B7 := Lib.hid hB7
        have HQp := HQ2
        rw [hz] at d5
        clear hRE hY hB7 hf7 HQ2 hl kp
        have kp := kq
        clear kq
        cases hp : c.p with
        | true =>
          rw [hp] at kp
          have HQ : Hid (Q = Y.answer) := by
            unfold Hid
            rw [HQp.out, if_pos hp]
          have HAN := r9answer_any _ V7 _ _ _ _ _ _ B7.out.rf HO.out
          have Aq := Lib.hid B7.out.ba
          clear HQp hp
          go_wp2_with (first | simp only [hV7] | with_reducible show wpList _ _ _ (⟨_, .load 38 (.tmp 2), _, _, _, none⟩ :: _) _ _; refine RowKit.Hid.out ?_)
          refine Lib.hid ?_
          refine wpList_load_row rfl 38 (.tmp 2) rfl _ rfl _ _ (0, 0) _ Aq.out Tryz.underlying38 rfl infoL9 ?_
          go_wp2_with fail
          refine (HAN).mono ?_
          rintro e W9 ⟨⟨sl9, rl9, ra9, ov9, iv9, rfl, hr9⟩, hb9⟩
          go_wp2_with (with_reducible show wpList _ _ _ (⟨_, .store 38 (.tmp 4) (.tmp 68), _, _, _, none⟩ :: _) _ _; refine RowKit.Hid.out ?_)
          refine Lib.hid ?_
          obtain ⟨cs, hcs, hz⟩ := B7.out.bz
          refine wpList_store_row rfl 38 (.tmp 4) (.tmp 68) rfl _ _ rfl rfl _ _ (bl_get hb9 hz) infoL9 hcs hr9.one ?_
          obtain ⟨hret, hrow⟩ := B7.out.rets hb9 hr9
          go_wp2_with fail
          refine bodyPost_ret (results_cell_row rfl _ _ (w.heap.size + 1 + 1) 38 _ (0, 0) _ rfl hrow Tryz.underlying38 rfl infoL9) rfl ?_
          have hT := HQ.out
          subst hT
          exact hret
        | false =>
          rw [hp] at kp
          have HQ : Hid (Q = Y) := by
            unfold Hid
            rw [HQp.out, if_neg (by rw [hp]; simp)]
          have Aq := Lib.hid B7.out.ba
          clear HQp hp
          go_wp2_with (with_reducible show wpList _ _ _ (⟨_, .load 38 (.tmp 2), _, _, _, none⟩ :: _) _ _; refine RowKit.Hid.out ?_)
          refine Lib.hid ?_
          refine wpList_load_row rfl 38 (.tmp 2) rfl _ rfl _ _ (0, 0) _ Aq.out Tryz.underlying38 rfl infoL9 ?_
          go_wp2_with (with_reducible show wpList _ _ _ (⟨_, .store 38 (.tmp 4) (.tmp 69), _, _, _, none⟩ :: _) _ _; refine RowKit.Hid.out ?_)
          refine Lib.hid ?_
          obtain ⟨cs, hcs, hz⟩ := B7.out.bz
          have hone := B7.out.rf.one
          refine wpList_store_row rfl 38 (.tmp 4) (.tmp 69) rfl _ _ rfl rfl _ _ hz infoL9 hcs hone ?_
          obtain ⟨hret, hrow⟩ := B7.out.ret
          go_wp2_with fail
          refine bodyPost_ret (results_cell_row rfl _ _ (w.heap.size + 1 + 1) 38 _ (0, 0) _ rfl hrow Tryz.underlying38 rfl infoL9) rfl ?_
          have hT := HQ.out
          subst hT
          exact hret
      · have hRE : X.rearm = X := by unfold Lk.rearm; rw [if_neg (fun g => hz g.2.2)]
        have fz : ((X.left : Int) = 0) = False := eq_false (by omega)
        have HO : Hid (X.out.length ≤ 900000) := by have := HXO.out.2; unfold Hid; omega
        rw [hRE] at HQ2
        have HQp := HQ2
        clear hRE HQ2 hl
        cases hp : c.p with
        | true =>
          rw [hp] at kp
          have HQ : Hid (Q = X.answer) := by
            unfold Hid
            rw [HQp.out, if_pos hp]
          have HAN := r9answer_any _ V6 _ _ _ _ _ _ B6.out.rf HO.out
          have Aq := Lib.hid B6.out.ba
          clear HQp hp
          go_wp2_with (with_reducible show wpList _ _ _ (⟨_, .load 38 (.tmp 2), _, _, _, none⟩ :: _) _ _; refine RowKit.Hid.out ?_)
          refine Lib.hid ?_
          refine wpList_load_row rfl 38 (.tmp 2) rfl _ rfl _ _ (0, 0) _ Aq.out Tryz.underlying38 rfl infoL9 ?_
          go_wp2_with fail
          refine (HAN).mono ?_
          rintro e W9 ⟨⟨sl9, rl9, ra9, ov9, iv9, rfl, hr9⟩, hb9⟩
          go_wp2_with (with_reducible show wpList _ _ _ (⟨_, .store 38 (.tmp 4) (.tmp 68), _, _, _, none⟩ :: _) _ _; refine RowKit.Hid.out ?_)
          refine Lib.hid ?_
          obtain ⟨cs, hcs, hz⟩ := B6.out.bz
          refine wpList_store_row rfl 38 (.tmp 4) (.tmp 68) rfl _ _ rfl rfl _ _ (bl_get hb9 hz) infoL9 hcs hr9.one ?_
          obtain ⟨hret, hrow⟩ := B6.out.rets hb9 hr9
          go_wp2_with fail
          refine bodyPost_ret (results_cell_row rfl _ _ (w.heap.size + 1 + 1) 38 _ (0, 0) _ rfl hrow Tryz.underlying38 rfl infoL9) rfl ?_
          have hT := HQ.out
          subst hT
          exact hret
        | false =>
          rw [hp] at kp
          have HQ : Hid (Q = X) := by
            unfold Hid
            rw [HQp.out, if_neg (by rw [hp]; simp)]
          have Aq := Lib.hid B6.out.ba
          clear HQp hp
          go_wp2_with (with_reducible show wpList _ _ _ (⟨_, .load 38 (.tmp 2), _, _, _, none⟩ :: _) _ _; refine RowKit.Hid.out ?_)
          refine Lib.hid ?_
          refine wpList_load_row rfl 38 (.tmp 2) rfl _ rfl _ _ (0, 0) _ Aq.out Tryz.underlying38 rfl infoL9 ?_
          go_wp2_with (with_reducible show wpList _ _ _ (⟨_, .store 38 (.tmp 4) (.tmp 69), _, _, _, none⟩ :: _) _ _; refine RowKit.Hid.out ?_)
          refine Lib.hid ?_
          obtain ⟨cs, hcs, hz⟩ := B6.out.bz
          have hone := B6.out.rf.one
          refine wpList_store_row rfl 38 (.tmp 4) (.tmp 69) rfl _ _ rfl rfl _ _ hz infoL9 hcs hone ?_
          obtain ⟨hret, hrow⟩ := B6.out.ret
          go_wp2_with fail
          refine bodyPost_ret (results_cell_row rfl _ _ (w.heap.size + 1 + 1) 38 _ (0, 0) _ rfl hrow Tryz.underlying38 rfl infoL9) rfl ?_
          have hT := HQ.out
          subst hT
          exact hret
    · have hRE : X.rearm = X := by unfold Lk.rearm; rw [if_neg (fun g => hl g.2.1)]
      have f1 : ¬ (0 : Int) < (X.s.ps.length : Int) := by omega
      have fb : decide ((0 : Int) < (X.s.ps.length : Int)) = false := decide_eq_false f1
      have HO : Hid (X.out.length ≤ 900000) := by have := HXO.out.2; unfold Hid; omega
      rw [hRE] at HQ2
      have HQp := HQ2
      clear hRE HQ2 hl
      cases hp : c.p with
      | true =>
        rw [hp] at kp
        have HQ : Hid (Q = X.answer) := by
          unfold Hid
          rw [HQp.out, if_pos hp]
        have HAN := r9answer_any _ V6 _ _ _ _ _ _ B6.out.rf HO.out
        have Aq := Lib.hid B6.out.ba
        clear HQp hp
        go_wp2_with (with_reducible show wpList _ _ _ (⟨_, .load 38 (.tmp 2), _, _, _, none⟩ :: _) _ _; refine RowKit.Hid.out ?_)
        refine Lib.hid ?_
        refine wpList_load_row rfl 38 (.tmp 2) rfl _ rfl _ _ (0, 0) _ Aq.out Tryz.underlying38 rfl infoL9 ?_
        go_wp2_with fail
        refine (HAN).mono ?_
        rintro e W9 ⟨⟨sl9, rl9, ra9, ov9, iv9, rfl, hr9⟩, hb9⟩
        go_wp2_with (with_reducible show wpList _ _ _ (⟨_, .store 38 (.tmp 4) (.tmp 68), _, _, _, none⟩ :: _) _ _; refine RowKit.Hid.out ?_)
        refine Lib.hid ?_
        obtain ⟨cs, hcs, hz⟩ := B6.out.bz
        refine wpList_store_row rfl 38 (.tmp 4) (.tmp 68) rfl _ _ rfl rfl _ _ (bl_get hb9 hz) infoL9 hcs hr9.one ?_
        obtain ⟨hret, hrow⟩ := B6.out.rets hb9 hr9
        go_wp2_with fail
        refine bodyPost_ret (results_cell_row rfl _ _ (w.heap.size + 1 + 1) 38 _ (0, 0) _ rfl hrow Tryz.underlying38 rfl infoL9) rfl ?_
        have hT := HQ.out
        subst hT
        exact hret
      | false =>
        rw [hp] at kp
        have HQ : Hid (Q = X) := by
          unfold Hid
          rw [HQp.out, if_neg (by rw [hp]; simp)]
        have Aq := Lib.hid B6.out.ba
        clear HQp hp
        go_wp2_with (with_reducible show wpList _ _ _ (⟨_, .load 38 (.tmp 2), _, _, _, none⟩ :: _) _ _; refine RowKit.Hid.out ?_)
        refine Lib.hid ?_
        refine wpList_load_row rfl 38 (.tmp 2) rfl _ rfl _ _ (0, 0) _ Aq.out Tryz.underlying38 rfl infoL9 ?_
        go_wp2_with (with_reducible show wpList _ _ _ (⟨_, .store 38 (.tmp 4) (.tmp 69), _, _, _, none⟩ :: _) _ _; refine RowKit.Hid.out ?_)
        refine Lib.hid ?_
        obtain ⟨cs, hcs, hz⟩ := B6.out.bz
        have hone := B6.out.rf.one
        refine wpList_store_row rfl 38 (.tmp 4) (.tmp 69) rfl _ _ rfl rfl _ _ hz infoL9 hcs hone ?_
        obtain ⟨hret, hrow⟩ := B6.out.ret
        go_wp2_with fail
        refine bodyPost_ret (results_cell_row rfl _ _ (w.heap.size + 1 + 1) 38 _ (0, 0) _ rfl hrow Tryz.underlying38 rfl infoL9) rfl ?_
        have hT := HQ.out
        subst hT
        exact hret

end Go.Proofs.YthmdibagcbbgoaaGreat
