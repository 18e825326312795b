/- portageref09.Push, first, Busy. portageref09.Tick. Conditions: as they stand. -/
import Derived.Test.YthmdibagcbbgoaaGreatM35
namespace Go.Proofs.YthmdibagcbbgoaaGreat
open Go.RowKit

set_option maxRecDepth 100000 in
set_option maxHeartbeats 4000000 in
theorem r9push_any (C : Nat → Prop) (w : World) (sl rl ra ov iv : Value) (t : Lk) (h : RfAt C w sl rl ra ov iv t) (hok : t.s.Ok) (v : Value) (p : List Int) (hv : Reads (Value.int .u8) w v p) (hw : ∀ n ∈ p, (Lit.int .u8 n).wf = true) (hm : t.out.length ≤ 700000) :
    Calls Tryz.prog 29 #[.agg (t.ref sl rl ra ov iv), v] w fun e w' => Rf9E C w (t.push p) (t.pushE p) e w' := by
  obtain ⟨⟨so, sc, rfl⟩, _⟩ := h.form
  obtain ⟨W0, hW0, hB0⟩ := h.boxes
  have B0 := Lib.hid hB0
  have A0 := Lib.hid hB0.ba
  have c2 : W0.cell? ⟨w.heap.size, 2, none⟩ = some (.bool t.up) := hB0.cell 2 rfl
  have c10 : W0.cell? ⟨w.heap.size, 10, none⟩ = some (.int .i64 t.s.size) := hB0.cell 10 rfl
  have c11 : W0.cell? ⟨w.heap.size, 11, none⟩ = some (.int .i64 t.s.base) := hB0.cell 11 rfl
  have c12 : W0.cell? ⟨w.heap.size, 12, none⟩ = some (.slice so t.s.ps.length sc) := hB0.cell 12 rfl
  have c13 : W0.cell? ⟨w.heap.size, 13, none⟩ = some (.int .i64 t.s.under) := hB0.cell 13 rfl
  cases hup : t.up with
  | false =>
    have e1 : t.push p = t := by unfold Lk.push; rw [if_neg (by rw [hup]; simp)]
    have e2 : t.pushE p = 7 := by unfold Lk.pushE; rw [if_neg (by rw [hup]; simp)]
    rw [e1, e2]
    rw [hup] at c2
    clear hB0 h e1 e2 hup
    go_enter Tryz.func29, Tryz.ntmps29
    go_wp2_with (first | simp only [hW0] | (with_reducible show wpList _ _ _ (⟨_, .load 38 (.tmp 2), _, _, _, none⟩ :: _) _ _; refine RowKit.Hid.out ?_))
    refine Lib.hid ?_
    refine wpList_load_row rfl 38 (.tmp 2) rfl _ rfl _ _ (0, 0) _ A0.out Tryz.underlying38 rfl infoL9 ?_
    go_wp2_with (with_reducible show wpList _ _ _ (⟨_, .store 38 (.tmp 4) (.tmp 11), _, _, _, none⟩ :: _) _ _; refine RowKit.Hid.out ?_)
    refine Lib.hid ?_
    obtain ⟨cs, hcs, hz⟩ := B0.out.bz
    have hone := B0.out.rf.one
    refine wpList_store_row rfl 38 (.tmp 4) (.tmp 11) rfl _ _ rfl rfl _ _ hz infoL9 hcs hone ?_
    obtain ⟨hret, hbl, hrow⟩ := B0.out.rets2 (bl_refl _) B0.out.rf
    go_wp2_with fail
    refine bodyPost_ret (results_tmp_row rfl _ _ (w.heap.size + 1) 38 _ (0, 0) _ rfl hrow Tryz.underlying38 rfl infoL9) rfl ?_
    exact ⟨⟨_, _, _, _, _, rfl, hret⟩, hbl⟩
  | true =>
    rw [hup] at c2
    have e2 : t.pushE p = t.s.pushE p := by unfold Lk.pushE; rw [if_pos hup]
    rw [e2]
    by_cases hE : t.s.pushE p = 0
    · have e1 : t.push p = ({ t with s := t.s.push p } : Lk).goes := by unfold Lk.push; rw [if_pos ⟨hup, hE⟩]
      rw [e1, hE]
      have HP := rpush_ok _ t.s (.slice so t.s.ps.length sc) v p W0 hB0.rf.snd (hv.below hB0.bl) hw hE
      unfold refV at HP
      obtain ⟨s', hs'⟩ : ∃ s', t.s.push p = s' := ⟨_, rfl⟩
      have hsok : s'.Ok := by rw [← hs']; exact Snd.push_ok hok p
      rw [hs'] at HP ⊢
      have HSO := Lib.hid hsok
      clear hB0 h e1 e2 hup hE hv hw hs' hsok
      go_enter Tryz.func29, Tryz.ntmps29
      go_wp2_with (simp only [hW0])
      refine HP.mono ?_
      rintro e W1 ⟨u, rfl, hu, hb1⟩
      obtain ⟨uo, uc, rfl, _⟩ := hu.form
      have hB1 := B0.out.below hb1
      obtain ⟨V1, hV1⟩ : ∃ V, W1.alloc (.cells #[.int .i64 s'.size, .int .i64 s'.base, .slice uo s'.ps.length uc, .int .i64 s'.under] 31) = V := ⟨_, rfl⟩
      have hx1 : V1.heap[W1.heap.size]? = some (.cells #[.int .i64 s'.size, .int .i64 s'.base, .slice uo s'.ps.length uc, .int .i64 s'.under] 31 (0, 0)) := hV1 ▸ heap_alloc_new W1 _
      have hbv : Below W1.heap.size W1 V1 := hV1 ▸ bl_alloc (bl_refl W1) _
      have hBv := hB1.below hbv
      obtain ⟨q0, q1, q2, q3⟩ := rc_cells hx1
      have hlim0 := B0.out.rf.lim
      have HU : Pays (Live (fun k => C k ∨ k = w.heap.size ∨ k = w.heap.size + 1) V1) V1 (.slice uo s'.ps.length uc) s'.ps := (hu.below hbv).mono fun k hk => by
        rcases hk with hk | hk
        · exact (hk.grow hb1.size).grow hbv.size
        · exact ⟨Nat.lt_of_lt_of_le hk.2 hbv.size, fun g => by have := hlim0 k g; omega⟩
      have d10 : V1.cell? ⟨w.heap.size, 10, none⟩ = some (.int .i64 t.s.size) := hBv.cell 10 rfl
      have z10 := hBv.frozen 10
      have d11 : V1.cell? ⟨w.heap.size, 11, none⟩ = some (.int .i64 t.s.base) := hBv.cell 11 rfl
      have z11 := hBv.frozen 11
      have d12 : V1.cell? ⟨w.heap.size, 12, none⟩ = some (.slice so t.s.ps.length sc) := hBv.cell 12 rfl
      have z12 := hBv.frozen 12
      have d13 : V1.cell? ⟨w.heap.size, 13, none⟩ = some (.int .i64 t.s.under) := hBv.cell 13 rfl
      have z13 := hBv.frozen 13
      have hB2 := hBv.putS (sl' := .slice uo s'.ps.length uc) s' HU
      obtain ⟨V2, hV2⟩ : ∃ V, ((((V1.setCell ⟨w.heap.size, 10, none⟩ (.int .i64 s'.size)).setCell ⟨w.heap.size, 11, none⟩ (.int .i64 s'.base)).setCell ⟨w.heap.size, 12, none⟩ (.slice uo s'.ps.length uc)).setCell ⟨w.heap.size, 13, none⟩ (.int .i64 s'.under)) = V := ⟨_, rfl⟩
      rw [hV2] at hB2
      have B2 := Lib.hid hB2
      have A2 := Lib.hid hB2.ba
      have HG := r9goes_any _ V2 _ _ _ _ _ _ hB2.rf HSO.out (by show t.out.length ≤ _; omega)
      clear hu hb1 hbv hBv hB1 hB2 hx1 HU hlim0 HP c10 c11 c12 c13 c2
      go_wp2_with (with_reducible show wpList _ _ _ (⟨_, .load 38 (.tmp 2), _, _, _, none⟩ :: _) _ _; refine RowKit.Hid.out ?_)
      refine Lib.hid ?_
      refine wpList_load_row rfl 38 (.tmp 2) rfl _ rfl _ _ (0, 0) _ A2.out Tryz.underlying38 rfl infoL9 ?_
      go_wp2_with fail
      refine (HG).mono ?_
      rintro e W3 ⟨⟨sl3, rl3, ra3, ov3, iv3, rfl, hr3⟩, hb3⟩
      go_wp2_with (with_reducible show wpList _ _ _ (⟨_, .store 38 (.tmp 4) (.tmp 26), _, _, _, none⟩ :: _) _ _; refine RowKit.Hid.out ?_)
      refine Lib.hid ?_
      obtain ⟨cs, hcs, hz⟩ := B2.out.bz
      refine wpList_store_row rfl 38 (.tmp 4) (.tmp 26) rfl _ _ rfl rfl _ _ (bl_get hb3 hz) infoL9 hcs hr3.one ?_
      obtain ⟨hret, hbl, hrow⟩ := B2.out.rets2 hb3 hr3
      go_wp2_with fail
      refine bodyPost_ret (results_tmp_row rfl _ _ (w.heap.size + 1) 38 _ (0, 0) _ rfl hrow Tryz.underlying38 rfl infoL9) rfl ?_
      exact ⟨⟨_, _, _, _, _, rfl, hret⟩, hbl⟩
    · have e1 : t.push p = t := by unfold Lk.push; rw [if_neg (fun g => hE g.2)]
      rw [e1]
      have HP := rpush_bad _ t.s (.slice so t.s.ps.length sc) v p W0 hB0.rf.snd (hv.below hB0.bl) hE
      unfold refV at HP
      obtain ⟨E, hE'⟩ : ∃ E, t.s.pushE p = E := ⟨_, rfl⟩
      rw [hE'] at HP hE ⊢
      have hE1 : ¬ E = 0 := hE
      clear hB0 h e1 e2 hup hv hw hE' hE
      go_enter Tryz.func29, Tryz.ntmps29
      go_wp2_with (simp only [hW0])
      refine HP.mono ?_
      rintro e W1 ⟨rfl, hb1⟩
      have hB1 := (B0.out.below hb1).below (bl_alloc (bl_refl W1) (.cells #[.int .i64 t.s.size, .int .i64 t.s.base, .slice so t.s.ps.length sc, .int .i64 t.s.under] 31))
      obtain ⟨V1, hV1⟩ : ∃ V, W1.alloc (.cells #[.int .i64 t.s.size, .int .i64 t.s.base, .slice so t.s.ps.length sc, .int .i64 t.s.under] 31) = V := ⟨_, rfl⟩
      rw [hV1] at hB1
      have B1 := Lib.hid hB1
      have A1 := Lib.hid hB1.ba
      clear hb1 hB1 HP c10 c11 c12 c13 c2
      go_wp2_with (with_reducible show wpList _ _ _ (⟨_, .load 38 (.tmp 2), _, _, _, none⟩ :: _) _ _; refine RowKit.Hid.out ?_)
      refine Lib.hid ?_
      refine wpList_load_row rfl 38 (.tmp 2) rfl _ rfl _ _ (0, 0) _ A1.out Tryz.underlying38 rfl infoL9 ?_
      go_wp2_with (with_reducible show wpList _ _ _ (⟨_, .store 38 (.tmp 4) (.tmp 21), _, _, _, none⟩ :: _) _ _; refine RowKit.Hid.out ?_)
      refine Lib.hid ?_
      obtain ⟨cs, hcs, hz⟩ := B1.out.bz
      have hone := B1.out.rf.one
      refine wpList_store_row rfl 38 (.tmp 4) (.tmp 21) rfl _ _ rfl rfl _ _ hz infoL9 hcs hone ?_
      obtain ⟨hret, hbl, hrow⟩ := B1.out.rets2 (bl_refl _) B1.out.rf
      go_wp2_with fail
      refine bodyPost_ret (results_tmp_row rfl _ _ (w.heap.size + 1) 38 _ (0, 0) _ rfl hrow Tryz.underlying38 rfl infoL9) rfl ?_
      exact ⟨⟨_, _, _, _, _, rfl, hret⟩, hbl⟩

set_option maxRecDepth 100000 in
set_option maxHeartbeats 4000000 in
theorem r9first_any (C : Nat → Prop) (w : World) (sl rl ra ov iv : Value) (t : Lk) (h : RfAt C w sl rl ra ov iv t) (hok : t.s.Ok) :
    Calls Tryz.prog 46 #[.agg (t.ref sl rl ra ov iv)] w fun e w' => ∃ u, e = .returned (.tuple #[.int .i64 t.s.base, u]) ∧ Byt (Live C w) w' u (t.s.againP t.s.base) ∧ Below w.heap.size w w' := by
  obtain ⟨⟨so, sc, rfl⟩, _⟩ := h.form
  obtain ⟨W0, hW0, hb0, hx0⟩ := alloc_named w (t.ref (.slice so t.s.ps.length sc) rl ra ov iv) 38
  have c10 : W0.cell? ⟨w.heap.size, 10, none⟩ = some (.int .i64 t.s.size) := by rw [cell_of_row _ _ _ _ _ _ hx0]; rfl
  have c11 : W0.cell? ⟨w.heap.size, 11, none⟩ = some (.int .i64 t.s.base) := by rw [cell_of_row _ _ _ _ _ _ hx0]; rfl
  have c12 : W0.cell? ⟨w.heap.size, 12, none⟩ = some (.slice so t.s.ps.length sc) := by rw [cell_of_row _ _ _ _ _ _ hx0]; rfl
  have c13 : W0.cell? ⟨w.heap.size, 13, none⟩ = some (.int .i64 t.s.under) := by rw [cell_of_row _ _ _ _ _ _ hx0]; rfl
  have HA := ragain_any _ t.s hok (.slice so t.s.ps.length sc) t.s.base W0 (h.snd.below hb0)
  unfold refV at HA
  have HX := Lib.hid hx0
  have HB := Lib.hid hb0
  clear hx0 hb0 h
  go_enter Tryz.func46, Tryz.ntmps46
  go_wp2_with (simp only [hW0])
  refine HA.mono ?_
  rintro e W1 ⟨u, rfl, hu, hb1⟩
  obtain ⟨uo, uc, rfl⟩ : ∃ uo uc, u = .slice uo (t.s.againP t.s.base).length uc := by
    obtain ⟨⟨⟨_, ao, cap, h, _⟩, _⟩, _⟩ := hu
    exact ⟨ao, cap, h⟩
  have d11 := below_cell hb1 c11
  have HU := Lib.hid hu
  have HB1 := Lib.hid (bl_trans HB.out hb1)
  clear hu hb1 HA c10 c11 c12 c13
  go_wp2
  go_ret2
  exact ⟨_, rfl, HU.out, HB1.out⟩

def Lk.busied (t : Lk) (on : Bool) : Lk := if t.held = true ∧ on = false ∧ t.up = true then ({ t with held := on } : Lk).answer else { t with held := on }

set_option maxRecDepth 100000 in
set_option maxHeartbeats 4000000 in
theorem r9busy_any (C : Nat → Prop) (w : World) (sl rl ra ov iv : Value) (t : Lk) (h : RfAt C w sl rl ra ov iv t) (on : Bool) (hm : t.out.length ≤ 700000) :
    Calls Tryz.prog 34 #[.agg (t.ref sl rl ra ov iv), .bool on] w fun e w' => Rf9 C w (t.busied on) e w' := by
  obtain ⟨W0, hW0, hB0⟩ := h.boxes
  have B0 := Lib.hid hB0
  have A0 := Lib.hid hB0.ba
  have c9 : W0.cell? ⟨w.heap.size, 9, none⟩ = some (.bool t.held) := hB0.cell 9 rfl
  have c2 : W0.cell? ⟨w.heap.size, 2, none⟩ = some (.bool t.up) := hB0.cell 2 rfl
  have z9 := hB0.frozen 9
  have hB1 := hB0.put1 (t' := { t with held := on }) 9 (.bool on) rfl rfl rfl rfl rfl
  obtain ⟨V1, hV1⟩ : ∃ V, W0.setCell ⟨w.heap.size, 9, none⟩ (.bool on) = V := ⟨_, rfl⟩
  rw [hV1] at hB1
  have d2 : V1.cell? ⟨w.heap.size, 2, none⟩ = some (.bool t.up) := hB1.cell 2 rfl
  have B1 := Lib.hid hB1
  have A1 := Lib.hid hB1.ba
  have HA := r9answer_any _ V1 _ _ _ _ _ _ hB1.rf (by show t.out.length ≤ _; omega)
  obtain ⟨T, hT⟩ : ∃ T, t.busied on = T := ⟨_, rfl⟩
  rw [hT]
  have HQ : Hid (T = if t.held = true ∧ on = false ∧ t.up = true then ({ t with held := on } : Lk).answer else { t with held := on }) := hT.symm
  clear hB0 hB1 h hT
  cases hh : t.held with
  | false =>
    have e : T = { t with held := on } := by rw [HQ.out, if_neg (by rw [hh]; simp)]
    subst e
    rw [hh] at c9
    clear HA HQ hh
    go_enter Tryz.func34, Tryz.ntmps34
    go_wp2_with (first | simp only [hW0] | (with_reducible show wpList _ _ _ (⟨_, .load 38 (.tmp 2), _, _, _, none⟩ :: _) _ _; refine RowKit.Hid.out ?_))
    refine Lib.hid ?_
    refine wpList_load_row rfl 38 (.tmp 2) rfl _ rfl _ _ (0, 0) _ A1.out Tryz.underlying38 rfl infoL9 ?_
    go_wp2_with (with_reducible show wpList _ _ _ (⟨_, .store 38 (.tmp 4) (.tmp 21), _, _, _, none⟩ :: _) _ _; refine RowKit.Hid.out ?_)
    refine Lib.hid ?_
    obtain ⟨cs, hcs, hz⟩ := B1.out.bz
    have hone := B1.out.rf.one
    refine wpList_store_row rfl 38 (.tmp 4) (.tmp 21) rfl _ _ rfl rfl _ _ hz infoL9 hcs hone ?_
    obtain ⟨hret, hrow⟩ := B1.out.ret
    go_wp2_with fail
    refine bodyPost_ret (results_cell_row rfl _ _ (w.heap.size + 1) 38 _ (0, 0) _ rfl hrow Tryz.underlying38 rfl infoL9) rfl ?_
    exact hret
  | true =>
    rw [hh] at c9
    cases on with
    | true =>
      have e : T = { t with held := true } := by rw [HQ.out, if_neg (by simp)]
      subst e
      clear HA HQ hh
      go_enter Tryz.func34, Tryz.ntmps34
      go_wp2_with (first | simp only [hW0] | (with_reducible show wpList _ _ _ (⟨_, .load 38 (.tmp 2), _, _, _, none⟩ :: _) _ _; refine RowKit.Hid.out ?_))
      refine Lib.hid ?_
      refine wpList_load_row rfl 38 (.tmp 2) rfl _ rfl _ _ (0, 0) _ A1.out Tryz.underlying38 rfl infoL9 ?_
      go_wp2_with (with_reducible show wpList _ _ _ (⟨_, .store 38 (.tmp 4) (.tmp 21), _, _, _, none⟩ :: _) _ _; refine RowKit.Hid.out ?_)
      refine Lib.hid ?_
      obtain ⟨cs, hcs, hz⟩ := B1.out.bz
      have hone := B1.out.rf.one
      refine wpList_store_row rfl 38 (.tmp 4) (.tmp 21) rfl _ _ rfl rfl _ _ hz infoL9 hcs hone ?_
      obtain ⟨hret, hrow⟩ := B1.out.ret
      go_wp2_with fail
      refine bodyPost_ret (results_cell_row rfl _ _ (w.heap.size + 1) 38 _ (0, 0) _ rfl hrow Tryz.underlying38 rfl infoL9) rfl ?_
      exact hret
    | false =>
      cases hup : t.up with
      | false =>
        have e : T = { t with held := false } := by rw [HQ.out, if_neg (by rw [hup]; simp)]
        subst e
        rw [hup] at c2 d2
        clear HA HQ hup hh
        go_enter Tryz.func34, Tryz.ntmps34
        go_wp2_with (first | simp only [hW0] | (with_reducible show wpList _ _ _ (⟨_, .load 38 (.tmp 2), _, _, _, none⟩ :: _) _ _; refine RowKit.Hid.out ?_))
        refine Lib.hid ?_
        refine wpList_load_row rfl 38 (.tmp 2) rfl _ rfl _ _ (0, 0) _ A1.out Tryz.underlying38 rfl infoL9 ?_
        go_wp2_with (with_reducible show wpList _ _ _ (⟨_, .store 38 (.tmp 4) (.tmp 21), _, _, _, none⟩ :: _) _ _; refine RowKit.Hid.out ?_)
        refine Lib.hid ?_
        obtain ⟨cs, hcs, hz⟩ := B1.out.bz
        have hone := B1.out.rf.one
        refine wpList_store_row rfl 38 (.tmp 4) (.tmp 21) rfl _ _ rfl rfl _ _ hz infoL9 hcs hone ?_
        obtain ⟨hret, hrow⟩ := B1.out.ret
        go_wp2_with fail
        refine bodyPost_ret (results_cell_row rfl _ _ (w.heap.size + 1) 38 _ (0, 0) _ rfl hrow Tryz.underlying38 rfl infoL9) rfl ?_
        exact hret
      | true =>
        have e : T = ({ t with held := false } : Lk).answer := by rw [HQ.out, if_pos ⟨hh, rfl, hup⟩]
        subst e
        rw [hup] at c2 d2
        clear HQ hup hh
        go_enter Tryz.func34, Tryz.ntmps34
        go_wp2_with (first | simp only [hW0] | (with_reducible show wpList _ _ _ (⟨_, .load 38 (.tmp 2), _, _, _, none⟩ :: _) _ _; refine RowKit.Hid.out ?_))
        refine Lib.hid ?_
        refine wpList_load_row rfl 38 (.tmp 2) rfl _ rfl _ _ (0, 0) _ A1.out Tryz.underlying38 rfl infoL9 ?_
        go_wp2_with fail
        refine (HA).mono ?_
        rintro e W2 ⟨⟨sl2, rl2, ra2, ov2, iv2, rfl, hr2⟩, hb2⟩
        go_wp2_with (with_reducible show wpList _ _ _ (⟨_, .store 38 (.tmp 4) (.tmp 20), _, _, _, none⟩ :: _) _ _; refine RowKit.Hid.out ?_)
        refine Lib.hid ?_
        obtain ⟨cs, hcs, hz⟩ := B1.out.bz
        refine wpList_store_row rfl 38 (.tmp 4) (.tmp 20) rfl _ _ rfl rfl _ _ (bl_get hb2 hz) infoL9 hcs hr2.one ?_
        obtain ⟨hret, hrow⟩ := B1.out.rets hb2 hr2
        go_wp2_with fail
        refine bodyPost_ret (results_cell_row rfl _ _ (w.heap.size + 1) 38 _ (0, 0) _ rfl hrow Tryz.underlying38 rfl infoL9) rfl ?_
        exact hret

end Go.Proofs.YthmdibagcbbgoaaGreat

namespace Go.Proofs.YthmdibagcbbgoaaGreat
open Go.RowKit

set_option maxRecDepth 100000 in
set_option maxHeartbeats 4000000 in
theorem r9tick_any (C : Nat → Prop) (w : World) (sl rl ra ov iv : Value) (t : Lk) (h : RfAt C w sl rl ra ov iv t) (hok : t.s.Ok) (hme : t.me < 65536) (hc : Clk t) (hm : t.out.length ≤ 700000) :
    Calls Tryz.prog 30 #[.agg (t.ref sl rl ra ov iv)] w fun e w' => Rf9 C w t.tick e w' := by
  obtain ⟨⟨so, sc, rfl⟩, _⟩ := h.form
  obtain ⟨W0, hW0, hB0⟩ := h.boxes
  have B0 := Lib.hid hB0
  have A0 := Lib.hid hB0.ba
  have c5 : W0.cell? ⟨w.heap.size, 5, none⟩ = some (.int .i64 t.left) := hB0.cell 5 rfl
  obtain ⟨T, hT⟩ : ∃ T, t.tick = T := ⟨_, rfl⟩
  rw [hT]
  by_cases h0 : t.left = 0
  · have e : T = t := by rw [← hT]; unfold Lk.tick; rw [if_pos h0]
    subst e
    rw [h0] at c5
    clear hB0 h hT h0 hc
    go_enter Tryz.func30, Tryz.ntmps30
    go_wp2_with (first | simp only [hW0] | (with_reducible show wpList _ _ _ (⟨_, .load 38 (.tmp 1), _, _, _, none⟩ :: _) _ _; refine RowKit.Hid.out ?_))
    refine Lib.hid ?_
    refine wpList_load_row rfl 38 (.tmp 1) rfl _ rfl _ _ (0, 0) _ A0.out Tryz.underlying38 rfl infoL9 ?_
    go_wp2_with (with_reducible show wpList _ _ _ (⟨_, .store 38 (.tmp 2) (.tmp 8), _, _, _, none⟩ :: _) _ _; refine RowKit.Hid.out ?_)
    refine Lib.hid ?_
    obtain ⟨cs, hcs, hz⟩ := B0.out.bz
    have hone := B0.out.rf.one
    refine wpList_store_row rfl 38 (.tmp 2) (.tmp 8) rfl _ _ rfl rfl _ _ hz infoL9 hcs hone ?_
    obtain ⟨hret, hrow⟩ := B0.out.ret
    go_wp2_with fail
    refine bodyPost_ret (results_cell_row rfl _ _ (w.heap.size + 1) 38 _ (0, 0) _ rfl hrow Tryz.underlying38 rfl infoL9) rfl ?_
    exact hret
  · have hl1 := hc.left
    have hl2 := hc.timer
    obtain ⟨m, hm9⟩ : ∃ m, t.left = m + 1 := ⟨t.left - 1, by omega⟩
    rw [hm9] at c5
    have hq : IntKind.i64.wrap (((m + 1 : Nat) : Int) - 1) = (m : Int) := by rw [IntWalk.i64_in _ (by omega)]; omega
    have hq2 : IntKind.i64.wrap ((m : Int) + 1 - 1) = (m : Int) := by rw [IntWalk.i64_in _ (by omega)]; omega
    have hq3 : IntKind.i64.wrap (m : Int) = (m : Int) := by rw [IntWalk.i64_in _ (by omega)]
    have hnz : ¬ ((m : Int) + 1 = 0) := by omega
    have z5 := hB0.frozen 5
    have hB1 := hB0.put1 (t' := { t with left := m }) 5 (.int .i64 m) rfl rfl rfl rfl rfl
    obtain ⟨V1, hV1⟩ : ∃ V, W0.setCell ⟨w.heap.size, 5, none⟩ (.int .i64 m) = V := ⟨_, rfl⟩
    rw [hV1] at hB1
    by_cases hmp : 0 < m
    · have e : T = { t with left := m } := by
        rw [← hT]
        unfold Lk.tick
        rw [if_neg h0, if_pos (by omega), hm9]
        rfl
      subst e
      have hmp' : (0 : Int) < (m : Int) := by omega
      have d5 : V1.cell? ⟨w.heap.size, 5, none⟩ = some (.int .i64 m) := hB1.cell 5 rfl
      have B1 := Lib.hid hB1
      have A1 := Lib.hid hB1.ba
      clear hB0 hB1 h hT h0 hc hm9 hmp hl1 hl2
      go_enter Tryz.func30, Tryz.ntmps30
      go_wp2_with (first | simp only [hW0] | (with_reducible show wpList _ _ _ (⟨_, .load 38 (.tmp 1), _, _, _, none⟩ :: _) _ _; refine RowKit.Hid.out ?_))
      refine Lib.hid ?_
      refine wpList_load_row rfl 38 (.tmp 1) rfl _ rfl _ _ (0, 0) _ A1.out Tryz.underlying38 rfl infoL9 ?_
      go_wp2_with (with_reducible show wpList _ _ _ (⟨_, .store 38 (.tmp 2) (.tmp 16), _, _, _, none⟩ :: _) _ _; refine RowKit.Hid.out ?_)
      refine Lib.hid ?_
      obtain ⟨cs, hcs, hz⟩ := B1.out.bz
      have hone := B1.out.rf.one
      refine wpList_store_row rfl 38 (.tmp 2) (.tmp 16) rfl _ _ rfl rfl _ _ hz infoL9 hcs hone ?_
      obtain ⟨hret, hrow⟩ := B1.out.ret
      go_wp2_with fail
      refine bodyPost_ret (results_cell_row rfl _ _ (w.heap.size + 1) 38 _ (0, 0) _ rfl hrow Tryz.underlying38 rfl infoL9) rfl ?_
      exact hret
    · have hm0 : m = 0 := by omega
      subst hm0
      have e : T = ({ t with left := 0 } : Lk).rung := by
        rw [← hT]
        unfold Lk.tick
        rw [if_neg h0, if_neg (by omega)]
      have HQ := Lib.hid e
      have d5 : V1.cell? ⟨w.heap.size, 5, none⟩ = some (.int .i64 0) := hB1.cell 5 rfl
      have d2 : V1.cell? ⟨w.heap.size, 2, none⟩ = some (.bool t.up) := hB1.cell 2 rfl
      have d13 : V1.cell? ⟨w.heap.size, 13, none⟩ = some (.int .i64 t.s.under) := hB1.cell 13 rfl
      have d6 : V1.cell? ⟨w.heap.size, 6, none⟩ = some (.int .i64 t.tried) := hB1.cell 6 rfl
      have d4 : V1.cell? ⟨w.heap.size, 4, none⟩ = some (.int .i64 t.tries) := hB1.cell 4 rfl
      have d8 : V1.cell? ⟨w.heap.size, 8, none⟩ = some (.bool t.busy) := hB1.cell 8 rfl
      have d12 : V1.cell? ⟨w.heap.size, 12, none⟩ = some (.slice so t.s.ps.length sc) := hB1.cell 12 rfl
      have d15 : V1.cell? ⟨w.heap.size, 15, none⟩ = some (.int .i64 t.r.waits) := hB1.cell 15 rfl
      have d1 : V1.cell? ⟨w.heap.size, 1, none⟩ = some (.int .i64 t.peer) := hB1.cell 1 rfl
      have z6 := hB1.frozen 6
      have B1 := Lib.hid hB1
      have A1 := Lib.hid hB1.ba
      have ht1 := hc.tried
      have ht2 := hc.tries
      have c5' : W0.cell? ⟨w.heap.size, 5, none⟩ = some (.int .i64 1) := c5
      have hV1' : W0.setCell ⟨w.heap.size, 5, none⟩ (.int .i64 0) = V1 := hV1
      clear hB0 h hT h0 hm9 hmp hl1 hl2 e hc c5 hV1 hq hq2 hq3 hnz
      cases hup : t.up with
      | false =>
        have e : T = ({ t with left := 0 } : Lk).setup true := by rw [HQ.out]; unfold Lk.rung; rw [if_pos hup]
        subst e
        rw [hup] at d2
        have HS := r9setup_any _ V1 _ _ _ _ _ _ hB1.rf true (by show t.out.length ≤ _; omega)
        clear hB1 hup HQ ht1 ht2
        go_enter Tryz.func30, Tryz.ntmps30
        go_wp2_with (first | simp only [hW0] | (with_reducible show wpList _ _ _ (⟨_, .load 38 (.tmp 1), _, _, _, none⟩ :: _) _ _; refine RowKit.Hid.out ?_))
        refine Lib.hid ?_
        refine wpList_load_row rfl 38 (.tmp 1) rfl _ rfl _ _ (0, 0) _ A1.out Tryz.underlying38 rfl infoL9 ?_
        go_wp2_with fail
        refine (HS).mono ?_
        rintro e W2 ⟨⟨sl2, rl2, ra2, ov2, iv2, rfl, hr2⟩, hb2⟩
        go_wp2_with (with_reducible show wpList _ _ _ (⟨_, .store 38 (.tmp 2) (.tmp 21), _, _, _, none⟩ :: _) _ _; refine RowKit.Hid.out ?_)
        refine Lib.hid ?_
        obtain ⟨cs, hcs, hz⟩ := B1.out.bz
        refine wpList_store_row rfl 38 (.tmp 2) (.tmp 21) rfl _ _ rfl rfl _ _ (bl_get hb2 hz) infoL9 hcs hr2.one ?_
        obtain ⟨hret, hrow⟩ := B1.out.rets hb2 hr2
        go_wp2_with fail
        refine bodyPost_ret (results_cell_row rfl _ _ (w.heap.size + 1) 38 _ (0, 0) _ rfl hrow Tryz.underlying38 rfl infoL9) rfl ?_
        exact hret
      | true =>
        rw [hup] at d2
        by_cases hun : 0 < t.s.under
        · have hun' : (0 : Int) < (t.s.under : Int) := by omega
          obtain ⟨n, hn⟩ : ∃ n, t.tried + 1 = n := ⟨_, rfl⟩
          have k1 : IntKind.i64.wrap ((t.tried : Int) + 1) = (n : Int) := by rw [IntWalk.i64_in _ (by omega)]; omega
          have hB2 := hB1.put1 (t' := { t with left := 0, tried := n }) 6 (.int .i64 n) rfl rfl rfl rfl rfl
          obtain ⟨V2, hV2⟩ : ∃ V, V1.setCell ⟨w.heap.size, 6, none⟩ (.int .i64 n) = V := ⟨_, rfl⟩
          rw [hV2] at hB2
          have g6 : V2.cell? ⟨w.heap.size, 6, none⟩ = some (.int .i64 n) := hB2.cell 6 rfl
          have g4 : V2.cell? ⟨w.heap.size, 4, none⟩ = some (.int .i64 t.tries) := hB2.cell 4 rfl
          have B2 := Lib.hid hB2
          have A2 := Lib.hid hB2.ba
          by_cases htr : t.tried = t.tries
          · have e : T = ({ t with left := 0, tried := n } : Lk).anew := by
              rw [HQ.out]
              unfold Lk.rung
              rw [if_neg (by show ¬ t.up = false; rw [hup]; decide), if_pos ⟨hun, htr⟩]
              rfl
            subst e
            have htr' : (t.tries : Int) < (n : Int) := by omega
            have HA := r9anew_any _ V2 _ _ _ _ _ _ hB2.rf hme (by show t.out.length ≤ _; omega)
            clear hB1 hB2 hup HQ ht1 ht2 hun htr hn
            go_enter Tryz.func30, Tryz.ntmps30
            go_wp2_with (first | simp only [hW0] | (with_reducible show wpList _ _ _ (⟨_, .load 38 (.tmp 1), _, _, _, none⟩ :: _) _ _; refine RowKit.Hid.out ?_))
            refine Lib.hid ?_
            refine wpList_load_row rfl 38 (.tmp 1) rfl _ rfl _ _ (0, 0) _ A2.out Tryz.underlying38 rfl infoL9 ?_
            go_wp2_with fail
            refine (HA).mono ?_
            rintro e W3 ⟨⟨sl3, rl3, ra3, ov3, iv3, rfl, hr3⟩, hb3⟩
            go_wp2_with (with_reducible show wpList _ _ _ (⟨_, .store 38 (.tmp 2) (.tmp 36), _, _, _, none⟩ :: _) _ _; refine RowKit.Hid.out ?_)
            refine Lib.hid ?_
            obtain ⟨cs, hcs, hz⟩ := B2.out.bz
            refine wpList_store_row rfl 38 (.tmp 2) (.tmp 36) rfl _ _ rfl rfl _ _ (bl_get hb3 hz) infoL9 hcs hr3.one ?_
            obtain ⟨hret, hrow⟩ := B2.out.rets hb3 hr3
            go_wp2_with fail
            refine bodyPost_ret (results_cell_row rfl _ _ (w.heap.size + 1) 38 _ (0, 0) _ rfl hrow Tryz.underlying38 rfl infoL9) rfl ?_
            exact hret
          · have e : T = { (({ t with left := 0, tried := n } : Lk).dat t.s.base (t.s.againP t.s.base) true) with left := t.timer } := by
              rw [HQ.out, ← hn]
              unfold Lk.rung
              rw [if_neg (by show ¬ t.up = false; rw [hup]; decide), if_neg (fun g => htr g.2), if_pos hun]
            have HE := Lib.hid e
            have htr' : ¬ (t.tries : Int) < (n : Int) := by omega
            have HF := r9first_any _ V2 _ _ _ _ _ _ hB2.rf hok
            clear hB1 hB2 hup HQ ht1 ht2 hun htr hn e
            go_enter Tryz.func30, Tryz.ntmps30
            go_wp2_with (first | simp only [hW0] | (with_reducible show wpList _ _ _ (⟨_, .load 38 (.tmp 1), _, _, _, none⟩ :: _) _ _; refine RowKit.Hid.out ?_))
            refine Lib.hid ?_
            refine wpList_load_row rfl 38 (.tmp 1) rfl _ rfl _ _ (0, 0) _ A2.out Tryz.underlying38 rfl infoL9 ?_
            go_wp2_with fail
            refine HF.mono ?_
            rintro e W3 ⟨u, rfl, hu, hb3⟩
            obtain ⟨uo, uc, rfl⟩ : ∃ uo uc, u = .slice uo (t.s.againP t.s.base).length uc := by
              obtain ⟨⟨⟨_, ao, cap, h, _⟩, _⟩, _⟩ := hu
              exact ⟨ao, cap, h⟩
            have hB3 := B2.out.below hb3
            have HD := r9data_any _ W3 _ _ _ _ _ _ hB3.rf t.s.base (t.s.againP t.s.base) true _ (hu.mono fun k hk => hk.grow hb3.size) (by show t.out.length ≤ _; omega)
            have B3 := Lib.hid hB3
            have A3 := Lib.hid hB3.ba
            clear hB3 hu hb3 HF
            go_wp2_with (with_reducible show wpList _ _ _ (⟨_, .load 38 (.tmp 1), _, _, _, none⟩ :: _) _ _; refine RowKit.Hid.out ?_)
            refine Lib.hid ?_
            refine wpList_load_row rfl 38 (.tmp 1) rfl _ rfl _ _ (0, 0) _ A3.out Tryz.underlying38 rfl infoL9 ?_
            go_wp2_with fail
            refine (HD).mono ?_
            rintro e W4 ⟨⟨sl4, rl4, ra4, ov4, iv4, rfl, hr4⟩, hb4⟩
            go_wp2_with (with_reducible show wpList _ _ _ (⟨_, .store 38 (.tmp 1) (.tmp 45), _, _, _, none⟩ :: _) _ _; refine RowKit.Hid.out ?_)
            refine Lib.hid ?_
            refine wpList_store_row rfl 38 (.tmp 1) (.tmp 45) rfl _ _ rfl rfl _ _ (bl_get hb4 B3.out.ba) infoL9 rfl hr4.one ?_
            have hB4 := B3.out.stored hb4 hr4
            have hF4 := fr_row W4 w.heap.size (Lk.ref (({ t with left := 0, tried := n } : Lk).dat t.s.base (t.s.againP t.s.base) true) sl4 rl4 ra4 ov4 iv4)
            obtain ⟨V4, hV4⟩ : ∃ V, W4.setRow w.heap.size (Lk.ref (({ t with left := 0, tried := n } : Lk).dat t.s.base (t.s.againP t.s.base) true) sl4 rl4 ra4 ov4 iv4) = V := ⟨_, rfl⟩
            rw [hV4] at hB4 hF4 ⊢
            have B4 := Lib.hid hB4
            have A4 := Lib.hid hB4.ba
            clear hB4 hV4
            have k3 := B4.out.cell 3 (v := .int .i64 t.timer) rfl
            have k5 := B4.out.cell 5 (v := .int .i64 0) rfl
            have x5 := B4.out.frozen 5
            clear hb4 hr4 HD
            have hB5 := B4.out.put1 (t' := { (({ t with left := 0, tried := n } : Lk).dat t.s.base (t.s.againP t.s.base) true) with left := t.timer }) 5 (.int .i64 t.timer) rfl rfl rfl rfl rfl
            obtain ⟨V5, hV5⟩ : ∃ V, V4.setCell ⟨w.heap.size, 5, none⟩ (.int .i64 t.timer) = V := ⟨_, rfl⟩
            rw [hV5, ← HE.out] at hB5
            have B5 := Lib.hid hB5
            have A5 := Lib.hid hB5.ba
            clear hB5 HE
            go_wp2_with (with_reducible show wpList _ _ _ (⟨_, .load 38 (.tmp 1), _, _, _, none⟩ :: _) _ _; refine RowKit.Hid.out ?_)
            refine Lib.hid ?_
            refine wpList_load_row rfl 38 (.tmp 1) rfl _ rfl _ _ (0, 0) _ A5.out Tryz.underlying38 rfl infoL9 ?_
            go_wp2_with (with_reducible show wpList _ _ _ (⟨_, .store 38 (.tmp 2) (.tmp 49), _, _, _, none⟩ :: _) _ _; refine RowKit.Hid.out ?_)
            refine Lib.hid ?_
            obtain ⟨cs, hcs, hz⟩ := B5.out.bz
            have hone := B5.out.rf.one
            refine wpList_store_row rfl 38 (.tmp 2) (.tmp 49) rfl _ _ rfl rfl _ _ hz infoL9 hcs hone ?_
            obtain ⟨hret, hrow⟩ := B5.out.ret
            go_wp2_with fail
            refine bodyPost_ret (results_cell_row rfl _ _ (w.heap.size + 1) 38 _ (0, 0) _ rfl hrow Tryz.underlying38 rfl infoL9) rfl ?_
            exact hret
        · have hun' : ¬ (0 : Int) < (t.s.under : Int) := by omega
          have hr0 : ({ t with left := 0 } : Lk).rung = if t.busy = true ∧ 0 < t.s.ps.length then { (({ t with left := 0 } : Lk).send ⟨2, 0, t.r.waits, true, 0, t.peer, []⟩) with left := t.timer } else ({ t with left := 0 } : Lk) := by
            unfold Lk.rung
            rw [if_neg (by show ¬ t.up = false; rw [hup]; decide), if_neg (fun g => hun g.1), if_neg hun]
          cases hbu : t.busy with
          | false =>
            have e : T = { t with left := 0 } := by rw [HQ.out, hr0, if_neg (by rw [hbu]; simp)]
            subst e
            rw [hbu] at d8
            clear hB1 hup HQ ht1 ht2 hun hr0 hbu
            go_enter Tryz.func30, Tryz.ntmps30
            go_wp2_with (first | simp only [hW0] | (with_reducible show wpList _ _ _ (⟨_, .load 38 (.tmp 1), _, _, _, none⟩ :: _) _ _; refine RowKit.Hid.out ?_))
            refine Lib.hid ?_
            refine wpList_load_row rfl 38 (.tmp 1) rfl _ rfl _ _ (0, 0) _ A1.out Tryz.underlying38 rfl infoL9 ?_
            go_wp2_with (with_reducible show wpList _ _ _ (⟨_, .store 38 (.tmp 2) (.tmp 70), _, _, _, none⟩ :: _) _ _; refine RowKit.Hid.out ?_)
            refine Lib.hid ?_
            obtain ⟨cs, hcs, hz⟩ := B1.out.bz
            have hone := B1.out.rf.one
            refine wpList_store_row rfl 38 (.tmp 2) (.tmp 70) rfl _ _ rfl rfl _ _ hz infoL9 hcs hone ?_
            obtain ⟨hret, hrow⟩ := B1.out.ret
            go_wp2_with fail
            refine bodyPost_ret (results_cell_row rfl _ _ (w.heap.size + 1) 38 _ (0, 0) _ rfl hrow Tryz.underlying38 rfl infoL9) rfl ?_
            exact hret
          | true =>
            rw [hbu] at d8
            by_cases hpl : 0 < t.s.ps.length
            · have e : T = { (({ t with left := 0 } : Lk).send ⟨2, 0, t.r.waits, true, 0, t.peer, []⟩) with left := t.timer } := by rw [HQ.out, hr0, if_pos ⟨hbu, hpl⟩]
              have HE := Lib.hid e
              have hpl' : (0 : Int) < (t.s.ps.length : Int) := by omega
              have HS := r9send_any _ V1 _ _ _ _ _ _ hB1.rf ⟨2, 0, t.r.waits, true, 0, t.peer, []⟩ _ (byt_nil _ _) (by show t.out.length ≤ _; omega)
              clear hB1 hup HQ ht1 ht2 hun hr0 hbu e hpl
              go_enter Tryz.func30, Tryz.ntmps30
              go_wp2_with (first | simp only [hW0] | (with_reducible show wpList _ _ _ (⟨_, .load 38 (.tmp 1), _, _, _, none⟩ :: _) _ _; refine RowKit.Hid.out ?_))
              refine Lib.hid ?_
              refine wpList_load_row rfl 38 (.tmp 1) rfl _ rfl _ _ (0, 0) _ A1.out Tryz.underlying38 rfl infoL9 ?_
              go_wp2_with fail
              refine (HS).mono ?_
              rintro e W2 ⟨⟨sl2, rl2, ra2, ov2, iv2, rfl, hr2⟩, hb2⟩
              go_wp2_with (with_reducible show wpList _ _ _ (⟨_, .store 38 (.tmp 1) (.tmp 66), _, _, _, none⟩ :: _) _ _; refine RowKit.Hid.out ?_)
              refine Lib.hid ?_
              refine wpList_store_row rfl 38 (.tmp 1) (.tmp 66) rfl _ _ rfl rfl _ _ (bl_get hb2 B1.out.ba) infoL9 rfl hr2.one ?_
              have hB2 := B1.out.stored hb2 hr2
              have hF2 := fr_row W2 w.heap.size (Lk.ref (({ t with left := 0 } : Lk).send ⟨2, 0, t.r.waits, true, 0, t.peer, []⟩) sl2 rl2 ra2 ov2 iv2)
              obtain ⟨V2, hV2⟩ : ∃ V, W2.setRow w.heap.size (Lk.ref (({ t with left := 0 } : Lk).send ⟨2, 0, t.r.waits, true, 0, t.peer, []⟩) sl2 rl2 ra2 ov2 iv2) = V := ⟨_, rfl⟩
              rw [hV2] at hB2 hF2 ⊢
              have B2 := Lib.hid hB2
              have A2 := Lib.hid hB2.ba
              clear hB2 hV2
              have k3 := B2.out.cell 3 (v := .int .i64 t.timer) rfl
              have k5 := B2.out.cell 5 (v := .int .i64 0) rfl
              have x5 := B2.out.frozen 5
              clear hb2 hr2 HS
              have hB5 := B2.out.put1 (t' := { (({ t with left := 0 } : Lk).send ⟨2, 0, t.r.waits, true, 0, t.peer, []⟩) with left := t.timer }) 5 (.int .i64 t.timer) rfl rfl rfl rfl rfl
              obtain ⟨V5, hV5⟩ : ∃ V, V2.setCell ⟨w.heap.size, 5, none⟩ (.int .i64 t.timer) = V := ⟨_, rfl⟩
              rw [hV5, ← HE.out] at hB5
              have B5 := Lib.hid hB5
              have A5 := Lib.hid hB5.ba
              clear hB5 HE
              go_wp2_with (with_reducible show wpList _ _ _ (⟨_, .load 38 (.tmp 1), _, _, _, none⟩ :: _) _ _; refine RowKit.Hid.out ?_)
              refine Lib.hid ?_
              refine wpList_load_row rfl 38 (.tmp 1) rfl _ rfl _ _ (0, 0) _ A5.out Tryz.underlying38 rfl infoL9 ?_
              go_wp2_with (with_reducible show wpList _ _ _ (⟨_, .store 38 (.tmp 2) (.tmp 70), _, _, _, none⟩ :: _) _ _; refine RowKit.Hid.out ?_)
              refine Lib.hid ?_
              obtain ⟨cs, hcs, hz⟩ := B5.out.bz
              have hone := B5.out.rf.one
              refine wpList_store_row rfl 38 (.tmp 2) (.tmp 70) rfl _ _ rfl rfl _ _ hz infoL9 hcs hone ?_
              obtain ⟨hret, hrow⟩ := B5.out.ret
              go_wp2_with fail
              refine bodyPost_ret (results_cell_row rfl _ _ (w.heap.size + 1) 38 _ (0, 0) _ rfl hrow Tryz.underlying38 rfl infoL9) rfl ?_
              exact hret
            · have e : T = { t with left := 0 } := by rw [HQ.out, hr0, if_neg (fun g => hpl g.2)]
              subst e
              have hpl' : t.s.ps.length = 0 := by omega
              rw [hpl'] at d12
              clear hB1 hup HQ ht1 ht2 hun hr0 hbu hpl hpl'
              go_enter Tryz.func30, Tryz.ntmps30
              go_wp2_with (first | simp only [hW0] | (with_reducible show wpList _ _ _ (⟨_, .load 38 (.tmp 1), _, _, _, none⟩ :: _) _ _; refine RowKit.Hid.out ?_))
              refine Lib.hid ?_
              refine wpList_load_row rfl 38 (.tmp 1) rfl _ rfl _ _ (0, 0) _ A1.out Tryz.underlying38 rfl infoL9 ?_
              go_wp2_with (with_reducible show wpList _ _ _ (⟨_, .store 38 (.tmp 2) (.tmp 70), _, _, _, none⟩ :: _) _ _; refine RowKit.Hid.out ?_)
              refine Lib.hid ?_
              obtain ⟨cs, hcs, hz⟩ := B1.out.bz
              have hone := B1.out.rf.one
              refine wpList_store_row rfl 38 (.tmp 2) (.tmp 70) rfl _ _ rfl rfl _ _ hz infoL9 hcs hone ?_
              obtain ⟨hret, hrow⟩ := B1.out.ret
              go_wp2_with fail
              refine bodyPost_ret (results_cell_row rfl _ _ (w.heap.size + 1) 38 _ (0, 0) _ rfl hrow Tryz.underlying38 rfl infoL9) rfl ?_
              exact hret

end Go.Proofs.YthmdibagcbbgoaaGreat
