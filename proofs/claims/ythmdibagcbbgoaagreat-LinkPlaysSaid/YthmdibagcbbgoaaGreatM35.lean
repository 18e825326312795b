/- portageref09.anew, known, ack, first. portageref09.ack. portageref09.goes. Conditions: as they stand. -/
import Derived.Test.YthmdibagcbbgoaaGreatM34
namespace Go.Proofs.YthmdibagcbbgoaaGreat
open Go.RowKit

set_option maxRecDepth 100000 in
set_option maxHeartbeats 4000000 in
theorem r9anew_any (C : Nat → Prop) (w : World) (sl rl ra ov iv : Value) (t : Lk) (h : RfAt C w sl rl ra ov iv t) (hme : t.me < 65536) (hm : t.out.length ≤ 900000) :
    Calls Tryz.prog 45 #[.agg (t.ref sl rl ra ov iv)] w fun e w' => Rf9 C w t.anew e w' := by
  obtain ⟨W0, hW0, hB0⟩ := h.boxes
  have B0 := Lib.hid hB0
  have A0 := Lib.hid hB0.ba
  have c0 : W0.cell? ⟨w.heap.size, 0, none⟩ = some (.int .i64 t.me) := hB0.cell 0 rfl
  have c1 : W0.cell? ⟨w.heap.size, 1, none⟩ = some (.int .i64 t.peer) := hB0.cell 1 rfl
  have c2 : W0.cell? ⟨w.heap.size, 2, none⟩ = some (.bool t.up) := hB0.cell 2 rfl
  have z0 := hB0.frozen 0
  have z1 := hB0.frozen 1
  have z2 := hB0.frozen 2
  obtain ⟨m, hm9⟩ : ∃ m, t.me + 1 = m := ⟨_, rfl⟩
  have hq : IntKind.i64.wrap ((t.me : Int) + 1) = (m : Int) := by rw [IntWalk.i64_in _ (by omega)]; omega
  have hanew : t.anew = (({ t with me := m % 65536, up := false, peer := -1 } : Lk).reset).setup false := by rw [← hm9]; rfl
  rw [hanew]
  by_cases hb : m ≤ 65535
  · have hmod : m % 65536 = m := by omega
    rw [hmod]
    have f1 : (m : Int) ≤ 65535 := by omega
    have hB1 := hB0.put1 (t' := { t with me := m }) 0 (.int .i64 m) rfl rfl rfl rfl rfl
    have hB2 := hB1.put1 (t' := { t with me := m, up := false }) 2 (.bool false) rfl rfl rfl rfl rfl
    have hB3 := hB2.put1 (t' := { t with me := m, up := false, peer := -1 }) 1 (.int .i64 (-1)) rfl rfl rfl rfl rfl
    obtain ⟨V3, hV3⟩ : ∃ V, (((W0.setCell ⟨w.heap.size, 0, none⟩ (.int .i64 m)).setCell ⟨w.heap.size, 2, none⟩ (.bool false)).setCell ⟨w.heap.size, 1, none⟩ (.int .i64 (-1))) = V := ⟨_, rfl⟩
    rw [hV3] at hB3
    have B3 := Lib.hid hB3
    have A3 := Lib.hid hB3.ba
    have HR := r9reset_any _ V3 _ _ _ _ _ _ hB3.rf
    clear hB0 hB1 hB2 hB3 h hanew hmod hb hm9
    go_enter Tryz.func45, Tryz.ntmps45
    go_wp2_with (first | simp only [hW0] | simp only [hV3] | (with_reducible show wpList _ _ _ (⟨_, .load 38 (.tmp 1), _, _, _, none⟩ :: _) _ _; refine RowKit.Hid.out ?_))
    refine Lib.hid ?_
    refine wpList_load_row rfl 38 (.tmp 1) rfl _ rfl _ _ (0, 0) _ A3.out Tryz.underlying38 rfl infoL9 ?_
    go_wp2_with fail
    refine (HR).mono ?_
    rintro e W4 ⟨⟨sl4, rl4, ra4, ov4, iv4, rfl, hr4⟩, hb4⟩
    have HS := r9setup_any _ W4 _ _ _ _ _ _ hr4 false (by show t.out.length ≤ _; omega)
    have HB4 := Lib.hid hb4
    clear hr4 hb4 HR
    go_wp2_with fail
    refine (HS).mono ?_
    rintro e W5 ⟨⟨sl5, rl5, ra5, ov5, iv5, rfl, hr5⟩, hb5⟩
    have hb45 := bl_trans HB4.out hb5
    go_wp2_with (with_reducible show wpList _ _ _ (⟨_, .store 38 (.tmp 2) (.tmp 15), _, _, _, none⟩ :: _) _ _; refine RowKit.Hid.out ?_)
    refine Lib.hid ?_
    obtain ⟨cs, hcs, hz⟩ := B3.out.bz
    refine wpList_store_row rfl 38 (.tmp 2) (.tmp 15) rfl _ _ rfl rfl _ _ (bl_get hb45 hz) infoL9 hcs hr5.one ?_
    obtain ⟨hret, hrow⟩ := B3.out.rets hb45 hr5
    go_wp2_with fail
    refine bodyPost_ret (results_cell_row rfl _ _ (w.heap.size + 1) 38 _ (0, 0) _ rfl hrow Tryz.underlying38 rfl infoL9) rfl ?_
    exact hret
  · have hmod : m % 65536 = 0 := by omega
    rw [hmod]
    have f1 : ¬ (m : Int) ≤ 65535 := by omega
    have f2 : (65535 : Int) < (m : Int) := by omega
    have hB1 := hB0.put1 (t' := { t with me := m }) 0 (.int .i64 m) rfl rfl rfl rfl rfl
    have hB1' := hB1.put1 (t' := { t with me := 0 }) 0 (.int .i64 0) rfl rfl rfl rfl rfl
    have hB2 := hB1'.put1 (t' := { t with me := 0, up := false }) 2 (.bool false) rfl rfl rfl rfl rfl
    have hB3 := hB2.put1 (t' := { t with me := 0, up := false, peer := -1 }) 1 (.int .i64 (-1)) rfl rfl rfl rfl rfl
    obtain ⟨V3, hV3⟩ : ∃ V, ((((W0.setCell ⟨w.heap.size, 0, none⟩ (.int .i64 m)).setCell ⟨w.heap.size, 0, none⟩ (.int .i64 0)).setCell ⟨w.heap.size, 2, none⟩ (.bool false)).setCell ⟨w.heap.size, 1, none⟩ (.int .i64 (-1))) = V := ⟨_, rfl⟩
    rw [hV3] at hB3
    have B3 := Lib.hid hB3
    have A3 := Lib.hid hB3.ba
    have HR := r9reset_any _ V3 _ _ _ _ _ _ hB3.rf
    clear hB0 hB1 hB1' hB2 hB3 h hanew hmod hb hm9
    go_enter Tryz.func45, Tryz.ntmps45
    go_wp2_with (first | simp only [hW0] | simp only [hV3] | (with_reducible show wpList _ _ _ (⟨_, .load 38 (.tmp 1), _, _, _, none⟩ :: _) _ _; refine RowKit.Hid.out ?_))
    refine Lib.hid ?_
    refine wpList_load_row rfl 38 (.tmp 1) rfl _ rfl _ _ (0, 0) _ A3.out Tryz.underlying38 rfl infoL9 ?_
    go_wp2_with fail
    refine (HR).mono ?_
    rintro e W4 ⟨⟨sl4, rl4, ra4, ov4, iv4, rfl, hr4⟩, hb4⟩
    have HS := r9setup_any _ W4 _ _ _ _ _ _ hr4 false (by show t.out.length ≤ _; omega)
    have HB4 := Lib.hid hb4
    clear hr4 hb4 HR
    go_wp2_with fail
    refine (HS).mono ?_
    rintro e W5 ⟨⟨sl5, rl5, ra5, ov5, iv5, rfl, hr5⟩, hb5⟩
    have hb45 := bl_trans HB4.out hb5
    go_wp2_with (with_reducible show wpList _ _ _ (⟨_, .store 38 (.tmp 2) (.tmp 15), _, _, _, none⟩ :: _) _ _; refine RowKit.Hid.out ?_)
    refine Lib.hid ?_
    obtain ⟨cs, hcs, hz⟩ := B3.out.bz
    refine wpList_store_row rfl 38 (.tmp 2) (.tmp 15) rfl _ _ rfl rfl _ _ (bl_get hb45 hz) infoL9 hcs hr5.one ?_
    obtain ⟨hret, hrow⟩ := B3.out.rets hb45 hr5
    go_wp2_with fail
    refine bodyPost_ret (results_cell_row rfl _ _ (w.heap.size + 1) 38 _ (0, 0) _ rfl hrow Tryz.underlying38 rfl infoL9) rfl ?_
    exact hret

def Lk.known (t : Lk) (p : Int) : Lk := if p = t.peer then t else { ({ t with peer := p } : Lk).reset with left := if t.up = true then 0 else t.left }

set_option maxRecDepth 100000 in
set_option maxHeartbeats 4000000 in
theorem r9known_any (C : Nat → Prop) (w : World) (sl rl ra ov iv : Value) (t : Lk) (h : RfAt C w sl rl ra ov iv t) (p : Int) :
    Calls Tryz.prog 74 #[.agg (t.ref sl rl ra ov iv), .int .i64 p] w fun e w' => Rf9 C w (t.known p) e w' := by
  obtain ⟨W0, hW0, hB0⟩ := h.boxes
  have B0 := Lib.hid hB0
  have A0 := Lib.hid hB0.ba
  have c1 : W0.cell? ⟨w.heap.size, 1, none⟩ = some (.int .i64 t.peer) := hB0.cell 1 rfl
  by_cases hp : p = t.peer
  · have hq : t.known p = t := by unfold Lk.known; rw [if_pos hp]
    rw [hq]
    subst hp
    clear hB0 h hq
    go_enter Tryz.func74, Tryz.ntmps74
    go_wp2_with (first | simp only [hW0] | (with_reducible show wpList _ _ _ (⟨_, .load 38 (.tmp 2), _, _, _, none⟩ :: _) _ _; refine RowKit.Hid.out ?_))
    refine Lib.hid ?_
    refine wpList_load_row rfl 38 (.tmp 2) rfl _ rfl _ _ (0, 0) _ A0.out Tryz.underlying38 rfl infoL9 ?_
    go_wp2_with (with_reducible show wpList _ _ _ (⟨_, .store 38 (.tmp 4) (.tmp 10), _, _, _, none⟩ :: _) _ _; refine RowKit.Hid.out ?_)
    refine Lib.hid ?_
    obtain ⟨cs, hcs, hz⟩ := B0.out.bz
    have hone := B0.out.rf.one
    refine wpList_store_row rfl 38 (.tmp 4) (.tmp 10) rfl _ _ rfl rfl _ _ hz infoL9 hcs hone ?_
    obtain ⟨hret, hrow⟩ := B0.out.ret
    go_wp2_with fail
    refine bodyPost_ret (results_cell_row rfl _ _ (w.heap.size + 1) 38 _ (0, 0) _ rfl hrow Tryz.underlying38 rfl infoL9) rfl ?_
    exact hret
  · have hq : t.known p = { ({ t with peer := p } : Lk).reset with left := if t.up = true then 0 else t.left } := by unfold Lk.known; rw [if_neg hp]
    obtain ⟨T, hT⟩ : ∃ T, t.known p = T := ⟨_, rfl⟩
    rw [hT] at hq ⊢
    have HQ := Lib.hid hq
    have hp' : ¬ t.peer = p := fun e => hp e.symm
    have c5 : W0.cell? ⟨w.heap.size, 5, none⟩ = some (.int .i64 t.left) := hB0.cell 5 rfl
    have z1 := hB0.frozen 1
    have hB1 := hB0.put1 (t' := { t with peer := p }) 1 (.int .i64 p) rfl rfl rfl rfl rfl
    obtain ⟨V1, hV1⟩ : ∃ V, W0.setCell ⟨w.heap.size, 1, none⟩ (.int .i64 p) = V := ⟨_, rfl⟩
    rw [hV1] at hB1
    have B1 := Lib.hid hB1
    have A1 := Lib.hid hB1.ba
    have HR := r9reset_any _ V1 _ _ _ _ _ _ hB1.rf
    clear hB0 hB1 h hq hp hT
    go_enter Tryz.func74, Tryz.ntmps74
    go_wp2_with (first | simp only [hW0] | simp only [hV1] | (with_reducible show wpList _ _ _ (⟨_, .load 38 (.tmp 2), _, _, _, none⟩ :: _) _ _; refine RowKit.Hid.out ?_))
    refine Lib.hid ?_
    refine wpList_load_row rfl 38 (.tmp 2) rfl _ rfl _ _ (0, 0) _ A1.out Tryz.underlying38 rfl infoL9 ?_
    go_wp2_with fail
    refine (HR).mono ?_
    rintro e W2 ⟨⟨sl2, rl2, ra2, ov2, iv2, rfl, hr2⟩, hb2⟩
    go_wp2_with (with_reducible show wpList _ _ _ (⟨_, .store 38 (.tmp 2) (.tmp 16), _, _, _, none⟩ :: _) _ _; refine RowKit.Hid.out ?_)
    refine Lib.hid ?_
    refine wpList_store_row rfl 38 (.tmp 2) (.tmp 16) rfl _ _ rfl rfl _ _ (bl_get hb2 B1.out.ba) infoL9 rfl hr2.one ?_
    have hB3 := B1.out.stored hb2 hr2
    have hF3 := fr_row W2 w.heap.size (Lk.ref ({ t with peer := p } : Lk).reset sl2 rl2 ra2 ov2 iv2)
    obtain ⟨V3, hV3⟩ : ∃ V, W2.setRow w.heap.size (Lk.ref ({ t with peer := p } : Lk).reset sl2 rl2 ra2 ov2 iv2) = V := ⟨_, rfl⟩
    rw [hV3] at hB3 hF3 ⊢
    have B3 := Lib.hid hB3
    have A3 := Lib.hid hB3.ba
    clear hB3 hV3
    have k2 := B3.out.cell 2 (v := .bool t.up) rfl
    clear hb2 hr2 HR
    cases hup : t.up with
    | true =>
      rw [hup] at k2
      have hB4 := B3.out
      rw [show ({ t with peer := p } : Lk).reset = T by rw [HQ.out, if_pos hup]; rfl] at hB4
      have B4 := Lib.hid hB4
      have A4 := Lib.hid hB4.ba
      clear hB4
      go_wp2_with (with_reducible show wpList _ _ _ (⟨_, .load 38 (.tmp 2), _, _, _, none⟩ :: _) _ _; refine RowKit.Hid.out ?_)
      refine Lib.hid ?_
      refine wpList_load_row rfl 38 (.tmp 2) rfl _ rfl _ _ (0, 0) _ A4.out Tryz.underlying38 rfl infoL9 ?_
      go_wp2_with (with_reducible show wpList _ _ _ (⟨_, .store 38 (.tmp 4) (.tmp 22), _, _, _, none⟩ :: _) _ _; refine RowKit.Hid.out ?_)
      refine Lib.hid ?_
      obtain ⟨cs, hcs, hz⟩ := B4.out.bz
      have hone := B4.out.rf.one
      refine wpList_store_row rfl 38 (.tmp 4) (.tmp 22) rfl _ _ rfl rfl _ _ hz infoL9 hcs hone ?_
      obtain ⟨hret, hrow⟩ := B4.out.ret
      go_wp2_with fail
      refine bodyPost_ret (results_cell_row rfl _ _ (w.heap.size + 1) 38 _ (0, 0) _ rfl hrow Tryz.underlying38 rfl infoL9) rfl ?_
      exact hret
    | false =>
      rw [hup] at k2
      have k5 := B3.out.cell 5 (v := .int .i64 0) rfl
      have x5 := B3.out.frozen 5
      have hB4 := B3.out.put1 (t' := ({ ({ t with peer := p } : Lk).reset with left := t.left } : Lk)) 5 (.int .i64 t.left) rfl rfl rfl rfl rfl
      obtain ⟨V4, hV4⟩ : ∃ V, V3.setCell ⟨w.heap.size, 5, none⟩ (.int .i64 t.left) = V := ⟨_, rfl⟩
      rw [hV4] at hB4
      rw [show ({ ({ t with peer := p } : Lk).reset with left := t.left } : Lk) = T by rw [HQ.out, if_neg (by rw [hup]; decide)]] at hB4
      have B4 := Lib.hid hB4
      have A4 := Lib.hid hB4.ba
      clear hB4
      go_wp2_with (first | simp only [hV4] | (with_reducible show wpList _ _ _ (⟨_, .load 38 (.tmp 2), _, _, _, none⟩ :: _) _ _; refine RowKit.Hid.out ?_))
      refine Lib.hid ?_
      refine wpList_load_row rfl 38 (.tmp 2) rfl _ rfl _ _ (0, 0) _ A4.out Tryz.underlying38 rfl infoL9 ?_
      go_wp2_with (with_reducible show wpList _ _ _ (⟨_, .store 38 (.tmp 4) (.tmp 22), _, _, _, none⟩ :: _) _ _; refine RowKit.Hid.out ?_)
      refine Lib.hid ?_
      obtain ⟨cs, hcs, hz⟩ := B4.out.bz
      have hone := B4.out.rf.one
      refine wpList_store_row rfl 38 (.tmp 4) (.tmp 22) rfl _ _ rfl rfl _ _ hz infoL9 hcs hone ?_
      obtain ⟨hret, hrow⟩ := B4.out.ret
      go_wp2_with fail
      refine bodyPost_ret (results_cell_row rfl _ _ (w.heap.size + 1) 38 _ (0, 0) _ rfl hrow Tryz.underlying38 rfl infoL9) rfl ?_
      exact hret

end Go.Proofs.YthmdibagcbbgoaaGreat

namespace Go.Proofs.YthmdibagcbbgoaaGreat
open Go.RowKit

theorem ack_same {s : Snd} (h : s.Ok) {nr : Int} (hn : ¬ (s.ackE nr = 0 ∧ s.ackN nr ≠ 0)) : s.ack nr = s := by
  unfold Snd.ack
  split
  · rename_i he
    have h0 : s.ackN nr = 0 := by
      apply Classical.byContradiction
      intro g
      exact hn ⟨he, g⟩
    have hb := h.base
    have he' := he
    unfold Snd.ackE at he'
    unfold Snd.ackN at h0
    rw [if_pos he] at h0
    split at he'
    · cases he'
    split at he'
    · cases he'
    have e1 : nr.toNat = s.base := by omega
    have e2 : s.ackN nr = 0 := by unfold Snd.ackN; rw [if_pos he]; exact h0
    rw [e1, e2]
    rfl
  · rfl

set_option maxRecDepth 100000 in
set_option maxHeartbeats 4000000 in
theorem r9ack_any (C : Nat → Prop) (w : World) (sl rl ra ov iv : Value) (t : Lk) (h : RfAt C w sl rl ra ov iv t) (hok : t.s.Ok) (nr : Int) :
    Calls Tryz.prog 77 #[.agg (t.ref sl rl ra ov iv), .int .i64 nr] w fun e w' => Rf9 C w (t.ack nr) e w' := by
  obtain ⟨⟨so, sc, rfl⟩, _⟩ := h.form
  obtain ⟨W0, hW0, hB0⟩ := h.boxes
  have B0 := Lib.hid hB0
  have A0 := Lib.hid hB0.ba
  have c10 : W0.cell? ⟨w.heap.size, 10, none⟩ = some (.int .i64 t.s.size) := hB0.cell 10 rfl
  have c11 : W0.cell? ⟨w.heap.size, 11, none⟩ = some (.int .i64 t.s.base) := hB0.cell 11 rfl
  have c12 : W0.cell? ⟨w.heap.size, 12, none⟩ = some (.slice so t.s.ps.length sc) := hB0.cell 12 rfl
  have c13 : W0.cell? ⟨w.heap.size, 13, none⟩ = some (.int .i64 t.s.under) := hB0.cell 13 rfl
  have HS := rack_any _ t.s hok (.slice so t.s.ps.length sc) nr W0 hB0.rf.snd
  unfold refV at HS
  obtain ⟨T, hT⟩ : ∃ T, t.ack nr = T := ⟨_, rfl⟩
  have HQ : Hid (T = t.ack nr) := hT.symm
  have HSM : Hid (¬ (t.s.ackE nr = 0 ∧ t.s.ackN nr ≠ 0) → T = t) := fun hn => by
    rw [← hT]
    unfold Lk.ack
    rw [if_neg hn, ack_same hok hn]
  rw [hT]
  obtain ⟨E, hE⟩ : ∃ E, t.s.ackE nr = E := ⟨_, rfl⟩
  obtain ⟨N, hN⟩ : ∃ N, t.s.ackN nr = N := ⟨_, rfl⟩
  obtain ⟨s', hs'⟩ : ∃ s', t.s.ack nr = s' := ⟨_, rfl⟩
  rw [hE, hN] at HSM
  rw [hE, hN, hs'] at HS
  have HEN : Hid (t.s.ackE nr = E ∧ t.s.ackN nr = N ∧ t.s.ack nr = s') := ⟨hE, hN, hs'⟩
  clear hB0 h hT hE hN hs' hok
  go_enter Tryz.func77, Tryz.ntmps77
  go_wp2_with (simp only [hW0])
  refine HS.mono ?_
  rintro e W1 ⟨u, rfl, hu, hb1⟩
  obtain ⟨uo, uc, rfl, _⟩ := hu.form
  have hB1 := B0.out.below hb1
  obtain ⟨V1, hV1⟩ : ∃ V, W1.alloc (.cells #[.int .i64 s'.size, .int .i64 s'.base, .slice uo s'.ps.length uc, .int .i64 s'.under] 31) = V := ⟨_, rfl⟩
  have hx1 : V1.heap[W1.heap.size]? = some (.cells #[.int .i64 s'.size, .int .i64 s'.base, .slice uo s'.ps.length uc, .int .i64 s'.under] 31 (0, 0)) := hV1 ▸ heap_alloc_new W1 _
  have hbv : Below W1.heap.size W1 V1 := hV1 ▸ bl_alloc (bl_refl W1) _
  have hBv := hB1.below hbv
  obtain ⟨q0, q1, q2, q3⟩ := rc_cells hx1
  have B1 := Lib.hid hBv
  have A1 := Lib.hid hBv.ba
  have HU : Hid (Pays (Live (fun k => C k ∨ k = w.heap.size ∨ k = w.heap.size + 1) W1) V1 (.slice uo s'.ps.length uc) s'.ps) := (hu.mono fun k hk => hk.grow hb1.size).below hbv
  have HX1 := Lib.hid hx1
  have HLT : Hid (w.heap.size < W1.heap.size ∧ W1.heap.size ≤ V1.heap.size) := ⟨(B0.out.below hb1).lt.1, hbv.size⟩
  have hEt : (E = 0) = False ∨ E = 0 := by by_cases e : E = 0 <;> simp [e]
  clear hu hb1 hbv hB1 hx1 HS
  by_cases hE0 : E = 0
  · by_cases hN0 : N = 0
    · have e := HSM.out (fun g => g.2 hN0)
      subst e
      subst hE0
      subst hN0
      clear hBv hEt q0 q1 q2 q3 HQ HSM HEN HU HX1 HLT
      go_wp2_with (with_reducible show wpList _ _ _ (⟨_, .load 38 (.tmp 2), _, _, _, none⟩ :: _) _ _; refine RowKit.Hid.out ?_)
      refine Lib.hid ?_
      refine wpList_load_row rfl 38 (.tmp 2) rfl _ rfl _ _ (0, 0) _ A1.out Tryz.underlying38 rfl infoL9 ?_
      go_wp2_with (with_reducible show wpList _ _ _ (⟨_, .store 38 (.tmp 4) (.tmp 22), _, _, _, none⟩ :: _) _ _; refine RowKit.Hid.out ?_)
      refine Lib.hid ?_
      obtain ⟨cs, hcs, hz⟩ := B1.out.bz
      have hone := B1.out.rf.one
      refine wpList_store_row rfl 38 (.tmp 4) (.tmp 22) rfl _ _ rfl rfl _ _ hz infoL9 hcs hone ?_
      obtain ⟨hret, hrow⟩ := B1.out.ret
      go_wp2_with fail
      refine bodyPost_ret (results_cell_row rfl _ _ (w.heap.size + 1) 38 _ (0, 0) _ rfl hrow Tryz.underlying38 rfl infoL9) rfl ?_
      exact hret
    · have hNp : (0 : Int) < (N : Int) := by omega
      have hN1 : ((N : Int) = 0) = False := eq_false (by omega)
      have hTT : T = { t with s := s', tried := 0, left := if 0 < s'.under then t.timer else 0 } := by
        rw [HQ.out]
        unfold Lk.ack
        rw [if_pos ⟨HEN.out.1.trans hE0, by rw [HEN.out.2.1]; exact hN0⟩, HEN.out.2.2]
      subst hE0
      have d10 : V1.cell? ⟨w.heap.size, 10, none⟩ = some (.int .i64 t.s.size) := hBv.cell 10 rfl
      have z10 := hBv.frozen 10
      have d11 : V1.cell? ⟨w.heap.size, 11, none⟩ = some (.int .i64 t.s.base) := hBv.cell 11 rfl
      have z11 := hBv.frozen 11
      have d12 : V1.cell? ⟨w.heap.size, 12, none⟩ = some (.slice so t.s.ps.length sc) := hBv.cell 12 rfl
      have z12 := hBv.frozen 12
      have d13 : V1.cell? ⟨w.heap.size, 13, none⟩ = some (.int .i64 t.s.under) := hBv.cell 13 rfl
      have z13 := hBv.frozen 13
      have hB2 := hBv.putS (sl' := .slice uo s'.ps.length uc) s' (HU.out.mono fun k hk => hk.grow HLT.out.2)
      obtain ⟨V2, hV2⟩ : ∃ V, ((((V1.setCell ⟨w.heap.size, 10, none⟩ (.int .i64 s'.size)).setCell ⟨w.heap.size, 11, none⟩ (.int .i64 s'.base)).setCell ⟨w.heap.size, 12, none⟩ (.slice uo s'.ps.length uc)).setCell ⟨w.heap.size, 13, none⟩ (.int .i64 s'.under)) = V := ⟨_, rfl⟩
      have hf2 : Fr (fun k => k = w.heap.size) V1 V2 := hV2 ▸ fr_cells4 V1 w.heap.size 10 11 12 13 _ _ _ _
      rw [hV2] at hB2
      have g6 : V2.cell? ⟨w.heap.size, 6, none⟩ = some (.int .i64 t.tried) := hB2.cell 6 rfl
      have g5 : V2.cell? ⟨w.heap.size, 5, none⟩ = some (.int .i64 t.left) := hB2.cell 5 rfl
      have x6 := hB2.frozen 6
      have x5 := hB2.frozen 5
      have hB3 := hB2.put1 (t' := { t with s := s', tried := 0 }) 6 (.int .i64 0) rfl rfl rfl rfl rfl
      have hB4 := hB3.put1 (t' := { t with s := s', tried := 0, left := 0 }) 5 (.int .i64 0) rfl rfl rfl rfl rfl
      obtain ⟨V4, hV4⟩ : ∃ V, (V2.setCell ⟨w.heap.size, 6, none⟩ (.int .i64 0)).setCell ⟨w.heap.size, 5, none⟩ (.int .i64 0) = V := ⟨_, rfl⟩
      have hf4 : Fr (fun k => k = w.heap.size) V2 V4 := hV4 ▸ (fr_cell V2 w.heap.size 6 _).trans (fr_cell _ w.heap.size 5 _) fun _ h => .inl h
      rw [hV4] at hB4
      have r3 : V4.cell? ⟨W1.heap.size, 3, none⟩ = some (.int .i64 s'.under) := hf4.cell (hf2.cell q3 (by have := HLT.out.1; omega)) (by have := HLT.out.1; omega)
      have k3 : V4.cell? ⟨w.heap.size, 3, none⟩ = some (.int .i64 t.timer) := hB4.cell 3 rfl
      have k5 : V4.cell? ⟨w.heap.size, 5, none⟩ = some (.int .i64 0) := hB4.cell 5 rfl
      have y5 := hB4.frozen 5
      by_cases hun : 0 < s'.under
      · have hun' : (0 : Int) < (s'.under : Int) := by omega
        rw [if_pos hun] at hTT
        have hB5 := hB4.put1 (t' := { t with s := s', tried := 0, left := t.timer }) 5 (.int .i64 t.timer) rfl rfl rfl rfl rfl
        obtain ⟨V5, hV5⟩ : ∃ V, V4.setCell ⟨w.heap.size, 5, none⟩ (.int .i64 t.timer) = V := ⟨_, rfl⟩
        rw [hV5, ← hTT] at hB5
        have B5 := Lib.hid hB5
        have A5 := Lib.hid hB5.ba
        clear hBv hB2 hB3 hB4 hB5 hf2 hf4 hun HQ HSM HEN HU HX1 HLT hTT hEt hN0
        go_wp2_with (with_reducible show wpList _ _ _ (⟨_, .load 38 (.tmp 2), _, _, _, none⟩ :: _) _ _; refine RowKit.Hid.out ?_)
        refine Lib.hid ?_
        refine wpList_load_row rfl 38 (.tmp 2) rfl _ rfl _ _ (0, 0) _ A5.out Tryz.underlying38 rfl infoL9 ?_
        go_wp2_with (with_reducible show wpList _ _ _ (⟨_, .store 38 (.tmp 4) (.tmp 33), _, _, _, none⟩ :: _) _ _; refine RowKit.Hid.out ?_)
        refine Lib.hid ?_
        obtain ⟨cs, hcs, hz⟩ := B5.out.bz
        have hone := B5.out.rf.one
        refine wpList_store_row rfl 38 (.tmp 4) (.tmp 33) rfl _ _ rfl rfl _ _ hz infoL9 hcs hone ?_
        obtain ⟨hret, hrow⟩ := B5.out.ret
        go_wp2_with fail
        refine bodyPost_ret (results_cell_row rfl _ _ (w.heap.size + 1) 38 _ (0, 0) _ rfl hrow Tryz.underlying38 rfl infoL9) rfl ?_
        exact hret
      · have hun' : ¬ (0 : Int) < (s'.under : Int) := by omega
        rw [if_neg hun] at hTT
        rw [← hTT] at hB4
        have B4 := Lib.hid hB4
        have A4 := Lib.hid hB4.ba
        clear hBv hB2 hB3 hB4 hf2 hf4 hun HQ HSM HEN HU HX1 HLT hTT hEt hN0
        go_wp2_with (with_reducible show wpList _ _ _ (⟨_, .load 38 (.tmp 2), _, _, _, none⟩ :: _) _ _; refine RowKit.Hid.out ?_)
        refine Lib.hid ?_
        refine wpList_load_row rfl 38 (.tmp 2) rfl _ rfl _ _ (0, 0) _ A4.out Tryz.underlying38 rfl infoL9 ?_
        go_wp2_with (with_reducible show wpList _ _ _ (⟨_, .store 38 (.tmp 4) (.tmp 33), _, _, _, none⟩ :: _) _ _; refine RowKit.Hid.out ?_)
        refine Lib.hid ?_
        obtain ⟨cs, hcs, hz⟩ := B4.out.bz
        have hone := B4.out.rf.one
        refine wpList_store_row rfl 38 (.tmp 4) (.tmp 33) rfl _ _ rfl rfl _ _ hz infoL9 hcs hone ?_
        obtain ⟨hret, hrow⟩ := B4.out.ret
        go_wp2_with fail
        refine bodyPost_ret (results_cell_row rfl _ _ (w.heap.size + 1) 38 _ (0, 0) _ rfl hrow Tryz.underlying38 rfl infoL9) rfl ?_
        exact hret
  · have e := HSM.out (fun g => hE0 g.1)
    subst e
    have hE1 : ¬ E = 0 := hE0
    clear hBv hEt q0 q1 q2 q3 HQ HSM HEN HU HX1 HLT hE0
    go_wp2_with (with_reducible show wpList _ _ _ (⟨_, .load 38 (.tmp 2), _, _, _, none⟩ :: _) _ _; refine RowKit.Hid.out ?_)
    refine Lib.hid ?_
    refine wpList_load_row rfl 38 (.tmp 2) rfl _ rfl _ _ (0, 0) _ A1.out Tryz.underlying38 rfl infoL9 ?_
    go_wp2_with (with_reducible show wpList _ _ _ (⟨_, .store 38 (.tmp 4) (.tmp 22), _, _, _, none⟩ :: _) _ _; refine RowKit.Hid.out ?_)
    refine Lib.hid ?_
    obtain ⟨cs, hcs, hz⟩ := B1.out.bz
    have hone := B1.out.rf.one
    refine wpList_store_row rfl 38 (.tmp 4) (.tmp 22) rfl _ _ rfl rfl _ _ hz infoL9 hcs hone ?_
    obtain ⟨hret, hrow⟩ := B1.out.ret
    go_wp2_with fail
    refine bodyPost_ret (results_cell_row rfl _ _ (w.heap.size + 1) 38 _ (0, 0) _ rfl hrow Tryz.underlying38 rfl infoL9) rfl ?_
    exact hret

end Go.Proofs.YthmdibagcbbgoaaGreat

namespace Go.Proofs.YthmdibagcbbgoaaGreat
open Go.RowKit

/-- Between two rounds. -/
structure GoB (C : Nat → Prop) (w wr : World) (T : Lk) (n i : Nat) : Prop where
  ex : ∃ sl rl ra ov iv q, Bx C w wr w.heap.size (w.heap.size + 1) sl rl ra ov iv q ∧ goesN (64 - i) q = T ∧ q.s.Ok ∧ q.out.length ≤ n + i

set_option maxRecDepth 100000 in
set_option maxHeartbeats 4000000 in
theorem r9goes_any (C : Nat → Prop) (w : World) (sl rl ra ov iv : Value) (t : Lk) (h : RfAt C w sl rl ra ov iv t) (hok : t.s.Ok) (hm : t.out.length ≤ 800000) :
    Calls Tryz.prog 44 #[.agg (t.ref sl rl ra ov iv)] w fun e w' => Rf9 C w t.goes e w' := by
  obtain ⟨W0, hW0, hB0⟩ := h.boxes
  have B0 := Lib.hid hB0
  have A0 := Lib.hid hB0.ba
  obtain ⟨T, hT⟩ : ∃ T, t.goes = T := ⟨_, rfl⟩
  rw [hT]
  have HG0 : Hid (GoB C w W0 T t.out.length 0) := ⟨⟨_, _, _, _, _, t, hB0, hT, hok, Nat.le_refl _⟩⟩
  clear hB0 h hT hok B0 A0
  go_enter Tryz.func44, Tryz.ntmps44
  go_wp2_with (simp only [hW0])
  go_loopw [3] (fun iv wr => ∃ i : Nat, iv = .int .i64 i ∧ i ≤ 64 ∧ Hid (GoB C w wr T t.out.length i)) (fun iv _ => 65 - (intOf iv).toNat)
  case atStart => exact ⟨0, rfl, by omega, HG0⟩
  case round =>
    clear HG0
    obtain ⟨i, rfl, hi, HG⟩ := hrel
    obtain ⟨sl', rl', ra', ov', iv', q, hB, hgo, hok', hlen⟩ := HG.out.ex
    obtain ⟨⟨so, sc, rfl⟩, _⟩ := hB.rf.form
    have B0 := Lib.hid hB
    have A0 := Lib.hid hB.ba
    have c2 : wr.cell? ⟨w.heap.size, 2, none⟩ = some (.bool q.up) := hB.cell 2 rfl
    have c8 : wr.cell? ⟨w.heap.size, 8, none⟩ = some (.bool q.busy) := hB.cell 8 rfl
    by_cases hi64 : i < 64
    · have f1 : (i : Int) < 64 := by omega
      have hn : 64 - i = (64 - (i + 1)) + 1 := by omega
      rw [hn] at hgo
      have hgo' : (if q.up = true ∧ q.busy = false ∧ q.s.can = true then goesN (64 - (i + 1)) q.goOne else q) = T := hgo
      clear hgo hn
      cases hup : q.up with
      | false =>
        rw [if_neg (by rw [hup]; simp)] at hgo'
        rw [hup] at c2
        subst hgo'
        clear hB hup hok' hlen HG
        go_wp2_with (with_reducible show wpList _ _ _ (⟨_, .load 38 (.tmp 1), _, _, _, none⟩ :: _) _ _; refine RowKit.Hid.out ?_)
        refine Lib.hid ?_
        refine wpList_load_row rfl 38 (.tmp 1) rfl _ rfl _ _ (0, 0) _ A0.out Tryz.underlying38 rfl infoL9 ?_
        go_wp2_with (with_reducible show wpList _ _ _ (⟨_, .store 38 (.tmp 2) (.tmp 44), _, _, _, none⟩ :: _) _ _; refine RowKit.Hid.out ?_)
        refine Lib.hid ?_
        obtain ⟨cs, hcs, hz⟩ := B0.out.bz
        have hone := B0.out.rf.one
        refine wpList_store_row rfl 38 (.tmp 2) (.tmp 44) rfl _ _ rfl rfl _ _ hz infoL9 hcs hone ?_
        obtain ⟨hret, hrow⟩ := B0.out.ret
        go_wp2_with fail
        refine bodyPost_ret (results_cell_row rfl _ _ (w.heap.size + 1) 38 _ (0, 0) _ rfl hrow Tryz.underlying38 rfl infoL9) rfl ?_
        exact hret
      | true =>
        rw [hup] at c2
        cases hbu : q.busy with
        | true =>
          rw [if_neg (by rw [hbu]; simp)] at hgo'
          rw [hbu] at c8
          subst hgo'
          clear hB hup hbu hok' hlen HG
          go_wp2_with (with_reducible show wpList _ _ _ (⟨_, .load 38 (.tmp 1), _, _, _, none⟩ :: _) _ _; refine RowKit.Hid.out ?_)
          refine Lib.hid ?_
          refine wpList_load_row rfl 38 (.tmp 1) rfl _ rfl _ _ (0, 0) _ A0.out Tryz.underlying38 rfl infoL9 ?_
          go_wp2_with (with_reducible show wpList _ _ _ (⟨_, .store 38 (.tmp 2) (.tmp 44), _, _, _, none⟩ :: _) _ _; refine RowKit.Hid.out ?_)
          refine Lib.hid ?_
          obtain ⟨cs, hcs, hz⟩ := B0.out.bz
          have hone := B0.out.rf.one
          refine wpList_store_row rfl 38 (.tmp 2) (.tmp 44) rfl _ _ rfl rfl _ _ hz infoL9 hcs hone ?_
          obtain ⟨hret, hrow⟩ := B0.out.ret
          go_wp2_with fail
          refine bodyPost_ret (results_cell_row rfl _ _ (w.heap.size + 1) 38 _ (0, 0) _ rfl hrow Tryz.underlying38 rfl infoL9) rfl ?_
          exact hret
        | false =>
          rw [hbu] at c8
          have c10 : wr.cell? ⟨w.heap.size, 10, none⟩ = some (.int .i64 q.s.size) := hB.cell 10 rfl
          have c11 : wr.cell? ⟨w.heap.size, 11, none⟩ = some (.int .i64 q.s.base) := hB.cell 11 rfl
          have c12 : wr.cell? ⟨w.heap.size, 12, none⟩ = some (.slice so q.s.ps.length sc) := hB.cell 12 rfl
          have c13 : wr.cell? ⟨w.heap.size, 13, none⟩ = some (.int .i64 q.s.under) := hB.cell 13 rfl
          have HS := rsend_any _ q.s hok' (.slice so q.s.ps.length sc) wr hB.rf.snd
          unfold refV at HS
          cases hcan : q.s.can with
          | false =>
            rw [if_neg (by rw [hcan]; simp)] at hgo'
            rw [hcan] at HS
            obtain ⟨s', hs'⟩ : ∃ s', q.s.send = s' := ⟨_, rfl⟩
            obtain ⟨sn, hsn⟩ : ∃ sn, q.s.sendN = sn := ⟨_, rfl⟩
            rw [hs', hsn] at HS
            have HLP : Hid (s'.ps.length = q.s.ps.length) := by rw [← hs']; unfold Hid Snd.send; split <;> rfl
            subst hgo'
            clear hB hup hbu hok' hlen HG hcan hs' hsn
            go_wp2_with fail
            refine HS.mono ?_
            rintro e W1 ⟨u, rfl, hu, hb1⟩
            obtain ⟨uo, uc, rfl⟩ : ∃ uo uc, u = .slice uo q.s.sendP.length uc := by
              obtain ⟨⟨⟨_, ao, cap, h, _⟩, _⟩, _⟩ := hu
              exact ⟨ao, cap, h⟩
            have hba := bl_alloc (bl_refl W1) (.cells #[.int .i64 s'.size, .int .i64 s'.base, .slice so q.s.ps.length sc, .int .i64 s'.under] 31)
            have hB1 := (B0.out.below hb1).below hba
            obtain ⟨V1, hV1⟩ : ∃ V, W1.alloc (.cells #[.int .i64 s'.size, .int .i64 s'.base, .slice so q.s.ps.length sc, .int .i64 s'.under] 31) = V := ⟨_, rfl⟩
            rw [hV1] at hB1
            have B1 := Lib.hid hB1
            have A1 := Lib.hid hB1.ba
            clear hB1 hba hu hb1 HS c10 c11 c12 c13 c2 c8
            go_wp2_with (with_reducible show wpList _ _ _ (⟨_, .load 38 (.tmp 1), _, _, _, none⟩ :: _) _ _; refine RowKit.Hid.out ?_)
            refine Lib.hid ?_
            refine wpList_load_row rfl 38 (.tmp 1) rfl _ rfl _ _ (0, 0) _ A1.out Tryz.underlying38 rfl infoL9 ?_
            go_wp2_with (with_reducible show wpList _ _ _ (⟨_, .store 38 (.tmp 2) (.tmp 31), _, _, _, none⟩ :: _) _ _; refine RowKit.Hid.out ?_)
            refine Lib.hid ?_
            obtain ⟨cs, hcs, hz⟩ := B1.out.bz
            have hone := B1.out.rf.one
            refine wpList_store_row rfl 38 (.tmp 2) (.tmp 31) rfl _ _ rfl rfl _ _ hz infoL9 hcs hone ?_
            obtain ⟨hret, hrow⟩ := B1.out.ret
            go_wp2_with fail
            refine bodyPost_ret (results_cell_row rfl _ _ (w.heap.size + 1) 38 _ (0, 0) _ rfl hrow Tryz.underlying38 rfl infoL9) rfl ?_
            exact hret
          | true =>
            rw [if_pos ⟨hup, hbu, hcan⟩] at hgo'
            rw [hcan] at HS
            obtain ⟨s', hs'⟩ : ∃ s', q.s.send = s' := ⟨_, rfl⟩
            obtain ⟨sn, hsn⟩ : ∃ sn, q.s.sendN = sn := ⟨_, rfl⟩
            obtain ⟨sp, hsp⟩ : ∃ sp, q.s.sendP = sp := ⟨_, rfl⟩
            rw [hs', hsn, hsp] at HS
            have HSS : Hid (s'.ps = q.s.ps ∧ s'.Ok ∧ q.goOne = { (({ q with s := s' } : Lk).dat sn sp false) with left := if q.left = 0 then q.timer else q.left }) := by
              refine ⟨?_, ?_, ?_⟩
              · rw [← hs']; unfold Snd.send; split <;> rfl
              · rw [← hs']; exact snd_send_ok hok'
              · rw [← hs', ← hsn, ← hsp]; rfl
            have HGO := Lib.hid hgo'
            have HLEN := Lib.hid hlen
            clear hB hup hbu hok' hlen HG hcan hs' hsn hsp hgo'
            go_wp2_with fail
            refine HS.mono ?_
            rintro e W1 ⟨u, rfl, hu, hb1⟩
            obtain ⟨uo, uc, rfl⟩ : ∃ uo uc, u = .slice uo sp.length uc := by
              obtain ⟨⟨⟨_, ao, cap, h, _⟩, _⟩, _⟩ := hu
              exact ⟨ao, cap, h⟩
            have hba := bl_alloc (bl_refl W1) (.cells #[.int .i64 s'.size, .int .i64 s'.base, .slice so q.s.ps.length sc, .int .i64 s'.under] 31)
            have hB1 := (B0.out.below hb1).below hba
            have hx1 := heap_alloc_new W1 (.cells #[.int .i64 s'.size, .int .i64 s'.base, .slice so q.s.ps.length sc, .int .i64 s'.under] 31)
            have hua := hu.below hba
            obtain ⟨V1, hV1⟩ : ∃ V, W1.alloc (.cells #[.int .i64 s'.size, .int .i64 s'.base, .slice so q.s.ps.length sc, .int .i64 s'.under] 31) = V := ⟨_, rfl⟩
            rw [hV1] at hB1 hx1 hua hba
            obtain ⟨q0, q1, q2, q3⟩ := rc_cells hx1
            have hsz : wr.heap.size ≤ V1.heap.size := Nat.le_trans hb1.size hba.size
            have d10 : V1.cell? ⟨w.heap.size, 10, none⟩ = some (.int .i64 q.s.size) := hB1.cell 10 rfl
            have z10 := hB1.frozen 10
            have d11 : V1.cell? ⟨w.heap.size, 11, none⟩ = some (.int .i64 q.s.base) := hB1.cell 11 rfl
            have z11 := hB1.frozen 11
            have d12 : V1.cell? ⟨w.heap.size, 12, none⟩ = some (.slice so q.s.ps.length sc) := hB1.cell 12 rfl
            have z12 := hB1.frozen 12
            have d13 : V1.cell? ⟨w.heap.size, 13, none⟩ = some (.int .i64 q.s.under) := hB1.cell 13 rfl
            have z13 := hB1.frozen 13
            have hB2 := hB1.putS (sl' := .slice so q.s.ps.length sc) s' (by rw [HSS.out.1]; exact hB1.rf.snd)
            obtain ⟨V2, hV2⟩ : ∃ V, ((((V1.setCell ⟨w.heap.size, 10, none⟩ (.int .i64 s'.size)).setCell ⟨w.heap.size, 11, none⟩ (.int .i64 s'.base)).setCell ⟨w.heap.size, 12, none⟩ (.slice so q.s.ps.length sc)).setCell ⟨w.heap.size, 13, none⟩ (.int .i64 s'.under)) = V := ⟨_, rfl⟩
            have hf2 : Fr (fun k => k = w.heap.size) V1 V2 := hV2 ▸ fr_cells4 V1 w.heap.size 10 11 12 13 _ _ _ _
            rw [hV2] at hB2
            have hx2 : Byt (Live (fun k => C k ∨ k = w.heap.size ∨ k = w.heap.size + 1) V2) V2 (.slice uo sp.length uc) sp := (hua.fr hf2 fun k hk e => hk.2 (.inr (.inl e))).mono fun k hk => hk.grow (Nat.le_trans hsz hf2.size)
            have HD := r9data_any _ V2 _ _ _ _ _ _ hB2.rf sn sp false _ hx2 (by show q.out.length ≤ _; have := HLEN.out; omega)
            have B2 := Lib.hid hB2
            have A2 := Lib.hid hB2.ba
            clear hB1 hB2 hx1 hu hua hb1 hba hf2 hx2 hsz HS c10 c11 c12 c13 c2 c8
            go_wp2_with (with_reducible show wpList _ _ _ (⟨_, .load 38 (.tmp 1), _, _, _, none⟩ :: _) _ _; refine RowKit.Hid.out ?_)
            refine Lib.hid ?_
            refine wpList_load_row rfl 38 (.tmp 1) rfl _ rfl _ _ (0, 0) _ A2.out Tryz.underlying38 rfl infoL9 ?_
            go_wp2_with fail
            refine (HD).mono ?_
            rintro e W3 ⟨⟨sl3, rl3, ra3, ov3, iv3, rfl, hr3⟩, hb3⟩
            go_wp2_with (with_reducible show wpList _ _ _ (⟨_, .store 38 (.tmp 1) (.tmp 37), _, _, _, none⟩ :: _) _ _; refine RowKit.Hid.out ?_)
            refine Lib.hid ?_
            refine wpList_store_row rfl 38 (.tmp 1) (.tmp 37) rfl _ _ rfl rfl _ _ (bl_get hb3 B2.out.ba) infoL9 rfl hr3.one ?_
            have hB3 := B2.out.stored hb3 hr3
            have hF3 := fr_row W3 w.heap.size (Lk.ref (({ q with s := s' } : Lk).dat sn sp false) sl3 rl3 ra3 ov3 iv3)
            obtain ⟨V3, hV3⟩ : ∃ V, W3.setRow w.heap.size (Lk.ref (({ q with s := s' } : Lk).dat sn sp false) sl3 rl3 ra3 ov3 iv3) = V := ⟨_, rfl⟩
            rw [hV3] at hB3 hF3 ⊢
            have B3 := Lib.hid hB3
            have A3 := Lib.hid hB3.ba
            clear hB3 hV3
            have k5 := B3.out.cell 5 (v := .int .i64 q.left) rfl
            have k3 := B3.out.cell 3 (v := .int .i64 q.timer) rfl
            have x5 := B3.out.frozen 5
            clear hb3 hr3 HD
            by_cases hl : q.left = 0
            · have hB4 := B3.out.put1 (t' := { (({ q with s := s' } : Lk).dat sn sp false) with left := q.timer }) 5 (.int .i64 q.timer) rfl rfl rfl rfl rfl
              have HN : Hid (GoB C w (V3.setCell ⟨w.heap.size, 5, none⟩ (.int .i64 q.timer)) T t.out.length (i + 1)) := by
                refine ⟨⟨_, _, _, _, _, _, hB4, ?_, HSS.out.2.1, ?_⟩⟩
                · rw [← HGO.out, HSS.out.2.2, if_pos hl]
                · have := HLEN.out
                  show (q.out ++ [_]).length ≤ _
                  rw [List.length_append]
                  simp
                  omega
              rw [hl] at k5
              clear hB4
              go_wp2
              go_roundw
              case rel => exact ⟨i + 1, by go_num, by omega, HN⟩
              case measure => simp [intOf]; omega
            · have hl' : ((q.left : Int) = 0) = False := eq_false (by omega)
              have HN : Hid (GoB C w V3 T t.out.length (i + 1)) := by
                refine ⟨⟨_, _, _, _, _, _, B3.out, ?_, HSS.out.2.1, ?_⟩⟩
                · rw [← HGO.out, HSS.out.2.2, if_neg hl]
                  rfl
                · have := HLEN.out
                  show (q.out ++ [_]).length ≤ _
                  rw [List.length_append]
                  simp
                  omega
              go_wp2
              go_roundw
              case rel => exact ⟨i + 1, by go_num, by omega, HN⟩
              case measure => simp [intOf]; omega
    · obtain rfl : i = 64 := by omega
      have hgo' : q = T := hgo
      subst hgo'
      have f1 : ¬ ((64 : Nat) : Int) < 64 := by omega
      clear hB hgo hok' hlen HG
      go_wp2_with (with_reducible show wpList _ _ _ (⟨_, .load 38 (.tmp 1), _, _, _, none⟩ :: _) _ _; refine RowKit.Hid.out ?_)
      refine Lib.hid ?_
      refine wpList_load_row rfl 38 (.tmp 1) rfl _ rfl _ _ (0, 0) _ A0.out Tryz.underlying38 rfl infoL9 ?_
      go_wp2_with (with_reducible show wpList _ _ _ (⟨_, .store 38 (.tmp 2) (.tmp 44), _, _, _, none⟩ :: _) _ _; refine RowKit.Hid.out ?_)
      refine Lib.hid ?_
      obtain ⟨cs, hcs, hz⟩ := B0.out.bz
      have hone := B0.out.rf.one
      refine wpList_store_row rfl 38 (.tmp 2) (.tmp 44) rfl _ _ rfl rfl _ _ hz infoL9 hcs hone ?_
      obtain ⟨hret, hrow⟩ := B0.out.ret
      go_wp2_with fail
      refine bodyPost_ret (results_cell_row rfl _ _ (w.heap.size + 1) 38 _ (0, 0) _ rfl hrow Tryz.underlying38 rfl infoL9) rfl ?_
      exact hret

end Go.Proofs.YthmdibagcbbgoaaGreat
