/- portageref09.Receive. portagelaw09.play: Receive. portagelaw09.play: any call of both ends. A region that draws its order, where two operations that write may both come up: both orders are walked. No program in sight. Conditions: as they stand. -/
import Derived.Test.YthmdibagcbbgoaaGreatM44
import Derived.Test.YthmdibagcbbgoaaGreatM09
import Derived.Test.YthmdibagcbbgoaaGreatM43
namespace Go.Proofs.YthmdibagcbbgoaaGreat
open Go.RowKit

theorem recv_setups {t : Lk} {c : Cn} (hc : c.chk = 0) (hk : 5 ≤ c.kind) (hk7 : c.kind ≤ 7) : t.recv c = t.setups c := by
  unfold Lk.recv Lk.setups
  rw [if_neg (by rw [hc]; decide)]
  by_cases h5 : c.kind = 5
  · rw [if_pos h5, if_pos h5]
  · rw [if_neg h5, if_neg h5]
    by_cases h6 : c.kind = 6
    · rw [if_pos h6, if_pos h6]
    · rw [if_neg h6, if_neg h6]
      by_cases h7 : c.kind = 7
      · rw [if_pos h7, if_pos h7]
      · omega

set_option maxRecDepth 100000 in
set_option maxHeartbeats 4000000 in
theorem r9recv_any (C : Nat → Prop) (w : World) (sl rl ra ov iv : Value) (t : Lk) (h : RfAt C w sl rl ra ov iv t) (hok : LkOk t) {m : Nat} (hbn : Bnd m t.r.asked) (hm : m ≤ 800000) (c : Cn) (x : Value) (hx : Byz (Live C w) w x c.data) (hmo : t.out.length ≤ 700000) (hmi : t.inn.length ≤ 700000) :
    Calls Tryz.prog 32 #[.agg (t.ref sl rl ra ov iv), .agg #[.int .i64 c.kind, .int .i64 c.ns, .int .i64 c.nr, .bool c.p, .int .i64 c.me, .int .i64 c.peer, x]] w fun e w' => Rf9E C w (t.recv c) c.chk e w' := by
  obtain ⟨xo, xc, rfl⟩ : ∃ xo xc, x = .slice xo c.data.length xc := by
    obtain ⟨⟨⟨_, ao, cap, h, _⟩, _⟩, _⟩ := hx
    exact ⟨ao, cap, h⟩
  have HM := Lib.hid hm
  obtain ⟨Q, hQ⟩ : ∃ Q, t.recv c = Q := ⟨_, rfl⟩
  have HQ00 : Hid (t.recv c = Q) := hQ
  rw [hQ]
  have HCK := fun W => rcheck_any c.kind c.ns c.nr c.p c.me c.peer xo c.data.length xc W
  obtain ⟨E, hE⟩ : ∃ E, c.chk = E := ⟨_, rfl⟩
  have hE' : chkN c.kind c.ns c.nr c.me c.peer c.data.length = E := hE
  rw [hE'] at HCK
  rw [hE]
  have hck : E = 0 → 1 ≤ c.kind ∧ c.kind ≤ 7 := fun h0 => by
    apply Classical.byContradiction
    intro g
    rw [chk_out (by omega)] at hE'
    omega
  have HOK : Hid (LkOk t ∧ t.out.length ≤ 700000 ∧ t.inn.length ≤ 700000 ∧ Bnd m t.r.asked) := ⟨hok, hmo, hmi, hbn⟩
  obtain ⟨W0, hW0, hB0, hc0⟩ := h.boxes3 #[.int .i64 c.kind, .int .i64 c.ns, .int .i64 c.nr, .bool c.p, .int .i64 c.me, .int .i64 c.peer, .slice xo c.data.length xc]
  have B0 := Lib.hid hB0
  have A0 := Lib.hid hB0.ba
  have hx0 := hB0.byz hx
  have HC0 := Lib.hid hc0
  have HX0 := Lib.hid hx0
  have hlm := hB0.rf.lim
  clear h hx hx0 hc0 hQ hok hbn hm hmo hmi hE'
  go_enter Tryz.func32, Tryz.ntmps32
  go_wp2_with (first | simp only [hW0] | (with_reducible show wpList _ _ _ (⟨_, .load 46 (.tmp 3), _, _, _, none⟩ :: _) _ _; refine RowKit.Hid.out ?_))
  refine Lib.hid ?_
  refine wpList_load_row rfl 46 (.tmp 3) rfl _ rfl _ _ (0, 0) _ HC0.out Tryz.underlying46 rfl infoC7 ?_
  go_wp2_with fail
  refine (HCK W0).mono ?_
  rintro e W1 ⟨rfl, hb1⟩
  have hB1 := B0.out.below hb1
  have hc1 := bl_get hb1 HC0.out
  have hx1 : Byz (Live (fun k => C k ∨ k = w.heap.size ∨ k = w.heap.size + 1 + 1) W1) W1 (.slice xo c.data.length xc) c.data := (HX0.out.below hb1).mono fun k hk => hk.grow hb1.size
  clear A0 B0 HC0 HX0 hB0
  have B0 := Lib.hid hB1
  have A0 := Lib.hid hB1.ba
  have HC0 := Lib.hid hc1
  by_cases hE0 : E = 0
  · subst hE0
    have k0 : W1.cell? ⟨w.heap.size + 1, 0, none⟩ = some (.int .i64 c.kind) := by rw [cell_of_row _ _ _ _ _ _ hc1]; rfl
    have k4 : W1.cell? ⟨w.heap.size + 1, 4, none⟩ = some (.int .i64 c.me) := by rw [cell_of_row _ _ _ _ _ _ hc1]; rfl
    have k5 : W1.cell? ⟨w.heap.size + 1, 5, none⟩ = some (.int .i64 c.peer) := by rw [cell_of_row _ _ _ _ _ _ hc1]; rfl
    have c0 : W1.cell? ⟨w.heap.size, 0, none⟩ = some (.int .i64 t.me) := hB1.cell 0 rfl
    have c1 : W1.cell? ⟨w.heap.size, 1, none⟩ = some (.int .i64 t.peer) := hB1.cell 1 rfl
    have c2 : W1.cell? ⟨w.heap.size, 2, none⟩ = some (.bool t.up) := hB1.cell 2 rfl
    obtain ⟨hk1, hk7⟩ := hck rfl
    by_cases h5 : 5 ≤ c.kind
    · have HQ : Hid (Q = t.setups c) := HQ00.out.symm.trans (recv_setups hE h5 hk7)
      have HST := r9setups_any _ W1 _ _ _ _ _ _ hB1.rf c xo c.data.length xc HOK.out.1.me h5 hk7 HOK.out.2.1
      clear hB1 hc1 hx1 hck HQ00 hk1 hk7 hE HCK c0 c1 c2 k4 k5
      go_wp2_with (with_reducible show wpList _ _ _ (⟨_, .load 38 (.tmp 2), _, _, _, none⟩ :: _) _ _; refine RowKit.Hid.out ?_)
      refine Lib.hid ?_
      refine wpList_load_row rfl 38 (.tmp 2) rfl _ rfl _ _ (0, 0) _ A0.out Tryz.underlying38 rfl infoL9 ?_
      go_wp2_with (with_reducible show wpList _ _ _ (⟨_, .load 46 (.tmp 3), _, _, _, none⟩ :: _) _ _; refine RowKit.Hid.out ?_)
      refine Lib.hid ?_
      refine wpList_load_row rfl 46 (.tmp 3) rfl _ rfl _ _ (0, 0) _ HC0.out Tryz.underlying46 rfl infoC7 ?_
      go_wp2_with fail
      refine (HST).mono ?_
      rintro e W9 ⟨⟨sl9, rl9, ra9, ov9, iv9, rfl, hr9⟩, hb9⟩
      go_wp2_with (with_reducible show wpList _ _ _ (⟨_, .store 38 (.tmp 4) (.tmp 17), _, _, _, none⟩ :: _) _ _; refine RowKit.Hid.out ?_)
      refine Lib.hid ?_
      obtain ⟨cs, hcs, hz⟩ := B0.out.bz
      refine wpList_store_row rfl 38 (.tmp 4) (.tmp 17) rfl _ _ rfl rfl _ _ (bl_get hb9 hz) infoL9 hcs hr9.one ?_
      obtain ⟨hret, hbl, hrow⟩ := B0.out.rets2 hb9 hr9
      go_wp2_with fail
      refine bodyPost_ret (results_tmp_row rfl _ _ (w.heap.size + 1 + 1) 38 _ (0, 0) _ rfl hrow Tryz.underlying38 rfl infoL9) rfl ?_
      have hT := HQ.out
      subst hT
      exact ⟨⟨_, _, _, _, _, rfl, hret⟩, hbl⟩
    · have hrq : Q = if c.me = t.peer ∧ c.peer = t.me then t.fits c else if t.up = true then t else t.send ⟨7, 0, 0, false, 0, c.me, []⟩ := by
        rw [← HQ00.out]
        unfold Lk.recv
        rw [if_neg (by rw [hE]; decide), if_neg (by omega), if_neg (by omega), if_neg (by omega)]
      have HRQ := Lib.hid hrq
      by_cases hq : c.me = t.peer ∧ c.peer = t.me
      · have HQ : Hid (Q = t.fits c) := by
          unfold Hid
          rw [HRQ.out, if_pos hq]
        obtain ⟨q1, q2⟩ := hq
        have HFT := r9fits_any _ W1 _ _ _ _ _ _ hB1.rf HOK.out.1 HOK.out.2.2.2 HM.out c _ hx1 HOK.out.2.1 HOK.out.2.2.1 hk1 (by omega)
        rw [q1] at k4
        rw [q2] at k5
        clear hB1 hc1 hx1 hck HQ00 hk1 hk7 hE HCK hrq HRQ c2 q1 q2
        go_wp2_with (with_reducible show wpList _ _ _ (⟨_, .load 38 (.tmp 2), _, _, _, none⟩ :: _) _ _; refine RowKit.Hid.out ?_)
        refine Lib.hid ?_
        refine wpList_load_row rfl 38 (.tmp 2) rfl _ rfl _ _ (0, 0) _ A0.out Tryz.underlying38 rfl infoL9 ?_
        go_wp2_with (with_reducible show wpList _ _ _ (⟨_, .load 46 (.tmp 3), _, _, _, none⟩ :: _) _ _; refine RowKit.Hid.out ?_)
        refine Lib.hid ?_
        refine wpList_load_row rfl 46 (.tmp 3) rfl _ rfl _ _ (0, 0) _ HC0.out Tryz.underlying46 rfl infoC7 ?_
        go_wp2_with fail
        refine (HFT).mono ?_
        rintro e W9 ⟨⟨sl9, rl9, ra9, ov9, iv9, rfl, hr9⟩, hb9⟩
        go_wp2_with (with_reducible show wpList _ _ _ (⟨_, .store 38 (.tmp 4) (.tmp 32), _, _, _, none⟩ :: _) _ _; refine RowKit.Hid.out ?_)
        refine Lib.hid ?_
        obtain ⟨cs, hcs, hz⟩ := B0.out.bz
        refine wpList_store_row rfl 38 (.tmp 4) (.tmp 32) rfl _ _ rfl rfl _ _ (bl_get hb9 hz) infoL9 hcs hr9.one ?_
        obtain ⟨hret, hbl, hrow⟩ := B0.out.rets2 hb9 hr9
        go_wp2_with fail
        refine bodyPost_ret (results_tmp_row rfl _ _ (w.heap.size + 1 + 1) 38 _ (0, 0) _ rfl hrow Tryz.underlying38 rfl infoL9) rfl ?_
        have hT := HQ.out
        subst hT
        exact ⟨⟨_, _, _, _, _, rfl, hret⟩, hbl⟩
      · by_cases q1 : c.me = t.peer
        · have q2 : ¬ c.peer = t.me := fun g => hq ⟨q1, g⟩
          have f2 : (c.peer == (t.me : Int)) = false := by simpa using q2
          rw [q1] at k4
          have q3 : (decide (c.peer = (t.me : Int))) = false := decide_eq_false q2
          cases hup : t.up with
          | true =>
            rw [hup] at c2
            have HQ : Hid (Q = t) := by
              unfold Hid
              rw [HRQ.out, if_neg hq, if_pos hup]
            clear hB1 hc1 hx1 hck HQ00 hk1 hk7 hE HCK hrq HRQ hup hq
            go_wp2_with (with_reducible show wpList _ _ _ (⟨_, .load 38 (.tmp 2), _, _, _, none⟩ :: _) _ _; refine RowKit.Hid.out ?_)
            refine Lib.hid ?_
            refine wpList_load_row rfl 38 (.tmp 2) rfl _ rfl _ _ (0, 0) _ A0.out Tryz.underlying38 rfl infoL9 ?_
            go_wp2_with (with_reducible show wpList _ _ _ (⟨_, .store 38 (.tmp 4) (.tmp 41), _, _, _, none⟩ :: _) _ _; refine RowKit.Hid.out ?_)
            refine Lib.hid ?_
            obtain ⟨cs, hcs, hz⟩ := B0.out.bz
            have hone := B0.out.rf.one
            refine wpList_store_row rfl 38 (.tmp 4) (.tmp 41) rfl _ _ rfl rfl _ _ hz infoL9 hcs hone ?_
            obtain ⟨hret, hbl, hrow⟩ := B0.out.rets2 (bl_refl _) B0.out.rf
            go_wp2_with fail
            refine bodyPost_ret (results_tmp_row rfl _ _ (w.heap.size + 1 + 1) 38 _ (0, 0) _ rfl hrow Tryz.underlying38 rfl infoL9) rfl ?_
            have hT := HQ.out
            subst hT
            exact ⟨⟨_, _, _, _, _, rfl, hret⟩, hbl⟩
          | false =>
            rw [hup] at c2
            have HQ : Hid (Q = t.send ⟨7, 0, 0, false, 0, t.peer, []⟩) := by
              unfold Hid
              rw [HRQ.out, if_neg hq, if_neg (by rw [hup]; simp), q1]
            have HSN := r9send_any _ W1 _ _ _ _ _ _ hB1.rf ⟨7, 0, 0, false, 0, t.peer, []⟩ _ (byt_nil _ _) (by have := HOK.out.2.1; omega)
            clear hB1 hc1 hx1 hck HQ00 hk1 hk7 hE HCK hrq HRQ hup hq
            go_wp2_with (with_reducible show wpList _ _ _ (⟨_, .load 38 (.tmp 2), _, _, _, none⟩ :: _) _ _; refine RowKit.Hid.out ?_)
            refine Lib.hid ?_
            refine wpList_load_row rfl 38 (.tmp 2) rfl _ rfl _ _ (0, 0) _ A0.out Tryz.underlying38 rfl infoL9 ?_
            go_wp2_with fail
            refine (HSN).mono ?_
            rintro e W9 ⟨⟨sl9, rl9, ra9, ov9, iv9, rfl, hr9⟩, hb9⟩
            go_wp2_with (with_reducible show wpList _ _ _ (⟨_, .store 38 (.tmp 4) (.tmp 40), _, _, _, none⟩ :: _) _ _; refine RowKit.Hid.out ?_)
            refine Lib.hid ?_
            obtain ⟨cs, hcs, hz⟩ := B0.out.bz
            refine wpList_store_row rfl 38 (.tmp 4) (.tmp 40) rfl _ _ rfl rfl _ _ (bl_get hb9 hz) infoL9 hcs hr9.one ?_
            obtain ⟨hret, hbl, hrow⟩ := B0.out.rets2 hb9 hr9
            go_wp2_with fail
            refine bodyPost_ret (results_tmp_row rfl _ _ (w.heap.size + 1 + 1) 38 _ (0, 0) _ rfl hrow Tryz.underlying38 rfl infoL9) rfl ?_
            have hT := HQ.out
            subst hT
            exact ⟨⟨_, _, _, _, _, rfl, hret⟩, hbl⟩
        · have q3 : (decide (c.me = t.peer)) = false := decide_eq_false q1
          have f2 : (c.me == t.peer) = false := by simpa using q1
          cases hup : t.up with
          | true =>
            rw [hup] at c2
            have HQ : Hid (Q = t) := by
              unfold Hid
              rw [HRQ.out, if_neg hq, if_pos hup]
            clear hB1 hc1 hx1 hck HQ00 hk1 hk7 hE HCK hrq HRQ hup hq
            go_wp2_with (with_reducible show wpList _ _ _ (⟨_, .load 38 (.tmp 2), _, _, _, none⟩ :: _) _ _; refine RowKit.Hid.out ?_)
            refine Lib.hid ?_
            refine wpList_load_row rfl 38 (.tmp 2) rfl _ rfl _ _ (0, 0) _ A0.out Tryz.underlying38 rfl infoL9 ?_
            go_wp2_with (with_reducible show wpList _ _ _ (⟨_, .store 38 (.tmp 4) (.tmp 41), _, _, _, none⟩ :: _) _ _; refine RowKit.Hid.out ?_)
            refine Lib.hid ?_
            obtain ⟨cs, hcs, hz⟩ := B0.out.bz
            have hone := B0.out.rf.one
            refine wpList_store_row rfl 38 (.tmp 4) (.tmp 41) rfl _ _ rfl rfl _ _ hz infoL9 hcs hone ?_
            obtain ⟨hret, hbl, hrow⟩ := B0.out.rets2 (bl_refl _) B0.out.rf
            go_wp2_with fail
            refine bodyPost_ret (results_tmp_row rfl _ _ (w.heap.size + 1 + 1) 38 _ (0, 0) _ rfl hrow Tryz.underlying38 rfl infoL9) rfl ?_
            have hT := HQ.out
            subst hT
            exact ⟨⟨_, _, _, _, _, rfl, hret⟩, hbl⟩
          | false =>
            rw [hup] at c2
            have HQ : Hid (Q = t.send ⟨7, 0, 0, false, 0, c.me, []⟩) := by
              unfold Hid
              rw [HRQ.out, if_neg hq, if_neg (by rw [hup]; simp)]
            have HSN := r9send_any _ W1 _ _ _ _ _ _ hB1.rf ⟨7, 0, 0, false, 0, c.me, []⟩ _ (byt_nil _ _) (by have := HOK.out.2.1; omega)
            clear hB1 hc1 hx1 hck HQ00 hk1 hk7 hE HCK hrq HRQ hup hq
            go_wp2_with (with_reducible show wpList _ _ _ (⟨_, .load 38 (.tmp 2), _, _, _, none⟩ :: _) _ _; refine RowKit.Hid.out ?_)
            refine Lib.hid ?_
            refine wpList_load_row rfl 38 (.tmp 2) rfl _ rfl _ _ (0, 0) _ A0.out Tryz.underlying38 rfl infoL9 ?_
            go_wp2_with fail
            refine (HSN).mono ?_
            rintro e W9 ⟨⟨sl9, rl9, ra9, ov9, iv9, rfl, hr9⟩, hb9⟩
            go_wp2_with (with_reducible show wpList _ _ _ (⟨_, .store 38 (.tmp 4) (.tmp 40), _, _, _, none⟩ :: _) _ _; refine RowKit.Hid.out ?_)
            refine Lib.hid ?_
            obtain ⟨cs, hcs, hz⟩ := B0.out.bz
            refine wpList_store_row rfl 38 (.tmp 4) (.tmp 40) rfl _ _ rfl rfl _ _ (bl_get hb9 hz) infoL9 hcs hr9.one ?_
            obtain ⟨hret, hbl, hrow⟩ := B0.out.rets2 hb9 hr9
            go_wp2_with fail
            refine bodyPost_ret (results_tmp_row rfl _ _ (w.heap.size + 1 + 1) 38 _ (0, 0) _ rfl hrow Tryz.underlying38 rfl infoL9) rfl ?_
            have hT := HQ.out
            subst hT
            exact ⟨⟨_, _, _, _, _, rfl, hret⟩, hbl⟩
  · have hQt : Q = t := by
      rw [← HQ00.out]
      unfold Lk.recv
      rw [if_pos (by rw [hE]; exact hE0)]
    have HQ : Hid (Q = t) := hQt
    have hEb : (E != 0) = true := by simpa using hE0
    have HS : Hid (∀ w' : World, Below W1.heap.size W1 w' → (fun w' => w'.heap[w.heap.size]? = some (.cells (t.ref sl rl ra ov iv) 38 (0, 0)) ∧ w'.heap[w.heap.size + 1]? = some (.cells #[.int .i64 c.kind, .int .i64 c.ns, .int .i64 c.nr, .bool c.p, .int .i64 c.me, .int .i64 c.peer, .slice xo c.data.length xc] 46 (0, 0))) w') := fun w' hb => ⟨bl_get hb A0.out, bl_get hb HC0.out⟩
    clear hB1 hc1 hx1 hck HQ00 hE hQt
    go_wp2_with fail
    refine wp_region_order (fun w' => w'.heap[w.heap.size]? = some (.cells (t.ref sl rl ra ov iv) 38 (0, 0)) ∧ w'.heap[w.heap.size + 1]? = some (.cells #[.int .i64 c.kind, .int .i64 c.ns, .int .i64 c.nr, .bool c.p, .int .i64 c.me, .int .i64 c.peer, .slice xo c.data.length xc] 46 (0, 0)))
      [(0, 1), (1, 1), (2, 2)] [(3, false), (4, true)] [3] [4]
      (by kernel_rfl) (fun _ _ d _ _ h => by cases d <;> exact h) (by decide +kernel) (HS.out _ (bl_drew (bl_refl W1))) ?_
    refine wpHead_take (v := .agg (t.ref sl rl ra ov iv)) rfl (by rfl) (fun w1 h1 => exec_load_row 38 (.tmp 2) rfl w.heap.size rfl _ _ (0, 0) _ h1.1 Tryz.underlying38 rfl infoL9) ?_
    simp only [Act.put, List.setIfInBounds_toArray]
    refine wpHead_take (v := .agg #[.int .i64 c.kind, .int .i64 c.ns, .int .i64 c.nr, .bool c.p, .int .i64 c.me, .int .i64 c.peer, .slice xo c.data.length xc]) rfl (by rfl) (fun w1 h1 => exec_load_row 46 (.tmp 3) rfl (w.heap.size + 1) rfl _ _ (0, 0) _ h1.2 Tryz.underlying46 rfl infoC7) ?_
    simp only [Act.put]
    refine wpHead_step rfl (by rfl) (fun K hK => ?_)
    go_simp; go_at_call 53
    refine (HCK _).mono ?_; rintro e W9 ⟨rfl, hb9⟩; simp only []
    have hb9' := bl_trans (bl_drew (bl_refl W1)) hb9
    refine hK.out _ _ (HS.out _ hb9') ?_
    clear hK K
    try simp only [Act.put, List.setIfInBounds_toArray]
    refine wpHead_nil ?_
    obtain ⟨cs, hcs, hz⟩ := B0.out.bz
    have hr9 := B0.out.rf.below hb9'
    refine wpTail_step rfl (by rfl) (fun K hK => ?_)
    refine wp_store_row 38 (.tmp 4) (.tmp 9) rfl (w.heap.size + 1 + 1) _ rfl rfl _ _ (bl_get hb9' hz) infoL9 hcs hr9.one ?_
    refine hK.out _ _ ?_
    clear hK K
    try simp only [Act.put, List.setIfInBounds_toArray]
    refine wpTail_free (v := ?_) rfl (by rfl) ?_ ?_
    rotate_left
    focus (intro w1; go_simp; try with_reducible rfl)
    simp only [Act.put, List.getElem_toArray, List.getElem_cons_zero, List.getElem_cons_succ, List.setIfInBounds_toArray]
    refine wpTail_nil ?_
    obtain ⟨hret, hbl, hrow⟩ := B0.out.rets2 hb9' hr9
    go_wp2_with fail
    refine bodyPost_ret (results_tmp_row rfl _ _ (w.heap.size + 1 + 1) 38 _ (0, 0) _ rfl hrow Tryz.underlying38 rfl infoL9) rfl ?_
    have hT := HQ.out
    subst hT
    exact ⟨⟨_, _, _, _, _, rfl, hret⟩, hbl⟩

end Go.Proofs.YthmdibagcbbgoaaGreat

namespace Go.Proofs.YthmdibagcbbgoaaGreat
open Go.RowKit

set_option maxRecDepth 100000 in
set_option maxHeartbeats 4000000 in
theorem play_recv (B : Nat) (col : Nat → Nat) (w : World) (a sg rg : Nat) (po pi sl rl ra ov iv : Value) (t : Lk) (X : Nat → Prop) (hp : LkP B col w a sg rg po pi t) (hX : ∀ k, X k → k < w.heap.size ∧ col k = 0) (hr : RfAt (fun k => Turns col k ∨ X k) w sl rl ra ov iv t) {m : Nat} (ho : PlOk m t) (c : ActL) (x y : Value) (hk : c.k = 2) (hm : m ≤ 800000) (hXB : ∀ k, X k → B ≤ k) (hx : ByB B w y c.c.data) :
    Calls Tryz.prog 7 #[.pointer (some ⟨a, 0, none⟩), .agg (t.ref sl rl ra ov iv), .agg (c.cells x y)] w fun e w' => PlayTo B X w a sg rg (t.recv c.c) e w' := by
  obtain ⟨yo, yc, rfl⟩ : ∃ yo yc, y = .slice yo c.c.data.length yc := by
    obtain ⟨⟨_, ao, cap, h, _⟩, _⟩ := hx
    exact ⟨ao, cap, h⟩
  obtain ⟨T0, hT0⟩ : ∃ T0, t.recv c.c = T0 := ⟨_, rfl⟩
  have HT0 : Hid (t.recv c.c = T0) := hT0
  obtain ⟨W0, hW0, hB0, hc0⟩ := hr.boxesA (c.cells x (.slice yo c.c.data.length yc))
  have B0 := Lib.hid hB0
  have A0 := Lib.hid hB0.ba
  have HP := Lib.hid hp
  have HX := Lib.hid hX
  have hBw := hp.cols.1
  have k0 : W0.cell? ⟨w.heap.size + 1, 0, none⟩ = some (.int .i64 c.k) := by rw [cell_of_row _ _ _ _ _ _ hc0]; rfl
  rw [hk] at k0
  have HC0 := Lib.hid hc0
  have hge := turns_ge hp
  have hz0 : Byz (Live (fun k => Turns col k ∨ X k) w) w (.slice yo c.c.data.length yc) c.c.data := ⟨⟨hx.1, fun hne k hk => ⟨by have := hx.2.2 hne k hk; omega, fun g => by
    have h1 := hx.2.2 hne k hk
    rcases g with g | g
    · have := hge k g
      omega
    · have := hXB k g
      omega⟩⟩, hx.2.1⟩
  have HRP := r9recv_any _ W0 _ _ _ _ _ _ hB0.rf ho.ok ho.bnd hm c.c _ (hB0.byz hz0) (by have := ho.out; omega) (by have := ho.inn; omega)
  have HLT := Lib.hid fun (W : World) (hb : Below w.heap.size w W) => lrecv_any B (paint col w W 0) W a sg rg po pi t (hp.skip hb) ho.ok.me ho.ok.s ho.ok.r c.c (.slice yo c.c.data.length yc) ⟨(hx.below (hb.mono hBw)).1, hx.2.1, fun hne k hk => by
    have h1 := hx.2.2 hne k hk
    have h2 := hb.size
    refine ⟨by omega, fun g => ?_⟩
    rw [paint_old (by omega)] at g
    have := hge k g
    omega⟩ (by have := ho.out; omega) (by have := ho.inn; omega)
  obtain ⟨E, hE⟩ : ∃ E, c.c.chk = E := ⟨_, rfl⟩
  rw [hT0, hE] at HRP
  simp only [hE] at HLT
  rw [hT0]
  have k2 : W0.cell? ⟨w.heap.size + 1, 2, none⟩ = some (.int .i64 c.c.kind) := by rw [cell_of_row _ _ _ _ _ _ hc0]; rfl
  have k3 : W0.cell? ⟨w.heap.size + 1, 3, none⟩ = some (.int .i64 c.c.ns) := by rw [cell_of_row _ _ _ _ _ _ hc0]; rfl
  have k4 : W0.cell? ⟨w.heap.size + 1, 4, none⟩ = some (.int .i64 c.c.nr) := by rw [cell_of_row _ _ _ _ _ _ hc0]; rfl
  have k5 : W0.cell? ⟨w.heap.size + 1, 5, none⟩ = some (.bool c.c.p) := by rw [cell_of_row _ _ _ _ _ _ hc0]; rfl
  have k6 : W0.cell? ⟨w.heap.size + 1, 6, none⟩ = some (.int .i64 c.c.me) := by rw [cell_of_row _ _ _ _ _ _ hc0]; rfl
  have k7 : W0.cell? ⟨w.heap.size + 1, 7, none⟩ = some (.int .i64 c.c.peer) := by rw [cell_of_row _ _ _ _ _ _ hc0]; rfl
  have k8 : W0.cell? ⟨w.heap.size + 1, 8, none⟩ = some (.slice yo c.c.data.length yc) := by rw [cell_of_row _ _ _ _ _ _ hc0]; rfl
  clear hB0 hp hX hr ho hk hx hE hT0 hc0 hm hge hz0 hXB
  go_enter Tryz.func7, Tryz.ntmps7
  go_wp2_with (first | simp only [hW0] | (with_reducible show wpList _ _ _ (⟨_, .load 38 (.tmp 4), _, _, _, none⟩ :: _) _ _; refine RowKit.Hid.out ?_))
  refine Lib.hid ?_
  refine wpList_load_row rfl 38 (.tmp 4) rfl _ rfl _ _ (0, 0) _ A0.out Tryz.underlying38 rfl infoL9 ?_
  go_wp2_with fail
  refine (HRP).mono ?_
  rintro e W1 ⟨⟨sl1, rl1, ra1, ov1, iv1, rfl, hr1⟩, hb1⟩
  obtain ⟨z20, hz20⟩ : ∃ z20 : Array Value, z20 = #[.int .i64 0, .int .i64 0, .bool false, .int .i64 0, .int .i64 0, .int .i64 0, .int .i64 0, .int .i64 0, .bool false, .bool false, .int .i64 0, .int .i64 0, .slice none 0 0, .int .i64 0, .int .i64 0, .int .i64 0, .slice none 0 0, .slice none 0 0, .slice none 0 0, .slice none 0 0] := ⟨_, rfl⟩
  obtain ⟨W2, hW2⟩ : ∃ W, W1.alloc (.cells #[.int .i64 0, .int .i64 0, .bool false, .int .i64 0, .int .i64 0, .int .i64 0, .int .i64 0, .int .i64 0, .bool false, .bool false, .int .i64 0, .int .i64 0, .slice none 0 0, .int .i64 0, .int .i64 0, .int .i64 0, .slice none 0 0, .slice none 0 0, .slice none 0 0, .slice none 0 0] 38) = W := ⟨_, rfl⟩
  have n2 : W2.heap[W1.heap.size]? = some (.cells z20 38 (0, 0)) := by rw [← hW2, hz20]; exact heap_alloc_new _ _
  have hzs : z20.size = 20 := by rw [hz20]; rfl
  have b12 : Below W1.heap.size W1 W2 := by rw [← hW2]; exact bl_alloc (bl_refl W1) _
  clear hz20
  go_wp2_with (with_reducible show wpList _ _ _ (⟨_, .store 38 (.tmp 10) (.tmp 46), _, _, _, none⟩ :: _) _ _; refine RowKit.Hid.out ?_)
  refine Lib.hid ?_
  refine wpList_store_row rfl 38 (.tmp 10) (.tmp 46) rfl _ _ rfl rfl _ _ n2 infoL9 hzs hr1.one ?_
  have hF3 := fr_row W2 W1.heap.size (Lk.ref T0 sl1 rl1 ra1 ov1 iv1)
  have n3 := setRow_heap W2 W1.heap.size _ (Lk.ref T0 sl1 rl1 ra1 ov1 iv1) _ _ n2
  obtain ⟨W3, hW3⟩ : ∃ V, W2.setRow W1.heap.size (Lk.ref T0 sl1 rl1 ra1 ov1 iv1) = V := ⟨_, rfl⟩
  rw [hW3] at hF3 n3 ⊢
  have b13 : Below W1.heap.size W1 W3 := b12.trans (fr_bl hF3 (fun k hk => by rw [hk]; exact Nat.le_refl _) b12.size)
  have hb03 := bl_trans hb1 b13
  have hc3 := bl_get hb03 HC0.out
  have hr3 := hr1.below b13
  have lA := lt_of_get A0.out
  have lC := lt_of_get HC0.out
  have s01 := hb1.size
  have n3l := lt_of_get n3
  clear hF3 hW3 n2 hzs b12 hW2 W2 hr1 hb1
  have HS : Hid (∀ w' : World, Below W3.heap.size W3 w' → (fun w' => w'.heap[W1.heap.size]? = some (.cells (T0.ref sl1 rl1 ra1 ov1 iv1) 38 (0, 0)) ∧ w'.heap[w.heap.size + 1]? = some (.cells (c.cells x (.slice yo c.c.data.length yc)) 48 (0, 0))) w') := fun w' hb => ⟨bl_get hb n3, bl_get hb hc3⟩
  have hb04 := bl_trans hb03 (bl_drew (bl_refl W3))
  have hr4 := hr3.below (bl_drew (bl_refl W3))
  have HLT4 := HLT.out W3.drew (bl_trans B0.out.bl hb04)
  clear hc3 k0 k2 k3 k4 k5 k6 k7 k8 hr3
  go_wp2_with fail
  refine wp_region_order (fun w' => w'.heap[W1.heap.size]? = some (.cells (T0.ref sl1 rl1 ra1 ov1 iv1) 38 (0, 0)) ∧ w'.heap[w.heap.size + 1]? = some (.cells (c.cells x (.slice yo c.c.data.length yc)) 48 (0, 0)))
    [(0, 1), (1, 0), (2, 0), (3, 1), (5, 0), (4, 2), (6, 0)] [(7, false), (8, true)] [7] [5, 6, 8]
    (by kernel_rfl) (fun _ _ d _ _ h => by cases d <;> exact h) (by decide +kernel) (HS.out _ (bl_drew (bl_refl W3))) ?_
  refine wpHead_take (v := .agg (T0.ref sl1 rl1 ra1 ov1 iv1)) rfl (by rfl) (fun w1 h1 => exec_load_row 38 (.tmp 10) rfl W1.heap.size rfl _ _ (0, 0) _ h1.1 Tryz.underlying38 rfl infoL9) ?_
  simp only [Act.put, List.setIfInBounds_toArray]
  iterate 2
    refine wpHead_free (v := ?_) rfl (by rfl) ?_ ?_
    rotate_left
    focus (intro w1; go_simp; try with_reducible rfl)
    simp only [Act.put]
  refine wpHead_take (v := .agg #[.int .i64 c.c.kind, .int .i64 c.c.ns, .int .i64 c.c.nr, .bool c.c.p, .int .i64 c.c.me, .int .i64 c.c.peer, .slice yo c.c.data.length yc]) rfl (by rfl) ?_ ?_
  focus
    rintro w1 ⟨_, q1⟩
    have k2 : w1.cell? ⟨w.heap.size + 1, 2, none⟩ = some (.int .i64 c.c.kind) := by rw [cell_of_row _ _ _ _ _ _ q1]; rfl
    have k3 : w1.cell? ⟨w.heap.size + 1, 3, none⟩ = some (.int .i64 c.c.ns) := by rw [cell_of_row _ _ _ _ _ _ q1]; rfl
    have k4 : w1.cell? ⟨w.heap.size + 1, 4, none⟩ = some (.int .i64 c.c.nr) := by rw [cell_of_row _ _ _ _ _ _ q1]; rfl
    have k5 : w1.cell? ⟨w.heap.size + 1, 5, none⟩ = some (.bool c.c.p) := by rw [cell_of_row _ _ _ _ _ _ q1]; rfl
    have k6 : w1.cell? ⟨w.heap.size + 1, 6, none⟩ = some (.int .i64 c.c.me) := by rw [cell_of_row _ _ _ _ _ _ q1]; rfl
    have k7 : w1.cell? ⟨w.heap.size + 1, 7, none⟩ = some (.int .i64 c.c.peer) := by rw [cell_of_row _ _ _ _ _ _ q1]; rfl
    have k8 : w1.cell? ⟨w.heap.size + 1, 8, none⟩ = some (.slice yo c.c.data.length yc) := by rw [cell_of_row _ _ _ _ _ _ q1]; rfl
    go_simp
    try with_reducible rfl
  simp only [Act.put]
  refine wpHead_free (v := ?_) rfl (by rfl) ?_ ?_
  rotate_left
  focus (intro w1; go_simp; try with_reducible rfl)
  simp only [Act.put]
  refine wpHead_step rfl (by rfl) (fun K hK => ?_)
  go_simp; go_at_call 33
  refine HLT4.mono ?_; rintro e W5 ⟨rfl, hT⟩; simp only []
  rw [HT0.out] at hT
  obtain ⟨W4, hW4⟩ : ∃ W, W3.drew = W := ⟨_, rfl⟩
  rw [hW4] at hT hb04 hr4
  have hb34 : Below W3.heap.size W3 W4 := hW4 ▸ bl_drew (bl_refl W3)
  have s34 := hb34.size
  have pn : ∀ k, w.heap.size ≤ k → k < W4.heap.size → ¬ Turns (paint col w W4 0) k := fun k h1 h3 g => by
    have := g.1
    rw [paint_new h1 h3] at this
    omega
  refine hK.out _ _ ⟨hT.fr.get (HS.out _ hb34).1 (pn _ (by omega) (by omega)), hT.fr.get (HS.out _ hb34).2 (pn _ (by omega) (by omega))⟩ ?_
  clear hK K
  try simp only [Act.put, List.setIfInBounds_toArray]
  refine wpHead_free (v := ?_) rfl (by rfl) ?_ ?_
  rotate_left
  focus (intro w1; go_simp; try with_reducible rfl)
  simp only [Act.put]
  refine wpHead_nil ?_
  obtain ⟨hbe, hrow, hbl, cs, hcs, hz⟩ := play_end HP.out HX.out B0.out hb04 hr4 hT
  refine wpTail_step rfl (by rfl) (fun K hK => ?_)
  refine wp_store_row 38 (.tmp 6) (.tmp 48) rfl (w.heap.size + 1 + 1) _ rfl rfl _ _ hz infoL9 hcs hr4.one ?_
  refine hK.out _ _ ?_
  clear hK K
  try simp only [Act.put, List.setIfInBounds_toArray]
  refine wpTail_free (v := ?_) rfl (by rfl) ?_ ?_
  rotate_left
  focus (intro w1; go_simp; try with_reducible rfl)
  simp only [Act.put, List.getElem_toArray, List.getElem_cons_zero, List.getElem_cons_succ, List.setIfInBounds_toArray]
  refine wpTail_nil ?_
  go_wp2_with fail
  refine bodyPost_ret (results_tmp_row rfl _ _ (w.heap.size + 1 + 1) 38 _ (0, 0) _ rfl hrow Tryz.underlying38 rfl infoL9) rfl ?_
  have hT0 := HT0.out
  subst hT0
  exact ⟨⟨_, _, _, _, _, rfl, hbe⟩, hbl⟩

end Go.Proofs.YthmdibagcbbgoaaGreat

namespace Go.Proofs.YthmdibagcbbgoaaGreat
open Go.RowKit

theorem play_any {B : Nat} {X : Nat → Prop} {w : World} {a sg rg : Nat} {sl rl ra ov iv : Value} {t : Lk} (h : Beside B X w a sg rg sl rl ra ov iv t) (hXB : ∀ k, X k → B ≤ k) {m : Nat} (ho : PlOk m t) (hm : m ≤ 800000) (c : ActL) (x y : Value) (hx : ByB B w x c.p) (hxl : c.p.length ≤ 140737488351232) (hy : ByB B w y c.c.data) :
    Calls Tryz.prog 7 #[.pointer (some ⟨a, 0, none⟩), .agg (t.ref sl rl ra ov iv), .agg (c.cells x y)] w fun e w' => PlayTo B X w a sg rg (t.playd c) e w' := by
  obtain ⟨col, po, pi, hp, hX, hr⟩ := h.ex
  by_cases k0 : c.k = 0
  · have e : t.playd c = t.push c.p := by unfold Lk.playd; rw [if_pos k0]
    rw [e]
    exact play_push B col w a sg rg po pi sl rl ra ov iv t X hp hX hr ho c x y k0 hx hxl
  by_cases k1 : c.k = 1
  · have e : t.playd c = t.tick := by unfold Lk.playd; rw [if_neg k0, if_pos k1]
    rw [e]
    exact play_tick B col w a sg rg po pi sl rl ra ov iv t X hp hX hr ho c x y k1
  by_cases k2 : c.k = 2
  · have e : t.playd c = t.recv c.c := by unfold Lk.playd; rw [if_neg k0, if_neg k1, if_pos k2]
    rw [e]
    exact play_recv B col w a sg rg po pi sl rl ra ov iv t X hp hX hr ho c x y k2 hm hXB hy
  by_cases k3 : c.k = 3
  · have e : t.playd c = t.busied c.on := by unfold Lk.playd; rw [if_neg k0, if_neg k1, if_neg k2, if_pos k3]
    rw [e]
    exact play_busy B col w a sg rg po pi sl rl ra ov iv t X hp hX hr ho c x y k3
  · have e : t.playd c = t := by unfold Lk.playd; rw [if_neg k0, if_neg k1, if_neg k2, if_neg k3]
    rw [e]
    exact play_none B col w a sg rg po pi sl rl ra ov iv t X hp hX hr ho c x y (by omega)

end Go.Proofs.YthmdibagcbbgoaaGreat

namespace Go.Proofs.YthmdibagcbbgoaaGreat
open Go.RowKit

section
variable {P : Program} {ops : Array Oper} {Q : Exit → Act → World → Prop} {md : Region.Mode} {S : World → Prop} {tl fr : List Nat}
/-- The part ahead of the fork. -/
def preB (md : Region.Mode) (ops : Array Oper) (tl fr : List Nat) (fin : Array Bool → Bool) : List (Nat × Nat) → Array Bool → Bool
  | [], listed => fin listed
  | (i, 0) :: r, listed => (Region.ready md ops listed).contains i && Region.free md ops listed i && !tl.contains i && preB md ops tl fr fin r (listed.setIfInBounds i true)
  | (i, 1) :: r, listed => (Region.ready md ops listed).contains i && Region.free md ops listed i && !tl.contains i && !fr.contains i && preB md ops tl fr fin r (listed.setIfInBounds i true)
  | (i, _ + 2) :: r, listed => decide (Region.ready md ops listed = [i]) && !tl.contains i && preB md ops tl fr fin r (listed.setIfInBounds i true)
/-- Two may come up: i, then r1; or j, then r2. -/
def forkB (md : Region.Mode) (ops : Array Oper) (tl fr : List Nat) (tail : List (Nat × Bool)) (i j : Nat) (r1 r2 : List (Nat × Nat)) (listed : Array Bool) : Bool :=
  decide (Region.ready md ops listed = [i, j]) && !tl.contains i && !tl.contains j && headB md ops tl fr tail r1 (listed.setIfInBounds i true) && headB md ops tl fr tail r2 (listed.setIfInBounds j true)

theorem wpAnyT_of_pre {L : Act → World → Prop} {fin : Array Bool → Bool} {n : Nat} (hsel : Region.noSelect ops = true) (hs : sinkT md ops tl fr = true)
    (hQ : ∀ c a d v w, Q (.panic c) (a.put d v) w → Q (.panic c) a w)
    (hfin : ∀ (listed : Array Bool) (a : Act) (w : World), TailInv md ops tl listed → S w → fin listed = true → L a w → wpAnyT P md ops Q S tl n listed a w) :
    ∀ (h : List (Nat × Nat)) (listed : Array Bool) (a : Act) (w : World), TailInv md ops tl listed → S w → preB md ops tl fr fin h listed = true → wpHead P ops S L Q h a w →
      wpAnyT P md ops Q S tl (h.length + n) listed a w
  | [], listed, a, w, inv, hS, hB, h => by
    rw [List.length_nil, Nat.zero_add]
    exact hfin listed a w inv hS hB h
  | (i, 0) :: r, listed, a, w, inv, hS, hB, h => by
    simp only [preB, Bool.and_eq_true, Bool.not_eq_true'] at hB
    obtain ⟨⟨⟨hr, hf⟩, hin⟩, hB'⟩ := hB
    obtain ⟨o, v, ho, hy, hh⟩ := h
    have hr' : i ∈ Region.ready md ops listed := by simpa using hr
    have hin' : i ∉ tl := by simpa using hin
    rw [List.length_cons, show r.length + 1 + n = (r.length + n) + 1 by omega]
    exact wpAnyT_free ho hsel hQ _ listed a w (Region.free_spec ho hf) hr' hy
      (wpAnyT_of_pre hsel hs hQ hfin r _ _ _ (inv.set hr' hin') hS hB' hh)
  | (i, 1) :: r, listed, a, w, inv, hS, hB, h => by
    simp only [preB, Bool.and_eq_true, Bool.not_eq_true'] at hB
    obtain ⟨⟨⟨⟨hr, hf⟩, hin⟩, hif⟩, hB'⟩ := hB
    obtain ⟨o, v, ho, hy, hh⟩ := h
    have hr' : i ∈ Region.ready md ops listed := by simpa using hr
    have hin' : i ∉ tl := by simpa using hin
    rw [List.length_cons, show r.length + 1 + n = (r.length + n) + 1 by omega]
    exact wpAnyT_first ho hsel hs hin' (by simpa using hif) hQ _ listed a w inv (Region.free_spec ho hf) hr' hy hS
      (wpAnyT_of_pre hsel hs hQ hfin r _ _ _ (inv.set hr' hin') hS hB' hh)
  | (i, k + 2) :: r, listed, a, w, inv, _, hB, h => by
    simp only [preB, Bool.and_eq_true, decide_eq_true_eq, Bool.not_eq_true'] at hB
    obtain ⟨⟨hr, hin⟩, hB'⟩ := hB
    obtain ⟨o, ho, hw, hh⟩ := h
    have hin' : i ∉ tl := by simpa using hin
    rw [List.length_cons, show r.length + 1 + n = (r.length + n) + 1 by omega]
    refine ⟨fun h0 => (by rw [h0] at hr; cases hr), fun j hj => ?_⟩
    rw [hr] at hj
    have hji : j = i := by simpa using hj
    rw [hji]
    unfold wpOp
    simp only [ho, hw, if_true]
    exact .inl (Oper.wp_mono (fun a' w' h3 => ⟨.inr fun _ => h3.1, wpAnyT_of_pre hsel hs hQ hfin r _ a' w' (inv.set (by rw [hr]; simp) hin') h3.1 hB' h3.2⟩) hh)

theorem wp_region_fork {id : Nat} {a : Act} {w : World} (S : World → Prop) (pre : List (Nat × Nat)) (i j : Nat) (r1 r2 : List (Nat × Nat)) (tail : List (Nat × Bool)) (tl fr : List Nat) (hm : P.follows .mixedOrders = true) (hQ : ∀ c a d v w, Q (.panic c) (a.put d v) w → Q (.panic c) a w)
    (hB : (Region.noSelect ops && (sinkT .any ops tl fr && (decide (pre.length + (r1.length + tail.length + 1) = ops.size) && (decide (r2.length = r1.length) && preB .any ops tl fr (forkB .any ops tl fr tail i j r1 r2) pre (Array.replicate ops.size false))))) = true)
    (hS : S w.drew) (h : wpHead P ops S (fun a w => wpHead P ops S (wpTail P ops Q tail) Q ((i, 2) :: r1) a w ∧ wpHead P ops S (wpTail P ops Q tail) Q ((j, 2) :: r2) a w) Q pre a w.drew) : (Code.region id ops true).wp P Q a w := by
  simp only [Bool.and_eq_true, decide_eq_true_eq] at hB
  obtain ⟨h1, h2, h5, h7, h6⟩ := hB
  refine wp_region_any hm (wpAny_of_T (S := S) (tl := tl) _ _ _ _ ?_)
  have := wpAnyT_of_pre (P := P) (Q := Q) (S := S) (n := r1.length + tail.length + 1) h1 h2 hQ (fun listed a w inv hS hB hL => ?_) pre (Array.replicate ops.size false) a w.drew (tailInv_start _ _ _) hS h6 h
  · rw [h5] at this
    exact this
  · unfold forkB at hB
    simp only [Bool.and_eq_true, decide_eq_true_eq, Bool.not_eq_true'] at hB
    obtain ⟨⟨⟨⟨hr, hi⟩, hj⟩, hB1⟩, hB2⟩ := hB
    obtain ⟨⟨o1, ho1, hw1, hh1⟩, ⟨o2, ho2, hw2, hh2⟩⟩ := hL
    have hi' : i ∉ tl := by simpa using hi
    have hj' : j ∉ tl := by simpa using hj
    refine ⟨fun h0 => (by rw [h0] at hr; cases hr), fun k hk => ?_⟩
    rw [hr] at hk
    have hkk : k = i ∨ k = j := by simpa using hk
    rcases hkk with rfl | rfl
    · unfold wpOp
      simp only [ho1, hw1, if_true]
      exact .inl (Oper.wp_mono (fun a' w' h3 => ⟨.inr fun _ => h3.1, wpAnyT_of_head tail h1 h2 hQ r1 _ a' w' (inv.set (by rw [hr]; simp) hi') h3.1 hB1 h3.2⟩) hh1)
    · unfold wpOp
      simp only [ho2, hw2, if_true]
      rw [← h7]
      exact .inl (Oper.wp_mono (fun a' w' h3 => ⟨.inr fun _ => h3.1, wpAnyT_of_head tail h1 h2 hQ r2 _ a' w' (inv.set (by rw [hr]; simp) hj') h3.1 hB2 h3.2⟩) hh2)
end

end Go.Proofs.YthmdibagcbbgoaaGreat
