/- portageref09.came. Conditions: as they stand. -/
import Derived.Test.YthmdibagcbbgoaaGreatM37
import Derived.Test.YthmdibagcbbgoaaGreatM39
namespace Go.Proofs.YthmdibagcbbgoaaGreat
open Go.RowKit

theorem exec_load_row {P : Program} {o : Oper} {a : Act} {w : World} (ty : TypeId) (x : Operand) (ho : o.op = .load ty x)
    (g : Nat) (hx : a.eval x = .pointer (some ⟨g, 0, none⟩)) (t : TypeId) (cs : Array Value) (fr : Nat × Nat) (d : TypeDesc) (hg : w.heap[g]? = some (.cells cs t fr))
    (hu : P.underlying ty = some d) (hd : (match d with | .struct _ | .array _ _ => true | _ => false) = true) (hi : (P.info? ty).map (·.size) = some cs.size) :
    (execOp a.eval o).run P w = .ok (.value (.agg cs)) w := by
  unfold execOp
  simp only [ho, hx, Instr.loadAt, Instr.sureAddr, Sem.run_bind, Sem.run_pure, Result.andThen_ok, run_loadVar_row w g t ty cs fr d hg hu hd hi]

/-- Bytes in a footprint; where there are none, wherever. -/
def Byz (F : Nat → Prop) (w : World) (v : Value) (p : List Int) : Prop := (Reads (Value.int .u8) w v p ∧ (p ≠ [] → ∀ k, v.ownBlock = some k → F k)) ∧ ∀ n ∈ p, (Lit.int .u8 n).wf = true
theorem Byz.fr {F G : Nat → Prop} {w w' : World} {v : Value} {p : List Int} (h : Byz F w v p) (hf : Fr G w w') (hd : ∀ k, F k → ¬ G k) : Byz F w' v p := by
  obtain ⟨⟨hr, hl⟩, hw⟩ := h
  refine ⟨⟨?_, hl⟩, hw⟩
  cases p with
  | nil =>
    obtain ⟨hm, ao, cap, hv, hlc, hc⟩ := hr
    exact ⟨hm, ao, cap, hv, hlc, fun i y hy => by simp at hy⟩
  | cons x r =>
    have h' : Rd F (Value.int .u8) w v (x :: r) := ⟨hr, fun k hk => hl (by simp) k hk⟩
    exact (h'.fr hf hd).1
theorem Byz.mono {F G : Nat → Prop} {w : World} {v : Value} {p : List Int} (h : Byz F w v p) (hs : ∀ k, F k → G k) : Byz G w v p := ⟨⟨h.1.1, fun hp k hk => hs k (h.1.2 hp k hk)⟩, h.2⟩
theorem Byz.below {F : Nat → Prop} {w w' : World} {v : Value} {p : List Int} (h : Byz F w v p) (hb : Below w.heap.size w w') : Byz F w' v p := h.fr (G := fun _ => False) (.of_below hb) fun _ _ g => g
theorem Bx.byz {C : Nat → Prop} {w W : World} {a z : Nat} {sl rl ra ov iv : Value} {t : Lk} (h : Bx C w W a z sl rl ra ov iv t) {x : Value} {p : List Int} (hx : Byz (Live C w) w x p) : Byz (Live (fun k => C k ∨ k = a ∨ k = z) W) W x p :=
  (hx.below h.bl).mono fun k hk => ⟨Nat.lt_of_lt_of_le hk.1 h.bl.size, fun g => by
    have h1 := h.ha
    have h2 := h.hz
    have h3 := hk.1
    rcases g with g | g | g
    · exact hk.2 g
    · omega
    · omega⟩

/-- Between two asks. -/
structure CaB (C : Nat → Prop) (w wr : World) (Q : Lk) (l : List Int) (av : Value) (n i : Nat) : Prop where
  ex : ∃ sl rl ra ov iv q, Bx C w wr w.heap.size (w.heap.size + 1 + 1) sl rl ra ov iv q ∧ (q.askAll (l.drop i)).answer = Q ∧ q.out.length ≤ n + i
  rd : Rd (Live (fun k => C k ∨ k = w.heap.size ∨ k = w.heap.size + 1 + 1) wr) (Value.int .i64) wr av l

theorem take_facts {r : Rcv} (h : r.Ok) (ns : Int) (p : List Int) : (r.tells ns p).length ≤ 64 ∧ (r.wants ns p).length ≤ 128 := ⟨tells_le9 h ns p, wants_le ns p⟩
theorem forgot_rel (n k : Nat) (l : List (Int × List Int)) : AskRel ⟨n, k, l, []⟩ [] := ⟨List.nodup_nil, fun _ hx => (by cases hx), fun _ _ => ⟨fun _ => List.not_mem_nil, fun _ => rfl⟩⟩
theorem bnd_nil (m : Nat) : Bnd m [] := fun _ hx => (by cases hx)

set_option maxRecDepth 100000 in
set_option maxHeartbeats 4000000 in
theorem r9came_any (C : Nat → Prop) (w : World) (sl rl ra ov iv : Value) (t : Lk) (h : RfAt C w sl rl ra ov iv t) (hok : LkOk t) {m : Nat} (hbn : Bnd m t.r.asked) (hm : m ≤ 800000) (c : Cn) (x : Value) (hx : Byz (Live C w) w x c.data) (hmo : t.out.length ≤ 700000) (hmi : t.inn.length ≤ 700000) :
    Calls Tryz.prog 76 #[.agg (t.ref sl rl ra ov iv), .agg #[.int .i64 c.kind, .int .i64 c.ns, .int .i64 c.nr, .bool c.p, .int .i64 c.me, .int .i64 c.peer, x]] w fun e w' => Rf9 C w (t.comes c.ns c.nr c.p c.data) e w' := by
  obtain ⟨i1, gi, gz0, gz1, gz2⟩ := info_parts infoPays9
  have HM := Lib.hid hm
  obtain ⟨xo, xc, rfl⟩ : ∃ xo xc, x = .slice xo c.data.length xc := by
    obtain ⟨⟨⟨_, ao, cap, h, _⟩, _⟩, _⟩ := hx
    exact ⟨ao, cap, h⟩
  obtain ⟨W0, hW0, hB0, hc0⟩ := h.boxes3 #[.int .i64 c.kind, .int .i64 c.ns, .int .i64 c.nr, .bool c.p, .int .i64 c.me, .int .i64 c.peer, .slice xo c.data.length xc]
  have B0 := Lib.hid hB0
  have A0 := Lib.hid hB0.ba
  have hx0 := hB0.byz hx
  have HAK := r9ack_any _ W0 _ _ _ _ _ _ hB0.rf hok.s c.nr
  obtain ⟨hka, hko, hki⟩ := ack_grow t c.nr hok
  obtain ⟨hga, hgo, hgi⟩ := goes_grow (t.ack c.nr) hka
  obtain ⟨T0, hT0⟩ : ∃ T, t.ack c.nr = T := ⟨_, rfl⟩
  obtain ⟨T1, hT1⟩ : ∃ T, T0.goes = T := ⟨_, rfl⟩
  obtain ⟨Q, hQ⟩ : ∃ Q, t.comes c.ns c.nr c.p c.data = Q := ⟨_, rfl⟩
  have hr1 : T1.r = t.r := by
    obtain ⟨_, _, h3⟩ := goes_went (t.ack c.nr)
    rw [← hT1, ← hT0, h3.2.2.2.2.2.2.2.2.2.2.1]
    exact (ack_r t c.nr).1
  rw [hT0] at HAK hka hko hki hga hgo hgi
  rw [hT1] at hga hgo hgi
  rw [hQ]
  have HQ00 : Hid (Q = ((if c.p = true then T1.forget else T1).takes c.ns c.data).answer) := by
    rw [← hQ, ← hT1, ← hT0]
    rfl
  have H1 : Hid (LkOk T1 ∧ T1.out.length ≤ 700128 ∧ T1.inn.length ≤ 700000 ∧ Bnd m T1.r.asked) := ⟨hga, by omega, by omega, by rw [hr1]; exact hbn⟩
  have H0 : Hid (T0.s.Ok ∧ T0.out.length ≤ 800000) := ⟨hka.s, by omega⟩
  have j2 : W0.cell? ⟨w.heap.size + 1, 2, none⟩ = some (.int .i64 c.nr) := by rw [cell_of_row _ _ _ _ _ _ hc0]; rfl
  have HC0 := Lib.hid hc0
  have HX0 := Lib.hid hx0
  clear hB0 h hT0 hQ hok hka hko hki hga hgo hgi hr1 hbn hm hmo hmi hx hx0 hc0
  go_enter Tryz.func76, Tryz.ntmps76
  go_wp2_with (first | simp only [hW0] | (with_reducible show wpList _ _ _ (⟨_, .load 38 (.tmp 2), _, _, _, none⟩ :: _) _ _; refine RowKit.Hid.out ?_))
  refine Lib.hid ?_
  refine wpList_load_row rfl 38 (.tmp 2) rfl _ rfl _ _ (0, 0) _ A0.out Tryz.underlying38 rfl infoL9 ?_
  go_wp2_with fail
  refine (HAK).mono ?_
  rintro e W1 ⟨⟨sl1, rl1, ra1, ov1, iv1, rfl, hr1⟩, hb1⟩
  have HGO := r9goes_any _ W1 _ _ _ _ _ _ hr1 H0.out.1 H0.out.2
  rw [hT1] at HGO
  go_wp2_with fail
  refine (HGO).mono ?_
  rintro e W2 ⟨⟨sl2, rl2, ra2, ov2, iv2, rfl, hr2⟩, hb2⟩
  have hb12 := bl_trans hb1 hb2
  go_wp2_with (with_reducible show wpList _ _ _ (⟨_, .store 38 (.tmp 2) (.tmp 15), _, _, _, none⟩ :: _) _ _; refine RowKit.Hid.out ?_)
  refine Lib.hid ?_
  refine wpList_store_row rfl 38 (.tmp 2) (.tmp 15) rfl _ _ rfl rfl _ _ (bl_get hb12 B0.out.ba) infoL9 rfl hr2.one ?_
  have hB2 := B0.out.stored hb12 hr2
  have hF2 := fr_row W2 w.heap.size (Lk.ref T1 sl2 rl2 ra2 ov2 iv2)
  obtain ⟨V2, hV2⟩ : ∃ V, W2.setRow w.heap.size (Lk.ref T1 sl2 rl2 ra2 ov2 iv2) = V := ⟨_, rfl⟩
  rw [hV2] at hB2 hF2 ⊢
  have B2 := Lib.hid hB2
  have A2 := Lib.hid hB2.ba
  clear hB2 hV2
  have hlm2 := B2.out.rf.lim
  have hc2 := hF2.get (bl_get hb12 HC0.out) (by omega)
  have k1 : V2.cell? ⟨w.heap.size + 1, 1, none⟩ = some (.int .i64 c.ns) := by rw [cell_of_row _ _ _ _ _ _ hc2]; rfl
  have k3 : V2.cell? ⟨w.heap.size + 1, 3, none⟩ = some (.bool c.p) := by rw [cell_of_row _ _ _ _ _ _ hc2]; rfl
  have k6 : V2.cell? ⟨w.heap.size + 1, 6, none⟩ = some (.slice xo c.data.length xc) := by rw [cell_of_row _ _ _ _ _ _ hc2]; rfl
  have hx2 : Byz (Live (fun k => C k ∨ k = w.heap.size ∨ k = w.heap.size + 1 + 1) V2) V2 (.slice xo c.data.length xc) c.data := (((HX0.out.below hb12).mono fun k hk => hk.grow hb12.size).fr hF2 fun k hk e => hk.2 (.inr (.inl e))).mono fun k hk => hk.grow hF2.size
  have HX2 := Lib.hid hx2
  clear j2 hlm2 hc2 hx2 hb1 hb2 hb12 hr1 hr2 HAK HGO hT1 A2 HC0 HX0 hF2
  cases hp : c.p with
  | false =>
    rw [hp] at k3
    have HQ0 : Hid (Q = (T1.takes c.ns c.data).answer) := by
      unfold Hid
      rw [HQ00.out, if_neg (by rw [hp]; simp)]
    have HH := H1
    have hBq := B2.out
    have hxq := HX2.out
    clear HQ00 H1 B2 HX2 hp
    have c9 : V2.cell? ⟨w.heap.size, 9, none⟩ = some (.bool T1.held) := hBq.cell 9 rfl
    have hlq := hBq.rf.lim
    cases hhe : T1.held with
    | true =>
      rw [hhe] at c9
      have HQ : Hid (Q = T1.answer) := by
        unfold Hid
        rw [HQ0.out]
        unfold Lk.takes
        rw [if_pos hhe]
      have HAN := r9answer_any _ V2 _ _ _ _ _ _ hBq.rf (by have := HH.out.2.1; omega)
      have Bq := Lib.hid hBq
      have Aq := Lib.hid hBq.ba
      clear hBq HQ0 hhe
      go_wp2_with (with_reducible show wpList _ _ _ (⟨_, .load 38 (.tmp 2), _, _, _, none⟩ :: _) _ _; refine RowKit.Hid.out ?_)
      refine Lib.hid ?_
      refine wpList_load_row rfl 38 (.tmp 2) rfl _ rfl _ _ (0, 0) _ Aq.out Tryz.underlying38 rfl infoL9 ?_
      go_wp2_with fail
      refine (HAN).mono ?_
      rintro e W9 ⟨⟨sl9, rl9, ra9, ov9, iv9, rfl, hr9⟩, hb9⟩
      go_wp2_with (with_reducible show wpList _ _ _ (⟨_, .store 38 (.tmp 4) (.tmp 63), _, _, _, none⟩ :: _) _ _; refine RowKit.Hid.out ?_)
      refine Lib.hid ?_
      obtain ⟨cs, hcs, hz⟩ := Bq.out.bz
      refine wpList_store_row rfl 38 (.tmp 4) (.tmp 63) rfl _ _ rfl rfl _ _ (bl_get hb9 hz) infoL9 hcs hr9.one ?_
      obtain ⟨hret, hrow⟩ := Bq.out.rets hb9 hr9
      go_wp2_with fail
      refine bodyPost_ret (results_cell_row rfl _ _ (w.heap.size + 1 + 1) 38 _ (0, 0) _ rfl hrow Tryz.underlying38 rfl infoL9) rfl ?_
      have hT := HQ.out
      subst hT
      exact hret
    | false =>
      rw [hhe] at c9
      obtain ⟨ko, kn, kc, rfl⟩ : ∃ o n c, rl2 = .slice o n c := hBq.rf.form.2.1
      obtain ⟨uo, un, uc, rfl⟩ : ∃ o n c, ra2 = .slice o n c := hBq.rf.form.2.2.1
      obtain ⟨io, ic, rfl⟩ : ∃ o c, iv2 = .slice o T1.inn.length c := by
        obtain ⟨o, c, e, _⟩ := hBq.rf.inn.form
        exact ⟨o, c, e⟩
      have HTK := r8take_any _ T1.r (.slice ko kn kc) (.slice uo un uc) c.ns (.slice xo c.data.length xc) c.data V2 hBq.rf.lim hBq.rf.kept hBq.rf.asked hxq.1.1 hxq.2 HH.out.1.r HH.out.2.2.2 HM.out
      unfold refR at HTK
      have HTF := Lib.hid (take_facts HH.out.1.r c.ns c.data)
      have HQ1 : Hid (Q = ((T1.taken c.ns c.data).askAll (T1.r.wants c.ns c.data)).answer) := by
        unfold Hid
        rw [HQ0.out]
        unfold Lk.takes
        rw [if_neg (by rw [hhe]; simp)]
      have e14 : V2.cell? ⟨w.heap.size, 14, none⟩ = some (.int .i64 T1.r.size) := hBq.cell 14 rfl
      have e15 : V2.cell? ⟨w.heap.size, 15, none⟩ = some (.int .i64 T1.r.waits) := hBq.cell 15 rfl
      have e16 : V2.cell? ⟨w.heap.size, 16, none⟩ = some (.slice ko kn kc) := hBq.cell 16 rfl
      have e17 : V2.cell? ⟨w.heap.size, 17, none⟩ = some (.slice uo un uc) := hBq.cell 17 rfl
      have Bq := Lib.hid hBq
      clear hBq HQ0 hhe hxq
      go_wp2_with fail
      refine HTK.mono ?_
      rintro e W4 ⟨⟨rl4, ra4, tv, av, A4, rfl, hk4, hA4, hR4, ht4, hw4⟩, hb4⟩
      obtain ⟨r4, hr4⟩ : ∃ r4, T1.r.take c.ns c.data = r4 := ⟨_, rfl⟩
      obtain ⟨te, hte⟩ : ∃ te, T1.r.tells c.ns c.data = te := ⟨_, rfl⟩
      obtain ⟨wa, hwa⟩ : ∃ wa, T1.r.wants c.ns c.data = wa := ⟨_, rfl⟩
      have HQ2 : Hid (Q = ((({ T1 with r := r4, inn := T1.inn ++ te } : Lk)).askAll wa).answer) := by
        unfold Hid
        rw [HQ1.out, ← hr4, ← hte, ← hwa]
        rfl
      rw [hte, hwa] at HTF
      rw [hr4] at hk4 hR4
      rw [hte] at ht4
      rw [hwa] at hw4
      simp only [hr4, refR]
      obtain ⟨ro4, rc4, rfl, _⟩ := hk4.form
      obtain ⟨qo4, qc4, rfl⟩ : ∃ o c, ra4 = .slice o A4.length c := by
        obtain ⟨⟨_, o, c, e, _⟩, _⟩ := hA4
        exact ⟨o, c, e⟩
      obtain ⟨to4, tc4, rfl, _⟩ := ht4.form
      obtain ⟨ao4, ac4, rfl⟩ : ∃ o c, av = .slice o wa.length c := by
        obtain ⟨⟨_, o, c, e, _⟩, _⟩ := hw4
        exact ⟨o, c, e⟩
      clear hr4 hte hwa HQ1 HTK e14 e15 e16 e17
      obtain ⟨V4, hV4⟩ : ∃ V, W4.alloc (.cells #[.int .i64 r4.size, .int .i64 r4.waits, .slice ro4 r4.kept.length rc4, .slice qo4 A4.length qc4] 35) = V := ⟨_, rfl⟩
      have hx4 : V4.heap[W4.heap.size]? = some (.cells #[.int .i64 r4.size, .int .i64 r4.waits, .slice ro4 r4.kept.length rc4, .slice qo4 A4.length qc4] 35 (0, 0)) := hV4 ▸ heap_alloc_new W4 _
      have hbv : Below W4.heap.size W4 V4 := hV4 ▸ bl_alloc (bl_refl W4) _
      have hB4 := (Bq.out.below hb4).below hbv
      obtain ⟨q0, q1, q2, q3⟩ := rc_cells hx4
      have hgl : ∀ k, Live (fun k => C k ∨ k = w.heap.size ∨ k = w.heap.size + 1 + 1) W4 k → Live (fun k => C k ∨ k = w.heap.size ∨ k = w.heap.size + 1 + 1) V4 k := fun k hk => hk.grow hbv.size
      have d14 : V4.cell? ⟨w.heap.size, 14, none⟩ = some (.int .i64 T1.r.size) := hB4.cell 14 rfl
      have d15 : V4.cell? ⟨w.heap.size, 15, none⟩ = some (.int .i64 T1.r.waits) := hB4.cell 15 rfl
      have d16 : V4.cell? ⟨w.heap.size, 16, none⟩ = some (.slice ko kn kc) := hB4.cell 16 rfl
      have d17 : V4.cell? ⟨w.heap.size, 17, none⟩ = some (.slice uo un uc) := hB4.cell 17 rfl
      have z14 := hB4.frozen 14
      have z15 := hB4.frozen 15
      have z16 := hB4.frozen 16
      have z17 := hB4.frozen 17
      have hB5 := hB4.putR (rl' := .slice ro4 r4.kept.length rc4) (ra' := .slice qo4 A4.length qc4) r4 ((hk4.below hbv).mono hgl) ⟨A4, (hA4.below hbv).mono hgl, hR4⟩
      obtain ⟨V5, hV5⟩ : ∃ V, ((((V4.setCell ⟨w.heap.size, 14, none⟩ (.int .i64 r4.size)).setCell ⟨w.heap.size, 15, none⟩ (.int .i64 r4.waits)).setCell ⟨w.heap.size, 16, none⟩ (.slice ro4 r4.kept.length rc4)).setCell ⟨w.heap.size, 17, none⟩ (.slice qo4 A4.length qc4)) = V := ⟨_, rfl⟩
      have hf5 : Fr (fun k => k = w.heap.size) V4 V5 := hV5 ▸ fr_cells4 V4 w.heap.size 14 15 16 17 _ _ _ _
      rw [hV5] at hB5
      have ht5 : Pays (Live (fun k => C k ∨ k = w.heap.size ∨ k = w.heap.size + 1 + 1) V5) V5 (.slice to4 te.length tc4) te := (((ht4.below hbv).mono hgl).fr hf5 fun k hk e => hk.2 (.inr (.inl e))).mono fun k hk => hk.grow hf5.size
      have hw5 : Rd (Live (fun k => C k ∨ k = w.heap.size ∨ k = w.heap.size + 1 + 1) V5) (Value.int .i64) V5 (.slice ao4 wa.length ac4) wa := (((hw4.below hbv).mono hgl).fr hf5 fun k hk e => hk.2 (.inr (.inl e))).mono fun k hk => hk.grow hf5.size
      have d19 : V5.cell? ⟨w.heap.size, 19, none⟩ = some (.slice io T1.inn.length ic) := hB5.cell 19 rfl
      have hlim5 := hB5.rf.lim
      have hHH := HH.out
      have hTF := HTF.out
      obtain ⟨F, hF⟩ : ∃ F, Live (fun k => C k ∨ k = w.heap.size ∨ k = w.heap.size + 1 + 1) V5 = F := ⟨_, rfl⟩
      have hFlt : ∀ k, F k → k < V5.heap.size := fun k hk => by rw [← hF] at hk; exact hk.1
      have hin5 := pays_els hB5.rf.inn
      have hte5 := pays_els ht5
      rw [hF] at hin5 hte5
      have hba := bl_alloc (bl_refl V5) (.cells #[] 44)
      have d19a := below_cell hba d19
      obtain ⟨v6, W6, hrun6, hO6, hg6, hn6⟩ := run_append_els (P := Tryz.prog) (V5.alloc (.cells #[] 44)) V5.heap.size 29 29 44 i1 _ 24 Tryz.underlying29 gi gz0 gz1 gz2 rfl
        (ownEls_empty kPay F V5 (base := V5.heap.size) 44 (Nat.le_refl _)) (ElsX.below hin5 hba) (fun k hk g => by cases hk; exact Nat.lt_irrefl _ (hFlt _ g)) (by simp [maxLen]; omega) (by simp; omega) hba.size
      rw [List.nil_append] at hO6
      obtain ⟨o6, c6, rfl⟩ := hO6.form
      have hb6 : Below V5.heap.size V5 W6 := bl_grown hba hg6 fun k hk => by cases hk; exact Nat.le_refl _
      obtain ⟨v7, W7, hrun7, hO7, hg7, hn7⟩ := run_append_els (P := Tryz.prog) W6 V5.heap.size 29 29 44 i1 _ 24 Tryz.underlying29 gi gz0 gz1 gz2 rfl
        hO6 (ElsX.below hte5 hb6) (fun k hk g => by have := (hO6.lt k hk).1; have := hFlt _ g; omega) (by simp [maxLen]; omega) (by simp; omega) hb6.size
      obtain ⟨o7, c7, hv7⟩ := hO7.form
      rw [List.length_append] at hv7
      have hb7 : Below V5.heap.size V5 W7 := bl_grown hb6 hg7 fun k hk => (hO6.lt k hk).1
      have hB7 := hB5.below hb7
      have z19 := hB7.frozen 19
      have d19' : W7.cell? ⟨w.heap.size, 19, none⟩ = some (.slice io T1.inn.length ic) := hB7.cell 19 rfl
      have hB8 := hB7.put (t' := { T1 with r := r4, inn := T1.inn ++ te }) (iv' := v7) 19 v7 rfl ⟨hB7.rf.lim, hB7.rf.snd, hB7.rf.kept, hB7.rf.asked, hB7.rf.out, by
        refine els_pays ((hO7.els (by rw [List.length_append]; simp [maxLen]; omega)).mono fun k hk => ?_)
        rcases hk with hk | hk
        · rw [← hF] at hk
          exact hk.grow hb7.size
        · exact ⟨hk.2, fun g => by have := hlim5 k g; omega⟩⟩
      subst hv7
      obtain ⟨V8, hV8⟩ : ∃ V, W7.setCell ⟨w.heap.size, 19, none⟩ (.slice o7 (T1.inn.length + te.length) c7) = V := ⟨_, rfl⟩
      have hf8 : Fr (fun k => k = w.heap.size) W7 V8 := hV8 ▸ fr_cell W7 w.heap.size 19 _
      rw [hV8] at hB8
      have hw8 : Rd (Live (fun k => C k ∨ k = w.heap.size ∨ k = w.heap.size + 1 + 1) V8) (Value.int .i64) V8 (.slice ao4 wa.length ac4) wa := (((hw5.below hb7).mono fun k hk => hk.grow hb7.size).fr hf8 fun k hk e => hk.2 (.inr (.inl e))).mono fun k hk => hk.grow hf8.size
      have HR6 := Lib.hid hrun6
      have HR7 := Lib.hid hrun7
      have HC0 : Hid (CaB C w V8 Q wa (.slice ao4 wa.length ac4) 700128 0) := ⟨⟨_, _, _, _, _, _, hB8, HQ2.out.symm, hHH.2.1⟩, hw8⟩
      have HWL : Hid (wa.length ≤ 128) := hTF.2
      clear hB4 hB5 hB7 hB8 hx4 hbv hgl hk4 hA4 ht4 hw4 hR4 ht5 hw5 hw8 hlim5 hHH hTF hin5 hte5 hF hFlt hO6 hO7 hg6 hg7 hn6 hn7 hb6 hb7 hf5 hf8 hrun6 hrun7 hba HQ2 HTF
      go_wp2_with (first | (at_builtin; refine wpList_append_run rfl (.tmp 39) (.tmp 41) 29 rfl rfl rfl HR6.out ?_) | (at_builtin; refine wpList_append_run rfl (.tmp 43) (.tmp 44) 29 rfl rfl rfl HR7.out ?_))
      go_loopw [10] (fun iv wr => ∃ i : Nat, iv = .int .i64 i ∧ i ≤ wa.length ∧ Hid (CaB C w wr Q wa (.slice ao4 wa.length ac4) 700128 i)) (fun iv _ => 129 - (intOf iv).toNat)
      case atStart => exact ⟨0, rfl, by omega, HC0⟩
      case round =>
        clear HC0 HR6 HR7
        obtain ⟨i, rfl, hi, HG⟩ := hrel
        obtain ⟨sl', rl', ra', ov', iv', q, hB, hgo, hlen⟩ := HG.out.ex
        have hwl := HWL.out
        by_cases hlt : i < wa.length
        · obtain ⟨n, hn⟩ := get_some hlt
          obtain ⟨_, ao', cap', he, _, hc'⟩ := HG.out.rd.1
          simp only [Value.slice.injEq, true_and] at he
          obtain ⟨rfl, rfl⟩ := he
          obtain ⟨b, ob, rfl, hcell⟩ := hc' i n hn
          have hdr : wa.drop i = n :: wa.drop (i + 1) := by
            rw [List.drop_eq_getElem_cons hlt]
            congr 1
            exact (List.getElem?_eq_some_iff.1 hn).2
          have hgo' : ((q.ask n).askAll (wa.drop (i + 1))).answer = Q := by rw [← hgo, hdr]; rfl
          have hb1 : wr.cell? ⟨w.heap.size, 1, none⟩ = some (.int .i64 q.peer) := hB.cell 1 rfl
          have hS : ∀ w' : World, Below wr.heap.size wr w' → (fun w' => w'.heap[w.heap.size]? = some (.cells (q.ref sl' rl' ra' ov' iv') 38 (0, 0)) ∧ w'.cell? ⟨w.heap.size, 1, none⟩ = some (.int .i64 q.peer) ∧ w'.cell? ⟨b, ob + i, none⟩ = some (.int .i64 n)) w' := fun w' hb => ⟨bl_get hb hB.ba, below_cell hb hb1, below_cell hb hcell⟩
          have HS := Lib.hid hS
          have HSN := r9send_any _ wr.drew _ _ _ _ _ _ (hB.rf.below (bl_drew (bl_refl wr))) ⟨4, 0, n, false, 0, q.peer, []⟩ _ (byt_nil _ _) (by omega)
          have B0 := Lib.hid hB
          have HGO := Lib.hid hgo'
          have HRD := Lib.hid HG.out.rd
          have f0 : (0 : Int) ≤ (i : Int) := by omega
          have f1 : (i : Int) < (wa.length : Int) := by omega
          clear hB hS hc' hcell hgo hdr hgo' hn
          go_wp2_with fail
          refine wp_region_order (fun w' => w'.heap[w.heap.size]? = some (.cells (q.ref sl' rl' ra' ov' iv') 38 (0, 0)) ∧ w'.cell? ⟨w.heap.size, 1, none⟩ = some (.int .i64 q.peer) ∧ w'.cell? ⟨b, ob + i, none⟩ = some (.int .i64 n))
            [(0, 1), (1, 0), (2, 0), (3, 0), (4, 1), (5, 0), (6, 1), (7, 0), (8, 2)] [(9, false)] [9] []
            (by kernel_rfl) (fun _ _ d _ _ h => by cases d <;> exact h) (by decide +kernel) (HS.out _ (bl_drew (bl_refl wr))) ?_
          refine wpHead_take (v := .agg (q.ref sl' rl' ra' ov' iv')) rfl (by rfl) (fun w1 h1 => exec_load_row 38 (.tmp 2) rfl w.heap.size rfl _ _ (0, 0) _ h1.1 Tryz.underlying38 rfl infoL9) ?_
          simp only [Act.put, List.setIfInBounds_toArray]
          iterate 3
            refine wpHead_free (v := ?_) rfl (by rfl) ?_ ?_
            rotate_left
            focus (intro w1; go_simp; try with_reducible rfl)
            simp only [Act.put]
          refine wpHead_take (v := ?_) rfl (by rfl) ?_ ?_
          rotate_left
          focus (rintro w1 ⟨q0, q1, q2⟩; go_simp; try with_reducible rfl)
          simp only [Act.put]
          refine wpHead_free (v := ?_) rfl (by rfl) ?_ ?_
          rotate_left
          focus (intro w1; go_simp; try with_reducible rfl)
          simp only [Act.put]
          refine wpHead_take (v := ?_) rfl (by rfl) ?_ ?_
          rotate_left
          focus (rintro w1 ⟨q0, q1, q2⟩; go_simp; try with_reducible rfl)
          simp only [Act.put]
          refine wpHead_free (v := ?_) rfl (by rfl) ?_ ?_
          rotate_left
          focus (intro w1; go_simp; try with_reducible rfl)
          simp only [Act.put]
          refine wpHead_step rfl (by rfl) (fun K hK => ?_)
          go_simp; go_at_call 40
          refine HSN.mono ?_; rintro e W9 ⟨⟨sl9, rl9, ra9, ov9, iv9, rfl, hr9⟩, hb9⟩; simp only []
          have hb9' := bl_trans (bl_drew (bl_refl wr)) hb9
          refine hK.out _ _ (HS.out _ hb9') ?_
          clear hK K
          try simp only [Act.put, List.setIfInBounds_toArray]
          refine wpHead_nil ?_
          refine wpTail_step rfl (by rfl) (fun K hK => ?_)
          refine wp_store_row 38 (.tmp 2) (.tmp 61) rfl w.heap.size _ rfl rfl _ _ (bl_get hb9' B0.out.ba) infoL9 rfl hr9.one ?_
          refine hK.out _ _ ?_
          clear hK K
          try simp only [Act.put, List.setIfInBounds_toArray]
          refine wpTail_nil ?_
          have hBn := B0.out.stored hb9' hr9
          have hFn := fr_row W9 w.heap.size (Lk.ref (q.send ⟨4, 0, n, false, 0, q.peer, []⟩) sl9 rl9 ra9 ov9 iv9)
          have hrd := (((HRD.out.below hb9').mono fun k hk => hk.grow hb9'.size).fr hFn fun k hk e => hk.2 (.inr (.inl e))).mono fun k hk => hk.grow hFn.size
          have HN : Hid (CaB C w (W9.setRow w.heap.size (Lk.ref (q.send ⟨4, 0, n, false, 0, q.peer, []⟩) sl9 rl9 ra9 ov9 iv9)) Q wa (.slice (some ⟨b, ob, none⟩) wa.length ac4) 700128 (i + 1)) := by
            refine ⟨⟨_, _, _, _, _, _, hBn, HGO.out, ?_⟩, hrd⟩
            show (q.out ++ [_]).length ≤ _
            rw [List.length_append]
            simp
            omega
          clear hb1 hb9 hb9' hr9 HSN hBn hFn hrd
          go_wp2
          go_roundw
          case rel => exact ⟨i + 1, by go_num, by omega, HN⟩
          case measure => simp [intOf]; omega
        · obtain rfl : i = wa.length := by omega
          have hgo' : q.answer = Q := by rw [← hgo, List.drop_length]; rfl
          subst hgo'
          have HAN := r9answer_any _ wr _ _ _ _ _ _ hB.rf (by omega)
          have Bq := Lib.hid hB
          have Aq := Lib.hid hB.ba
          clear hB hgo hlen HG
          go_wp2_with (with_reducible show wpList _ _ _ (⟨_, .load 38 (.tmp 2), _, _, _, none⟩ :: _) _ _; refine RowKit.Hid.out ?_)
          refine Lib.hid ?_
          refine wpList_load_row rfl 38 (.tmp 2) rfl _ rfl _ _ (0, 0) _ Aq.out Tryz.underlying38 rfl infoL9 ?_
          go_wp2_with fail
          refine (HAN).mono ?_
          rintro e W9 ⟨⟨sl9, rl9, ra9, ov9, iv9, rfl, hr9⟩, hb9⟩
          go_wp2_with (with_reducible show wpList _ _ _ (⟨_, .store 38 (.tmp 4) (.tmp 63), _, _, _, none⟩ :: _) _ _; refine RowKit.Hid.out ?_)
          refine Lib.hid ?_
          obtain ⟨cs, hcs, hz⟩ := Bq.out.bz
          refine wpList_store_row rfl 38 (.tmp 4) (.tmp 63) rfl _ _ rfl rfl _ _ (bl_get hb9 hz) infoL9 hcs hr9.one ?_
          obtain ⟨hret, hrow⟩ := Bq.out.rets hb9 hr9
          go_wp2_with fail
          refine bodyPost_ret (results_cell_row rfl _ _ (w.heap.size + 1 + 1) 38 _ (0, 0) _ rfl hrow Tryz.underlying38 rfl infoL9) rfl ?_
          exact hret
  | true =>
    rw [hp] at k3
    have HQ0 : Hid (Q = (T1.forget.takes c.ns c.data).answer) := by
      unfold Hid
      rw [HQ00.out, if_pos hp]
    obtain ⟨fo, fn, fc, rfl⟩ : ∃ o n c, rl2 = .slice o n c := B2.out.rf.form.2.1
    obtain ⟨go, gn, gc, rfl⟩ : ∃ o n c, ra2 = .slice o n c := B2.out.rf.form.2.2.1
    have c14 : V2.cell? ⟨w.heap.size, 14, none⟩ = some (.int .i64 T1.r.size) := B2.out.cell 14 rfl
    have c15 : V2.cell? ⟨w.heap.size, 15, none⟩ = some (.int .i64 T1.r.waits) := B2.out.cell 15 rfl
    have c16 : V2.cell? ⟨w.heap.size, 16, none⟩ = some (.slice fo fn fc) := B2.out.cell 16 rfl
    have c17 : V2.cell? ⟨w.heap.size, 17, none⟩ = some (.slice go gn gc) := B2.out.cell 17 rfl
    have HF := r8forget_any T1.r fo fn fc (.slice go gn gc) V2
    unfold refR at HF
    go_wp2_with fail
    refine HF.mono ?_
    rintro e W3 ⟨rfl, hb3⟩
    have hB3 := B2.out.below hb3
    have m1 := below_cell hb3 k1
    have m3 := below_cell hb3 k3
    have m6 := below_cell hb3 k6
    have d14 : W3.cell? ⟨w.heap.size, 14, none⟩ = some (.int .i64 T1.r.size) := hB3.cell 14 rfl
    have d15 : W3.cell? ⟨w.heap.size, 15, none⟩ = some (.int .i64 T1.r.waits) := hB3.cell 15 rfl
    have d16 : W3.cell? ⟨w.heap.size, 16, none⟩ = some (.slice fo fn fc) := hB3.cell 16 rfl
    have d17 : W3.cell? ⟨w.heap.size, 17, none⟩ = some (.slice go gn gc) := hB3.cell 17 rfl
    have z14 := hB3.frozen 14
    have z15 := hB3.frozen 15
    have z16 := hB3.frozen 16
    have z17 := hB3.frozen 17
    have hB4 := hB3.putR (rl' := .slice fo fn fc) (ra' := .slice none 0 0) { T1.r with asked := [] } hB3.rf.kept ⟨[], rd_nil _ _ _, forgot_rel _ _ _⟩
    obtain ⟨V3, hV3⟩ : ∃ V, ((((W3.setCell ⟨w.heap.size, 14, none⟩ (.int .i64 T1.r.size)).setCell ⟨w.heap.size, 15, none⟩ (.int .i64 T1.r.waits)).setCell ⟨w.heap.size, 16, none⟩ (.slice fo fn fc)).setCell ⟨w.heap.size, 17, none⟩ (.slice none 0 0)) = V := ⟨_, rfl⟩
    have hf3 : Fr (fun k => k = w.heap.size) W3 V3 := hV3 ▸ fr_cells4 W3 w.heap.size 14 15 16 17 _ _ _ _
    have n1 := hf3.cell m1 (by omega)
    have n6 := hf3.cell m6 (by omega)
    have hBq : Bx C w V3 w.heap.size (w.heap.size + 1 + 1) sl2 (.slice fo fn fc) (.slice none 0 0) ov2 iv2 T1.forget := by rw [← hV3]; exact hB4
    have hxq : Byz (Live (fun k => C k ∨ k = w.heap.size ∨ k = w.heap.size + 1 + 1) V3) V3 (.slice xo c.data.length xc) c.data := (((HX2.out.below hb3).mono fun k hk => hk.grow hb3.size).fr hf3 fun k hk e => hk.2 (.inr (.inl e))).mono fun k hk => hk.grow hf3.size
    have HH : Hid (LkOk T1.forget ∧ T1.forget.out.length ≤ 700128 ∧ T1.forget.inn.length ≤ 700000 ∧ Bnd m T1.forget.r.asked) := ⟨⟨H1.out.1.me, H1.out.1.s, forget_ok H1.out.1.r⟩, H1.out.2.1, H1.out.2.2.1, bnd_nil m⟩
    obtain ⟨T2, hT2⟩ : ∃ T, T1.forget = T := ⟨_, rfl⟩
    rw [hT2] at hBq HH HQ0
    clear hB3 hB4 hf3 HQ00 H1 B2 HX2 hp c14 c15 c16 c17 k1 k3 k6 m1 m3 m6 hb3 HF hT2
    have c9 : V3.cell? ⟨w.heap.size, 9, none⟩ = some (.bool T2.held) := hBq.cell 9 rfl
    have hlq := hBq.rf.lim
    cases hhe : T2.held with
    | true =>
      rw [hhe] at c9
      have HQ : Hid (Q = T2.answer) := by
        unfold Hid
        rw [HQ0.out]
        unfold Lk.takes
        rw [if_pos hhe]
      have HAN := r9answer_any _ V3 _ _ _ _ _ _ hBq.rf (by have := HH.out.2.1; omega)
      have Bq := Lib.hid hBq
      have Aq := Lib.hid hBq.ba
      clear hBq HQ0 hhe
      go_wp2_with (with_reducible show wpList _ _ _ (⟨_, .load 38 (.tmp 2), _, _, _, none⟩ :: _) _ _; refine RowKit.Hid.out ?_)
      refine Lib.hid ?_
      refine wpList_load_row rfl 38 (.tmp 2) rfl _ rfl _ _ (0, 0) _ Aq.out Tryz.underlying38 rfl infoL9 ?_
      go_wp2_with fail
      refine (HAN).mono ?_
      rintro e W9 ⟨⟨sl9, rl9, ra9, ov9, iv9, rfl, hr9⟩, hb9⟩
      go_wp2_with (with_reducible show wpList _ _ _ (⟨_, .store 38 (.tmp 4) (.tmp 63), _, _, _, none⟩ :: _) _ _; refine RowKit.Hid.out ?_)
      refine Lib.hid ?_
      obtain ⟨cs, hcs, hz⟩ := Bq.out.bz
      refine wpList_store_row rfl 38 (.tmp 4) (.tmp 63) rfl _ _ rfl rfl _ _ (bl_get hb9 hz) infoL9 hcs hr9.one ?_
      obtain ⟨hret, hrow⟩ := Bq.out.rets hb9 hr9
      go_wp2_with fail
      refine bodyPost_ret (results_cell_row rfl _ _ (w.heap.size + 1 + 1) 38 _ (0, 0) _ rfl hrow Tryz.underlying38 rfl infoL9) rfl ?_
      have hT := HQ.out
      subst hT
      exact hret
    | false =>
      rw [hhe] at c9
    
    
      obtain ⟨io, ic, rfl⟩ : ∃ o c, iv2 = .slice o T2.inn.length c := by
        obtain ⟨o, c, e, _⟩ := hBq.rf.inn.form
        exact ⟨o, c, e⟩
      have HTK := r8take_any _ T2.r (.slice fo fn fc) (.slice none 0 0) c.ns (.slice xo c.data.length xc) c.data V3 hBq.rf.lim hBq.rf.kept hBq.rf.asked hxq.1.1 hxq.2 HH.out.1.r HH.out.2.2.2 HM.out
      unfold refR at HTK
      have HTF := Lib.hid (take_facts HH.out.1.r c.ns c.data)
      have HQ1 : Hid (Q = ((T2.taken c.ns c.data).askAll (T2.r.wants c.ns c.data)).answer) := by
        unfold Hid
        rw [HQ0.out]
        unfold Lk.takes
        rw [if_neg (by rw [hhe]; simp)]
      have e14 : V3.cell? ⟨w.heap.size, 14, none⟩ = some (.int .i64 T2.r.size) := hBq.cell 14 rfl
      have e15 : V3.cell? ⟨w.heap.size, 15, none⟩ = some (.int .i64 T2.r.waits) := hBq.cell 15 rfl
      have e16 : V3.cell? ⟨w.heap.size, 16, none⟩ = some (.slice fo fn fc) := hBq.cell 16 rfl
      have e17 : V3.cell? ⟨w.heap.size, 17, none⟩ = some (.slice none 0 0) := hBq.cell 17 rfl
      have Bq := Lib.hid hBq
      clear hBq HQ0 hhe hxq
      go_wp2_with fail
      refine HTK.mono ?_
      rintro e W4 ⟨⟨rl4, ra4, tv, av, A4, rfl, hk4, hA4, hR4, ht4, hw4⟩, hb4⟩
      obtain ⟨r4, hr4⟩ : ∃ r4, T2.r.take c.ns c.data = r4 := ⟨_, rfl⟩
      obtain ⟨te, hte⟩ : ∃ te, T2.r.tells c.ns c.data = te := ⟨_, rfl⟩
      obtain ⟨wa, hwa⟩ : ∃ wa, T2.r.wants c.ns c.data = wa := ⟨_, rfl⟩
      have HQ2 : Hid (Q = ((({ T2 with r := r4, inn := T2.inn ++ te } : Lk)).askAll wa).answer) := by
        unfold Hid
        rw [HQ1.out, ← hr4, ← hte, ← hwa]
        rfl
      rw [hte, hwa] at HTF
      rw [hr4] at hk4 hR4
      rw [hte] at ht4
      rw [hwa] at hw4
      simp only [hr4, refR]
      obtain ⟨ro4, rc4, rfl, _⟩ := hk4.form
      obtain ⟨qo4, qc4, rfl⟩ : ∃ o c, ra4 = .slice o A4.length c := by
        obtain ⟨⟨_, o, c, e, _⟩, _⟩ := hA4
        exact ⟨o, c, e⟩
      obtain ⟨to4, tc4, rfl, _⟩ := ht4.form
      obtain ⟨ao4, ac4, rfl⟩ : ∃ o c, av = .slice o wa.length c := by
        obtain ⟨⟨_, o, c, e, _⟩, _⟩ := hw4
        exact ⟨o, c, e⟩
      clear hr4 hte hwa HQ1 HTK e14 e15 e16 e17
      obtain ⟨V4, hV4⟩ : ∃ V, W4.alloc (.cells #[.int .i64 r4.size, .int .i64 r4.waits, .slice ro4 r4.kept.length rc4, .slice qo4 A4.length qc4] 35) = V := ⟨_, rfl⟩
      have hx4 : V4.heap[W4.heap.size]? = some (.cells #[.int .i64 r4.size, .int .i64 r4.waits, .slice ro4 r4.kept.length rc4, .slice qo4 A4.length qc4] 35 (0, 0)) := hV4 ▸ heap_alloc_new W4 _
      have hbv : Below W4.heap.size W4 V4 := hV4 ▸ bl_alloc (bl_refl W4) _
      have hB4 := (Bq.out.below hb4).below hbv
      obtain ⟨q0, q1, q2, q3⟩ := rc_cells hx4
      have hgl : ∀ k, Live (fun k => C k ∨ k = w.heap.size ∨ k = w.heap.size + 1 + 1) W4 k → Live (fun k => C k ∨ k = w.heap.size ∨ k = w.heap.size + 1 + 1) V4 k := fun k hk => hk.grow hbv.size
      have d14 : V4.cell? ⟨w.heap.size, 14, none⟩ = some (.int .i64 T2.r.size) := hB4.cell 14 rfl
      have d15 : V4.cell? ⟨w.heap.size, 15, none⟩ = some (.int .i64 T2.r.waits) := hB4.cell 15 rfl
      have d16 : V4.cell? ⟨w.heap.size, 16, none⟩ = some (.slice fo fn fc) := hB4.cell 16 rfl
      have d17 : V4.cell? ⟨w.heap.size, 17, none⟩ = some (.slice none 0 0) := hB4.cell 17 rfl
      have z14 := hB4.frozen 14
      have z15 := hB4.frozen 15
      have z16 := hB4.frozen 16
      have z17 := hB4.frozen 17
      have hB5 := hB4.putR (rl' := .slice ro4 r4.kept.length rc4) (ra' := .slice qo4 A4.length qc4) r4 ((hk4.below hbv).mono hgl) ⟨A4, (hA4.below hbv).mono hgl, hR4⟩
      obtain ⟨V5, hV5⟩ : ∃ V, ((((V4.setCell ⟨w.heap.size, 14, none⟩ (.int .i64 r4.size)).setCell ⟨w.heap.size, 15, none⟩ (.int .i64 r4.waits)).setCell ⟨w.heap.size, 16, none⟩ (.slice ro4 r4.kept.length rc4)).setCell ⟨w.heap.size, 17, none⟩ (.slice qo4 A4.length qc4)) = V := ⟨_, rfl⟩
      have hf5 : Fr (fun k => k = w.heap.size) V4 V5 := hV5 ▸ fr_cells4 V4 w.heap.size 14 15 16 17 _ _ _ _
      rw [hV5] at hB5
      have ht5 : Pays (Live (fun k => C k ∨ k = w.heap.size ∨ k = w.heap.size + 1 + 1) V5) V5 (.slice to4 te.length tc4) te := (((ht4.below hbv).mono hgl).fr hf5 fun k hk e => hk.2 (.inr (.inl e))).mono fun k hk => hk.grow hf5.size
      have hw5 : Rd (Live (fun k => C k ∨ k = w.heap.size ∨ k = w.heap.size + 1 + 1) V5) (Value.int .i64) V5 (.slice ao4 wa.length ac4) wa := (((hw4.below hbv).mono hgl).fr hf5 fun k hk e => hk.2 (.inr (.inl e))).mono fun k hk => hk.grow hf5.size
      have d19 : V5.cell? ⟨w.heap.size, 19, none⟩ = some (.slice io T2.inn.length ic) := hB5.cell 19 rfl
      have hlim5 := hB5.rf.lim
      have hHH := HH.out
      have hTF := HTF.out
      obtain ⟨F, hF⟩ : ∃ F, Live (fun k => C k ∨ k = w.heap.size ∨ k = w.heap.size + 1 + 1) V5 = F := ⟨_, rfl⟩
      have hFlt : ∀ k, F k → k < V5.heap.size := fun k hk => by rw [← hF] at hk; exact hk.1
      have hin5 := pays_els hB5.rf.inn
      have hte5 := pays_els ht5
      rw [hF] at hin5 hte5
      have hba := bl_alloc (bl_refl V5) (.cells #[] 44)
      have d19a := below_cell hba d19
      obtain ⟨v6, W6, hrun6, hO6, hg6, hn6⟩ := run_append_els (P := Tryz.prog) (V5.alloc (.cells #[] 44)) V5.heap.size 29 29 44 i1 _ 24 Tryz.underlying29 gi gz0 gz1 gz2 rfl
        (ownEls_empty kPay F V5 (base := V5.heap.size) 44 (Nat.le_refl _)) (ElsX.below hin5 hba) (fun k hk g => by cases hk; exact Nat.lt_irrefl _ (hFlt _ g)) (by simp [maxLen]; omega) (by simp; omega) hba.size
      rw [List.nil_append] at hO6
      obtain ⟨o6, c6, rfl⟩ := hO6.form
      have hb6 : Below V5.heap.size V5 W6 := bl_grown hba hg6 fun k hk => by cases hk; exact Nat.le_refl _
      obtain ⟨v7, W7, hrun7, hO7, hg7, hn7⟩ := run_append_els (P := Tryz.prog) W6 V5.heap.size 29 29 44 i1 _ 24 Tryz.underlying29 gi gz0 gz1 gz2 rfl
        hO6 (ElsX.below hte5 hb6) (fun k hk g => by have := (hO6.lt k hk).1; have := hFlt _ g; omega) (by simp [maxLen]; omega) (by simp; omega) hb6.size
      obtain ⟨o7, c7, hv7⟩ := hO7.form
      rw [List.length_append] at hv7
      have hb7 : Below V5.heap.size V5 W7 := bl_grown hb6 hg7 fun k hk => (hO6.lt k hk).1
      have hB7 := hB5.below hb7
      have z19 := hB7.frozen 19
      have d19' : W7.cell? ⟨w.heap.size, 19, none⟩ = some (.slice io T2.inn.length ic) := hB7.cell 19 rfl
      have hB8 := hB7.put (t' := { T2 with r := r4, inn := T2.inn ++ te }) (iv' := v7) 19 v7 rfl ⟨hB7.rf.lim, hB7.rf.snd, hB7.rf.kept, hB7.rf.asked, hB7.rf.out, by
        refine els_pays ((hO7.els (by rw [List.length_append]; simp [maxLen]; omega)).mono fun k hk => ?_)
        rcases hk with hk | hk
        · rw [← hF] at hk
          exact hk.grow hb7.size
        · exact ⟨hk.2, fun g => by have := hlim5 k g; omega⟩⟩
      subst hv7
      obtain ⟨V8, hV8⟩ : ∃ V, W7.setCell ⟨w.heap.size, 19, none⟩ (.slice o7 (T2.inn.length + te.length) c7) = V := ⟨_, rfl⟩
      have hf8 : Fr (fun k => k = w.heap.size) W7 V8 := hV8 ▸ fr_cell W7 w.heap.size 19 _
      rw [hV8] at hB8
      have hw8 : Rd (Live (fun k => C k ∨ k = w.heap.size ∨ k = w.heap.size + 1 + 1) V8) (Value.int .i64) V8 (.slice ao4 wa.length ac4) wa := (((hw5.below hb7).mono fun k hk => hk.grow hb7.size).fr hf8 fun k hk e => hk.2 (.inr (.inl e))).mono fun k hk => hk.grow hf8.size
      have HR6 := Lib.hid hrun6
      have HR7 := Lib.hid hrun7
      have HC0 : Hid (CaB C w V8 Q wa (.slice ao4 wa.length ac4) 700128 0) := ⟨⟨_, _, _, _, _, _, hB8, HQ2.out.symm, hHH.2.1⟩, hw8⟩
      have HWL : Hid (wa.length ≤ 128) := hTF.2
      clear hB4 hB5 hB7 hB8 hx4 hbv hgl hk4 hA4 ht4 hw4 hR4 ht5 hw5 hw8 hlim5 hHH hTF hin5 hte5 hF hFlt hO6 hO7 hg6 hg7 hn6 hn7 hb6 hb7 hf5 hf8 hrun6 hrun7 hba HQ2 HTF
      go_wp2_with (first | (at_builtin; refine wpList_append_run rfl (.tmp 39) (.tmp 41) 29 rfl rfl rfl HR6.out ?_) | (at_builtin; refine wpList_append_run rfl (.tmp 43) (.tmp 44) 29 rfl rfl rfl HR7.out ?_))
      go_loopw [10] (fun iv wr => ∃ i : Nat, iv = .int .i64 i ∧ i ≤ wa.length ∧ Hid (CaB C w wr Q wa (.slice ao4 wa.length ac4) 700128 i)) (fun iv _ => 129 - (intOf iv).toNat)
      case atStart => exact ⟨0, rfl, by omega, HC0⟩
      case round =>
        clear HC0 HR6 HR7
        obtain ⟨i, rfl, hi, HG⟩ := hrel
        obtain ⟨sl', rl', ra', ov', iv', q, hB, hgo, hlen⟩ := HG.out.ex
        have hwl := HWL.out
        by_cases hlt : i < wa.length
        · obtain ⟨n, hn⟩ := get_some hlt
          obtain ⟨_, ao', cap', he, _, hc'⟩ := HG.out.rd.1
          simp only [Value.slice.injEq, true_and] at he
          obtain ⟨rfl, rfl⟩ := he
          obtain ⟨b, ob, rfl, hcell⟩ := hc' i n hn
          have hdr : wa.drop i = n :: wa.drop (i + 1) := by
            rw [List.drop_eq_getElem_cons hlt]
            congr 1
            exact (List.getElem?_eq_some_iff.1 hn).2
          have hgo' : ((q.ask n).askAll (wa.drop (i + 1))).answer = Q := by rw [← hgo, hdr]; rfl
          have hb1 : wr.cell? ⟨w.heap.size, 1, none⟩ = some (.int .i64 q.peer) := hB.cell 1 rfl
          have hS : ∀ w' : World, Below wr.heap.size wr w' → (fun w' => w'.heap[w.heap.size]? = some (.cells (q.ref sl' rl' ra' ov' iv') 38 (0, 0)) ∧ w'.cell? ⟨w.heap.size, 1, none⟩ = some (.int .i64 q.peer) ∧ w'.cell? ⟨b, ob + i, none⟩ = some (.int .i64 n)) w' := fun w' hb => ⟨bl_get hb hB.ba, below_cell hb hb1, below_cell hb hcell⟩
          have HS := Lib.hid hS
          have HSN := r9send_any _ wr.drew _ _ _ _ _ _ (hB.rf.below (bl_drew (bl_refl wr))) ⟨4, 0, n, false, 0, q.peer, []⟩ _ (byt_nil _ _) (by omega)
          have B0 := Lib.hid hB
          have HGO := Lib.hid hgo'
          have HRD := Lib.hid HG.out.rd
          have f0 : (0 : Int) ≤ (i : Int) := by omega
          have f1 : (i : Int) < (wa.length : Int) := by omega
          clear hB hS hc' hcell hgo hdr hgo' hn
          go_wp2_with fail
          refine wp_region_order (fun w' => w'.heap[w.heap.size]? = some (.cells (q.ref sl' rl' ra' ov' iv') 38 (0, 0)) ∧ w'.cell? ⟨w.heap.size, 1, none⟩ = some (.int .i64 q.peer) ∧ w'.cell? ⟨b, ob + i, none⟩ = some (.int .i64 n))
            [(0, 1), (1, 0), (2, 0), (3, 0), (4, 1), (5, 0), (6, 1), (7, 0), (8, 2)] [(9, false)] [9] []
            (by kernel_rfl) (fun _ _ d _ _ h => by cases d <;> exact h) (by decide +kernel) (HS.out _ (bl_drew (bl_refl wr))) ?_
          refine wpHead_take (v := .agg (q.ref sl' rl' ra' ov' iv')) rfl (by rfl) (fun w1 h1 => exec_load_row 38 (.tmp 2) rfl w.heap.size rfl _ _ (0, 0) _ h1.1 Tryz.underlying38 rfl infoL9) ?_
          simp only [Act.put, List.setIfInBounds_toArray]
          iterate 3
            refine wpHead_free (v := ?_) rfl (by rfl) ?_ ?_
            rotate_left
            focus (intro w1; go_simp; try with_reducible rfl)
            simp only [Act.put]
          refine wpHead_take (v := ?_) rfl (by rfl) ?_ ?_
          rotate_left
          focus (rintro w1 ⟨q0, q1, q2⟩; go_simp; try with_reducible rfl)
          simp only [Act.put]
          refine wpHead_free (v := ?_) rfl (by rfl) ?_ ?_
          rotate_left
          focus (intro w1; go_simp; try with_reducible rfl)
          simp only [Act.put]
          refine wpHead_take (v := ?_) rfl (by rfl) ?_ ?_
          rotate_left
          focus (rintro w1 ⟨q0, q1, q2⟩; go_simp; try with_reducible rfl)
          simp only [Act.put]
          refine wpHead_free (v := ?_) rfl (by rfl) ?_ ?_
          rotate_left
          focus (intro w1; go_simp; try with_reducible rfl)
          simp only [Act.put]
          refine wpHead_step rfl (by rfl) (fun K hK => ?_)
          go_simp; go_at_call 40
          refine HSN.mono ?_; rintro e W9 ⟨⟨sl9, rl9, ra9, ov9, iv9, rfl, hr9⟩, hb9⟩; simp only []
          have hb9' := bl_trans (bl_drew (bl_refl wr)) hb9
          refine hK.out _ _ (HS.out _ hb9') ?_
          clear hK K
          try simp only [Act.put, List.setIfInBounds_toArray]
          refine wpHead_nil ?_
          refine wpTail_step rfl (by rfl) (fun K hK => ?_)
          refine wp_store_row 38 (.tmp 2) (.tmp 61) rfl w.heap.size _ rfl rfl _ _ (bl_get hb9' B0.out.ba) infoL9 rfl hr9.one ?_
          refine hK.out _ _ ?_
          clear hK K
          try simp only [Act.put, List.setIfInBounds_toArray]
          refine wpTail_nil ?_
          have hBn := B0.out.stored hb9' hr9
          have hFn := fr_row W9 w.heap.size (Lk.ref (q.send ⟨4, 0, n, false, 0, q.peer, []⟩) sl9 rl9 ra9 ov9 iv9)
          have hrd := (((HRD.out.below hb9').mono fun k hk => hk.grow hb9'.size).fr hFn fun k hk e => hk.2 (.inr (.inl e))).mono fun k hk => hk.grow hFn.size
          have HN : Hid (CaB C w (W9.setRow w.heap.size (Lk.ref (q.send ⟨4, 0, n, false, 0, q.peer, []⟩) sl9 rl9 ra9 ov9 iv9)) Q wa (.slice (some ⟨b, ob, none⟩) wa.length ac4) 700128 (i + 1)) := by
            refine ⟨⟨_, _, _, _, _, _, hBn, HGO.out, ?_⟩, hrd⟩
            show (q.out ++ [_]).length ≤ _
            rw [List.length_append]
            simp
            omega
          clear hb1 hb9 hb9' hr9 HSN hBn hFn hrd
          go_wp2
          go_roundw
          case rel => exact ⟨i + 1, by go_num, by omega, HN⟩
          case measure => simp [intOf]; omega
        · obtain rfl : i = wa.length := by omega
          have hgo' : q.answer = Q := by rw [← hgo, List.drop_length]; rfl
          subst hgo'
          have HAN := r9answer_any _ wr _ _ _ _ _ _ hB.rf (by omega)
          have Bq := Lib.hid hB
          have Aq := Lib.hid hB.ba
          clear hB hgo hlen HG
          go_wp2_with (with_reducible show wpList _ _ _ (⟨_, .load 38 (.tmp 2), _, _, _, none⟩ :: _) _ _; refine RowKit.Hid.out ?_)
          refine Lib.hid ?_
          refine wpList_load_row rfl 38 (.tmp 2) rfl _ rfl _ _ (0, 0) _ Aq.out Tryz.underlying38 rfl infoL9 ?_
          go_wp2_with fail
          refine (HAN).mono ?_
          rintro e W9 ⟨⟨sl9, rl9, ra9, ov9, iv9, rfl, hr9⟩, hb9⟩
          go_wp2_with (with_reducible show wpList _ _ _ (⟨_, .store 38 (.tmp 4) (.tmp 63), _, _, _, none⟩ :: _) _ _; refine RowKit.Hid.out ?_)
          refine Lib.hid ?_
          obtain ⟨cs, hcs, hz⟩ := Bq.out.bz
          refine wpList_store_row rfl 38 (.tmp 4) (.tmp 63) rfl _ _ rfl rfl _ _ (bl_get hb9 hz) infoL9 hcs hr9.one ?_
          obtain ⟨hret, hrow⟩ := Bq.out.rets hb9 hr9
          go_wp2_with fail
          refine bodyPost_ret (results_cell_row rfl _ _ (w.heap.size + 1 + 1) 38 _ (0, 0) _ rfl hrow Tryz.underlying38 rfl infoL9) rfl ?_
          exact hret

end Go.Proofs.YthmdibagcbbgoaaGreat
