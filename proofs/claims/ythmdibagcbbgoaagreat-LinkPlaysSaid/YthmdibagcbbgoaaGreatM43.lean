/- (*link.Link).Tick. portagelaw09.play: Tick; no call. portagelaw09.play: Push. Conditions: as they stand. -/
import Derived.BigQuiet
import Derived.Test.YthmdibagcbbgoaaGreatM16
import Derived.Test.YthmdibagcbbgoaaGreatM28
import Derived.Test.YthmdibagcbbgoaaGreatM42
import Derived.Test.YthmdibagcbbgoaaGreatM09
namespace Go.Proofs.YthmdibagcbbgoaaGreat
open Go.RowKit

theorem unders_zero (s : Snd) (hb : s.base < 128) (hu : 0 < s.under) : s.unders[0]? = some (s.base : Int) := by
  have hp := win_prefix (s.base : Int) (k := 1) (m := s.under) (by omega)
  have h1 : (win (s.base : Int) s.under)[0]? = some (red s.base) := by
    obtain ⟨l, hl⟩ := hp
    rw [← hl]
    simp [win]
  unfold Snd.unders vals
  rw [List.getElem?_map, h1]
  show some ((s.base : Int) % 128) = _
  congr 1
  omega

set_option maxRecDepth 100000 in
set_option maxHeartbeats 4000000 in
theorem ltick_any (B : Nat) (col : Nat → Nat) (w : World) (a sg rg : Nat) (ov iv : Value) (t : Lk) (h : LkP B col w a sg rg ov iv t) (hok : t.s.Ok) (hme : t.me < 65536) (hc : Clk t) (hm : t.out.length ≤ 90000) :
    Calls Tryz.prog 31 #[.pointer (some ⟨a, 0, none⟩)] w fun e w' => e = .returned (.int .i64 0) ∧ LkTo B col w a sg rg t.tick w' := by
  have e6 := h.c6
  have z6 := h.frozen 6
  by_cases h0 : t.left = 0
  · have hq : t.tick = t := by unfold Lk.tick; rw [if_pos h0]
    have hT := h.to
    rw [← hq] at hT
    rw [h0] at e6
    clear hq h
    go_enter Tryz.func31, Tryz.ntmps31
    go_wp2
    go_ret
    exact ⟨rfl, hT⟩
  by_cases h1 : 1 < t.left
  · have hq : t.tick = { t with left := t.left - 1 } := by unfold Lk.tick; rw [if_neg h0, if_pos h1]
    have hl := hc.left
    have hl2 := hc.timer
    have hT := h.putTo (t' := { t with left := t.left - 1 }) 6 (.int .i64 ((t.left : Int) - 1)) (by rw [show (t.left : Int) - 1 = ((t.left - 1 : Nat) : Int) by omega]; rfl) rfl rfl rfl rfl
    rw [← hq] at hT
    obtain ⟨n, hn⟩ : ∃ n : Int, (t.left : Int) = n := ⟨_, rfl⟩
    rw [hn] at e6 hT
    have hn1 : 2 ≤ n := by omega
    have hn2 : n ≤ 64 := by omega
    clear hq h hn h0 h1 hl hl2
    go_enter Tryz.func31, Tryz.ntmps31
    go_wp2
    go_ret
    exact ⟨rfl, hT⟩
  have hl1 : t.left = 1 := by omega
  have hq : t.tick = ({ t with left := 0 } : Lk).rung := by unfold Lk.tick; rw [if_neg h0, if_neg h1]
  rw [hl1] at e6
  obtain ⟨c1, o1, i1, hp1, hc1, HF1, H1⟩ := (h.putTo (t' := { t with left := 0 }) 6 (.int .i64 0) rfl rfl rfl rfl rfl).openf
  have e11 : w.cell? ⟨a, 11, none⟩ = some (.pointer (some ⟨sg, 0, none⟩)) := h.c11
  have HU := sunder_any _ sg t.s hok _ hp1.snd
  have HP1 := Lib.hid hp1
  rw [hq]
  clear h hp1 hc1 HF1 h0 h1 hq
  go_enter Tryz.func31, Tryz.ntmps31
  go_wp2_with fail
  refine HU.mono ?_
  rintro e w2 ⟨u, rfl, hu2, hb2⟩
  obtain ⟨uo, uc, rfl⟩ : ∃ uo uc, u = .slice uo t.s.under uc := by
    obtain ⟨⟨_, ao, cap, h, _⟩, _⟩ := hu2
    exact ⟨ao, cap, by rw [h, under_len]⟩
  obtain ⟨c2, o2, i2, hp2, hc2, H2⟩ := (HP1.out.skipTo hb2).open_
  have e2 := hp2.c2
  have e4 := hp2.c4
  have e5 := hp2.c5
  have e7 := hp2.c7
  have e9 := hp2.c9
  have g6 := hp2.c6
  have e11' := hp2.c11
  have z7 := hp2.frozen 7
  have z6' := hp2.frozen 6
  have HP2 := Lib.hid hp2
  have HU2 := Lib.hid hu2
  have HL : Hid (w2.heap.size ≥ (w.setCell ⟨a, 6, none⟩ (.int .i64 0)).heap.size ∧ ∀ k, k < (w.setCell ⟨a, 6, none⟩ (.int .i64 0)).heap.size → c2 k ≠ 0 → c2 k = c1 k) := ⟨hb2.size, hc2⟩
  clear hb2 hu2 hp2 hc2 HU e6 e11
  cases hup : t.up with
  | false =>
    have hq : ({ t with left := 0 } : Lk).rung = ({ t with left := 0 } : Lk).setup true := by unfold Lk.rung; rw [if_pos hup]
    have hS := lsetup_any B c2 w2 a sg rg o2 i2 _ HP2.out true (by show t.out.length ≤ _; omega)
    rw [← hq] at hS
    rw [show ({ t with left := 0 } : Lk).up = t.up from rfl, hup] at e2
    clear hq
    go_wp2_with fail
    refine hS.mono ?_
    rintro e w3 ⟨⟨v, rfl⟩, h3⟩
    have h4 := H1.out _ _ (H2.out _ _ h3)
    clear h3 hS
    go_wp2
    go_ret
    exact ⟨rfl, h4⟩
  | true =>
    rw [show ({ t with left := 0 } : Lk).up = t.up from rfl, hup] at e2
    have hr0 : ({ t with left := 0 } : Lk).rung = if 0 < t.s.under ∧ t.tried = t.tries then ({ t with left := 0 } : Lk).anew
        else if 0 < t.s.under then { (({ t with left := 0, tried := t.tried + 1 } : Lk).dat t.s.base (t.s.againP t.s.base) true) with left := t.timer }
        else if t.busy = true ∧ 0 < t.s.ps.length then { (({ t with left := 0 } : Lk).send ⟨2, 0, t.r.waits, true, 0, t.peer, []⟩) with left := t.timer } else { t with left := 0 } := by
      unfold Lk.rung
      rw [if_neg (by rw [show ({ t with left := 0 } : Lk).up = t.up from rfl, hup]; decide)]
    by_cases hu : 0 < t.s.under
    · have hu' : (0 : Int) < (t.s.under : Int) := by omega
      have k7 : w2.cell? ⟨a, 7, none⟩ = some (.int .i64 t.tried) := e7
      have k5 : w2.cell? ⟨a, 5, none⟩ = some (.int .i64 t.tries) := e5
      clear e7 e5
      by_cases ht : t.tried = t.tries
      · rw [if_pos ⟨hu, ht⟩] at hr0
        have hA := fun W : World => fun hb : Below w2.heap.size w2 W => lanew_any B (paint c2 w2 W 0) W a sg rg o2 i2 ({ t with left := 0 } : Lk) (HP2.out.skip (n := 0) hb) hme (by show t.out.length ≤ _; omega)
        have HK : Hid (∀ W w', Below w2.heap.size w2 W → LkTo B (paint c2 w2 W 0) W a sg rg ({ t with left := 0 } : Lk).anew w' → LkTo B col w a sg rg ({ t with left := 0 } : Lk).rung w') := fun W w' hb h => by
          rw [hr0]
          exact H1.out _ _ (H2.out _ _ (LkTo.then_ hb.size (fun k hk _ => paint_old hk) (.of_below hb) h))
        rw [ht] at k7
        clear hr0 ht
        go_wp2_with fail
        go_quiet (fail)
        go_wp2_with fail
        refine (hA _ (by first | exact bl_drewN (bl_refl _) _ | exact bl_drewN (bl_drewN (bl_refl _) _) _)).mono ?_
        rintro e w3 ⟨⟨v, rfl⟩, h3⟩
        have h4 := HK.out _ _ (by first | exact bl_drewN (bl_refl _) _ | exact bl_drewN (bl_drewN (bl_refl _) _) _) h3
        clear h3 hA
        go_wp2
        go_ret
        exact ⟨rfl, h4⟩
      · rw [if_neg (fun h => ht h.2), if_pos hu] at hr0
        have htn := hc.tried
        have htn2 := hc.tries
        obtain ⟨g, go, huo, hcell⟩ : ∃ g o, uo = some ⟨g, o, none⟩ ∧ w2.cell? ⟨g, o, none⟩ = some (.int .i64 t.s.base) := by
          obtain ⟨_, ao, cap, hv, _, hc9⟩ := HU2.out.1
          simp only [Value.slice.injEq] at hv
          obtain ⟨rfl, _, rfl⟩ := hv
          obtain ⟨b, o, e9, c9⟩ := hc9 0 _ (unders_zero t.s hok.base hu)
          exact ⟨b, o, e9, c9⟩
        subst huo
        have hg : g ≠ a := fun e => by
          have h9 := HU2.out.2 g rfl
          have h8 := (HP1.out.cols.2 a (by rw [HP1.out.own]; omega)).2
          omega
        obtain ⟨n, hn⟩ : ∃ n : Int, (t.tried : Int) = n := ⟨_, rfl⟩
        rw [hn] at k7
        have ht1 : ¬ n = (t.tries : Int) := by omega
        have hn1 : 0 ≤ n := by omega
        have hn2 : n ≤ 64 := by omega
        have HN := Lib.hid hn
        have HR0 := Lib.hid hr0
        clear hn hr0 htn htn2
        go_wp2_with fail
        go_quiet (fail)
        go_wp2_with fail
        have hbD : Below w2.heap.size w2 (w2.drewN nq) := bl_drewN (bl_refl _) _
        obtain ⟨W2, hW2⟩ : ∃ W2, w2.drewN nq = W2 := ⟨_, rfl⟩
        rw [hW2] at hbD
        simp only [hW2]
        obtain ⟨c2', o2', i2', hp2', _, H2'⟩ := (HP2.out.skipTo hbD).open_
        have hT3 := hp2'.putTo (t' := { t with left := 0, tried := t.tried + 1 }) 7 (.int .i64 (n + 1)) (by rw [← HN.out, show (t.tried : Int) + 1 = ((t.tried + 1 : Nat) : Int) by omega]; rfl) rfl rfl rfl rfl
        have kg : (W2.setCell ⟨a, 7, none⟩ (.int .i64 (n + 1))).cell? ⟨g, go, none⟩ = some (.int .i64 t.s.base) := (fr_cell W2 a 7 _).cell (below_cell hbD hcell) hg
        obtain ⟨W3, hW3⟩ : ∃ W3, W2.setCell ⟨a, 7, none⟩ (.int .i64 (n + 1)) = W3 := ⟨_, rfl⟩
        rw [hW3] at hT3 kg
        simp only [hW3]
        obtain ⟨c3, o3, i3, hp3, _, H3⟩ := hT3.open_
        have k11 : W3.cell? ⟨a, 11, none⟩ = some (.pointer (some ⟨sg, 0, none⟩)) := hp3.c11
        have hE : t.s.againE t.s.base = 0 := by
          have := hok.base
          unfold Snd.againE
          rw [if_neg (by omega), if_pos (by omega)]
        have HA := fun W : World => fun hb : Below W3.heap.size W3 W => sagain_any _ sg t.s hok t.s.base W (hp3.snd.below hb)
        rw [hE] at HA
        have HP3 := Lib.hid hp3
        have HQ : Hid (∀ W, LkTo B c3 W3 a sg rg { (({ t with left := 0, tried := t.tried + 1 } : Lk).dat t.s.base (t.s.againP t.s.base) true) with left := t.timer } W → LkTo B col w a sg rg ({ t with left := 0 } : Lk).rung W) := fun W h => by
          rw [HR0.out]
          exact H1.out _ _ (H2.out _ _ (H2'.out _ _ (H3.out _ _ h)))
        have HNE := Lib.hid (againP_ne hok hE)
        clear hT3 hp3 HR0 hcell HN hE hp2' hbD H2' hW2 hW3 e2 e4 k7 k5 e9 g6 e11' z7 z6'
        go_region_held3 (fun w' => w'.cell? ⟨a, 11, none⟩ = some (.pointer (some ⟨sg, 0, none⟩)) ∧ w'.cell? ⟨g, go, none⟩ = some (.int .i64 t.s.base))
          (first | exact ⟨k11, kg⟩ | exact ⟨below_cell (bl_trans (bl_drew (bl_refl W3)) hb4) k11, below_cell (bl_trans (bl_drew (bl_refl W3)) hb4) kg⟩)
          (first | (go_at_call 50; refine (HA _ (bl_drew (bl_refl _))).mono ?_; rintro e w4 ⟨u, rfl, hu4, hb4⟩))
        have hb4' := bl_trans (bl_drew (bl_refl W3)) hb4
        obtain ⟨vo, vc, rfl⟩ : ∃ uo uc, u = .slice uo (t.s.againP t.s.base).length uc := by
          obtain ⟨⟨⟨_, ao, cap, h, _⟩, _⟩, _⟩ := hu4
          exact ⟨ao, cap, h⟩
        have h4 := HP3.out.skip (n := 7) hb4'
        have hsz := hb4'.size
        have hx4 : Byt (fun k => paint c3 W3 w4 7 k = 7) w4 (.slice vo (t.s.againP t.s.base).length vc) (t.s.againP t.s.base) := by
          refine ⟨⟨hu4.1.1, fun k hk => ?_⟩, hu4.2⟩
          have hk1 : W3.heap.size ≤ k := hu4.1.2 k hk
          exact paint_new hk1 (rd_lt9 hu4.1.1 HNE.out k hk)
        have HD := ldata_any B _ w4 a sg rg _ _ _ h4 t.s.base (t.s.againP t.s.base) true _ hx4 (by show t.out.length ≤ _; omega)
        have H4 : Hid (∀ t' w', LkTo B (paint c3 W3 w4 7) w4 a sg rg t' w' → LkTo B c3 W3 a sg rg t' w') := fun t' w' h => LkTo.then_ hsz (fun k hk _ => paint_old hk) (.of_below hb4') h
        have kg4 := below_cell hb4' kg
        clear hu4 hb4 hb4' h4 hx4 HA kg k11
        go_wp2_with fail
        refine HD.mono ?_
        rintro e w5 ⟨⟨v, rfl⟩, h5⟩
        obtain ⟨c5, o5, i5, hp5, _, H5⟩ := h5.open_
        have q4 : w5.cell? ⟨a, 4, none⟩ = some (.int .i64 t.timer) := hp5.c4
        have z5 := hp5.frozen 6
        have y6 := hp5.c6
        have h6 := HQ.out _ (H4.out _ _ (H5.out _ _ (hp5.putTo (t' := { (({ t with left := 0, tried := t.tried + 1 } : Lk).dat t.s.base (t.s.againP t.s.base) true) with left := t.timer }) 6 (.int .i64 t.timer) rfl rfl rfl rfl rfl)))
        clear h5 hp5 HD
        go_wp2
        go_ret
        exact ⟨rfl, h6⟩
    · have hu0 : t.s.under = 0 := by omega
      rw [if_neg (fun h => hu h.1), if_neg hu] at hr0
      simp only [hu0]
      have e9' : w2.cell? ⟨a, 9, none⟩ = some (.bool t.busy) := e9
      clear e9
      by_cases hb : t.busy = true ∧ 0 < t.s.ps.length
      · rw [if_pos hb] at hr0
        have HL9 := fun W : World => fun hb : Below w2.heap.size w2 W => slen_any _ sg t.s W (HP2.out.snd.below hb)
        have HW := fun W : World => fun hb : Below w2.heap.size w2 W => rcwaits_any _ _ rg t.r W (HP2.out.rcv.below hb)
        have HS := lsend_at B c2 w2 a sg rg o2 i2 _ HP2.out ⟨2, 0, t.r.waits, true, 0, t.peer, []⟩ _ (byt_nil _ _) (by show t.out.length ≤ _; omega)
        have m1 : w2.cell? ⟨a, 1, none⟩ = some (.int .i64 t.peer) := HP2.out.c1
        have m12 : w2.cell? ⟨a, 12, none⟩ = some (.pointer (some ⟨rg, 0, none⟩)) := HP2.out.c12
        have HR0 := Lib.hid hr0
        have hpl : (0 : Int) < (t.s.ps.length : Int) := by omega
        rw [hb.1] at e9'
        clear hr0 hb
        go_wp2_with fail
        go_quiet (fail)
        go_wp2_with fail
        refine (HL9 _ (bl_drewN (bl_refl _) _)).mono ?_
        rintro e w9 ⟨rfl, rfl⟩
        go_wp2_with fail
        go_region_held3 (fun w' => w'.cell? ⟨a, 1, none⟩ = some (.int .i64 t.peer) ∧ w'.cell? ⟨a, 12, none⟩ = some (.pointer (some ⟨rg, 0, none⟩)))
          (first | exact ⟨below_cell (bl_drewN (bl_refl _) _) m1, below_cell (bl_drewN (bl_refl _) _) m12⟩ | exact ⟨hp4.c1, hp4.c12⟩)
          (first | (go_at_call 52; refine (HW _ (bl_drew (bl_drewN (bl_refl _) _))).mono ?_; rintro e w3 ⟨rfl, rfl⟩) | (go_at_call 39; refine (HS _ (bl_drew (bl_drewN (bl_refl _) _))).mono ?_; rintro e w4 ⟨⟨v, rfl⟩, h4⟩; obtain ⟨c4, o4, i4, hp4, _, H4⟩ := h4.open_))
        have q4 : w4.cell? ⟨a, 4, none⟩ = some (.int .i64 t.timer) := hp4.c4
        have z5 := hp4.frozen 6
        have y6 := hp4.c6
        have h6 := H1.out _ _ (H2.out _ _ (H4.out _ _ (hp4.putTo (t' := ({ t with left := 0 } : Lk).rung) 6 (.int .i64 t.timer) (by rw [HR0.out]; rfl) (by rw [HR0.out]) (by rw [HR0.out]) (by rw [HR0.out]) (by rw [HR0.out]))))
        clear h4 hp4 HW HS HL9
        go_wp2
        go_ret
        exact ⟨rfl, h6⟩
      · rw [if_neg hb] at hr0
        have HK : Hid (∀ W, Below w2.heap.size w2 W → LkTo B col w a sg rg ({ t with left := 0 } : Lk).rung W) := fun W hb => by
          rw [hr0]
          exact H1.out _ _ (H2.out _ _ (HP2.out.skipTo hb))
        have HL9 := fun W : World => fun hb : Below w2.heap.size w2 W => slen_any _ sg t.s W (HP2.out.snd.below hb)
        clear hr0
        cases hbz : t.busy with
        | false =>
          rw [hbz] at e9'
          clear hb HL9
          go_wp2_with fail
          go_quiet (fail)
          go_wp2
          go_ret
          exact ⟨rfl, HK.out _ (bl_drewN (bl_refl _) _)⟩
        | true =>
          rw [hbz] at e9'
          have hl0 : t.s.ps.length = 0 := by
            rw [hbz] at hb
            simp at hb
            simp [hb]
          rw [hl0] at HL9
          clear hb
          go_wp2_with fail
          go_quiet (fail)
          go_wp2_with fail
          refine (HL9 _ (bl_drewN (bl_refl _) _)).mono ?_
          rintro e w9 ⟨rfl, rfl⟩
          go_wp2
          go_ret
          exact ⟨rfl, HK.out _ (bl_drewN (bl_refl _) _)⟩

end Go.Proofs.YthmdibagcbbgoaaGreat

namespace Go.Proofs.YthmdibagcbbgoaaGreat
open Go.RowKit

set_option maxRecDepth 100000 in
set_option maxHeartbeats 4000000 in
theorem play_tick (B : Nat) (col : Nat → Nat) (w : World) (a sg rg : Nat) (po pi sl rl ra ov iv : Value) (t : Lk) (X : Nat → Prop) (hp : LkP B col w a sg rg po pi t) (hX : ∀ k, X k → k < w.heap.size ∧ col k = 0) (hr : RfAt (fun k => Turns col k ∨ X k) w sl rl ra ov iv t) {m : Nat} (ho : PlOk m t) (c : ActL) (x y : Value) (hk : c.k = 1) :
    Calls Tryz.prog 7 #[.pointer (some ⟨a, 0, none⟩), .agg (t.ref sl rl ra ov iv), .agg (c.cells x y)] w fun e w' => PlayTo B X w a sg rg (t.tick) e w' := by
  obtain ⟨W0, hW0, hB0, hc0⟩ := hr.boxesA (c.cells x y)
  have B0 := Lib.hid hB0
  have A0 := Lib.hid hB0.ba
  have HP := Lib.hid hp
  have HX := Lib.hid hX
  have k0 : W0.cell? ⟨w.heap.size + 1, 0, none⟩ = some (.int .i64 c.k) := by rw [cell_of_row _ _ _ _ _ _ hc0]; rfl
  rw [hk] at k0
  have HTK := r9tick_any _ W0 _ _ _ _ _ _ hB0.rf ho.ok.s ho.ok.me ho.clk (by have := ho.out; omega)
  have HLT := Lib.hid fun (W : World) (hb : Below w.heap.size w W) => ltick_any B (paint col w W 0) W a sg rg po pi t (hp.skip hb) ho.ok.s ho.ok.me ho.clk (by have := ho.out; omega)
  clear hB0 hp hX hr hc0 ho hk
  go_enter Tryz.func7, Tryz.ntmps7
  go_wp2_with (first | simp only [hW0] | (with_reducible show wpList _ _ _ (⟨_, .load 38 (.tmp 4), _, _, _, none⟩ :: _) _ _; refine RowKit.Hid.out ?_))
  refine Lib.hid ?_
  refine wpList_load_row rfl 38 (.tmp 4) rfl _ rfl _ _ (0, 0) _ A0.out Tryz.underlying38 rfl infoL9 ?_
  go_wp2_with fail
  refine (HTK).mono ?_
  rintro e W1 ⟨⟨sl1, rl1, ra1, ov1, iv1, rfl, hr1⟩, hb1⟩
  have HLT1 := HLT.out W1 (bl_trans B0.out.bl hb1)
  go_wp2_with fail
  refine HLT1.mono ?_
  rintro e W2 ⟨rfl, hT⟩
  go_wp2_with (with_reducible show wpList _ _ _ (⟨_, .store 38 (.tmp 6) (.tmp 35), _, _, _, none⟩ :: _) _ _; refine RowKit.Hid.out ?_)
  refine Lib.hid ?_
  obtain ⟨hbe, hrow, hbl, cs, hcs, hz⟩ := play_end HP.out HX.out B0.out hb1 hr1 hT
  refine wpList_store_row rfl 38 (.tmp 6) (.tmp 35) rfl _ _ rfl rfl _ _ hz infoL9 hcs hr1.one ?_
  go_wp2_with fail
  refine bodyPost_ret (results_tmp_row rfl _ _ (w.heap.size + 1 + 1) 38 _ (0, 0) _ rfl hrow Tryz.underlying38 rfl infoL9) rfl ?_
  exact ⟨⟨_, _, _, _, _, rfl, hbe⟩, hbl⟩

set_option maxRecDepth 100000 in
set_option maxHeartbeats 4000000 in
theorem play_none (B : Nat) (col : Nat → Nat) (w : World) (a sg rg : Nat) (po pi sl rl ra ov iv : Value) (t : Lk) (X : Nat → Prop) (hp : LkP B col w a sg rg po pi t) (hX : ∀ k, X k → k < w.heap.size ∧ col k = 0) (hr : RfAt (fun k => Turns col k ∨ X k) w sl rl ra ov iv t) {m : Nat} (_ho : PlOk m t) (c : ActL) (x y : Value) (hk : c.k < 0 ∨ 3 < c.k) :
    Calls Tryz.prog 7 #[.pointer (some ⟨a, 0, none⟩), .agg (t.ref sl rl ra ov iv), .agg (c.cells x y)] w fun e w' => PlayTo B X w a sg rg (t) e w' := by
  obtain ⟨W0, hW0, hB0, hc0⟩ := hr.boxesA (c.cells x y)
  have B0 := Lib.hid hB0
  have A0 := Lib.hid hB0.ba
  have HP := Lib.hid hp
  have HX := Lib.hid hX
  have k0 : W0.cell? ⟨w.heap.size + 1, 0, none⟩ = some (.int .i64 c.k) := by rw [cell_of_row _ _ _ _ _ _ hc0]; rfl
  have q0 : ¬ c.k = 0 := by omega
  have q1 : ¬ c.k = 1 := by omega
  have q2 : ¬ c.k = 2 := by omega
  have q3 : ¬ c.k = 3 := by omega
  clear hB0 hp hX hr hc0 hk
  go_enter Tryz.func7, Tryz.ntmps7
  go_wp2_with (first | simp only [hW0] | (with_reducible show wpList _ _ _ (⟨_, .load 38 (.tmp 4), _, _, _, none⟩ :: _) _ _; refine RowKit.Hid.out ?_))
  refine Lib.hid ?_
  refine wpList_load_row rfl 38 (.tmp 4) rfl _ rfl _ _ (0, 0) _ A0.out Tryz.underlying38 rfl infoL9 ?_
  go_wp2_with (with_reducible show wpList _ _ _ (⟨_, .store 38 (.tmp 6) (.tmp 66), _, _, _, none⟩ :: _) _ _; refine RowKit.Hid.out ?_)
  refine Lib.hid ?_
  obtain ⟨hbe, hrow, hbl, cs, hcs, hz⟩ := play_end HP.out HX.out B0.out (bl_refl _) B0.out.rf (HP.out.skip (n := 0) B0.out.bl).to
  refine wpList_store_row rfl 38 (.tmp 6) (.tmp 66) rfl _ _ rfl rfl _ _ hz infoL9 hcs B0.out.rf.one ?_
  go_wp2_with fail
  refine bodyPost_ret (results_tmp_row rfl _ _ (w.heap.size + 1 + 1) 38 _ (0, 0) _ rfl hrow Tryz.underlying38 rfl infoL9) rfl ?_
  exact ⟨⟨_, _, _, _, _, rfl, hbe⟩, hbl⟩

set_option maxRecDepth 100000 in
set_option maxHeartbeats 4000000 in
theorem play_busy (B : Nat) (col : Nat → Nat) (w : World) (a sg rg : Nat) (po pi sl rl ra ov iv : Value) (t : Lk) (X : Nat → Prop) (hp : LkP B col w a sg rg po pi t) (hX : ∀ k, X k → k < w.heap.size ∧ col k = 0) (hr : RfAt (fun k => Turns col k ∨ X k) w sl rl ra ov iv t) {m : Nat} (ho : PlOk m t) (c : ActL) (x y : Value) (hk : c.k = 3) :
    Calls Tryz.prog 7 #[.pointer (some ⟨a, 0, none⟩), .agg (t.ref sl rl ra ov iv), .agg (c.cells x y)] w fun e w' => PlayTo B X w a sg rg (t.busied c.on) e w' := by
  obtain ⟨W0, hW0, hB0, hc0⟩ := hr.boxesA (c.cells x y)
  have B0 := Lib.hid hB0
  have A0 := Lib.hid hB0.ba
  have HP := Lib.hid hp
  have HX := Lib.hid hX
  have k0 : W0.cell? ⟨w.heap.size + 1, 0, none⟩ = some (.int .i64 c.k) := by rw [cell_of_row _ _ _ _ _ _ hc0]; rfl
  rw [hk] at k0
  have k9 : W0.cell? ⟨w.heap.size + 1, 9, none⟩ = some (.bool c.on) := by rw [cell_of_row _ _ _ _ _ _ hc0]; rfl
  have lA := lt_of_get hB0.ba
  have lC := lt_of_get hc0
  have HRB := r9busy_any _ W0.drew _ _ _ _ _ _ (hB0.rf.below (bl_drew (bl_refl W0))) c.on (by have := ho.out; omega)
  have HLT := Lib.hid fun (W : World) (hb : Below w.heap.size w W) => lbusy_any B (paint col w W 0) W a sg rg po pi t (hp.skip hb) c.on (by have := ho.out; omega)
  have HS : Hid (∀ w' : World, Below W0.heap.size W0 w' → (fun w' => w'.heap[w.heap.size]? = some (.cells (t.ref sl rl ra ov iv) 38 (0, 0)) ∧ w'.cell? ⟨w.heap.size + 1, 9, none⟩ = some (.bool c.on)) w') := fun w' hb => ⟨bl_get hb hB0.ba, below_cell hb k9⟩
  clear hB0 hp hX hr hc0 ho hk k9
  go_enter Tryz.func7, Tryz.ntmps7
  go_wp2_with (simp only [hW0])
  refine wp_region_order (fun w' => w'.heap[w.heap.size]? = some (.cells (t.ref sl rl ra ov iv) 38 (0, 0)) ∧ w'.cell? ⟨w.heap.size + 1, 9, none⟩ = some (.bool c.on))
    [(0, 1), (1, 0), (2, 1), (4, 0), (5, 0), (6, 1), (3, 2), (7, 2), (8, 0)] [(9, false), (10, true)] [9] [8, 10]
    (by kernel_rfl) (fun _ _ d _ _ h => by cases d <;> exact h) (by decide +kernel) (HS.out _ (bl_drew (bl_refl W0))) ?_
  refine wpHead_take (v := .agg (t.ref sl rl ra ov iv)) rfl (by rfl) (fun w1 h1 => exec_load_row 38 (.tmp 4) rfl w.heap.size rfl _ _ (0, 0) _ h1.1 Tryz.underlying38 rfl infoL9) ?_
  simp only [Act.put, List.setIfInBounds_toArray]
  refine wpHead_free (v := ?_) rfl (by rfl) ?_ ?_
  rotate_left
  focus (intro w1; go_simp; try with_reducible rfl)
  simp only [Act.put]
  refine wpHead_take (v := ?_) rfl (by rfl) ?_ ?_
  rotate_left
  focus (rintro w1 ⟨q0, q1⟩; go_simp; try with_reducible rfl)
  simp only [Act.put]
  iterate 2
    refine wpHead_free (v := ?_) rfl (by rfl) ?_ ?_
    rotate_left
    focus (intro w1; go_simp; try with_reducible rfl)
    simp only [Act.put]
  refine wpHead_take (v := ?_) rfl (by rfl) ?_ ?_
  rotate_left
  focus (rintro w1 ⟨q0, q1⟩; go_simp; try with_reducible rfl)
  simp only [Act.put]
  refine wpHead_step rfl (by rfl) (fun K hK => ?_)
  go_simp; go_at_call 34
  refine HRB.mono ?_; rintro e W1 ⟨⟨sl1, rl1, ra1, ov1, iv1, rfl, hr1⟩, hb1⟩; simp only []
  have hb01 := bl_trans (bl_drew (bl_refl W0)) hb1
  refine hK.out _ _ (HS.out _ hb01) ?_
  clear hK K
  try simp only [Act.put, List.setIfInBounds_toArray]
  have HLT1 := HLT.out W1 (bl_trans B0.out.bl hb01)
  refine wpHead_step rfl (by rfl) (fun K hK => ?_)
  go_simp; go_at_call 35
  refine HLT1.mono ?_; rintro e W2 ⟨rfl, hT⟩; simp only []
  have hs01 := hb01.size
  have pn : ∀ k, w.heap.size ≤ k → k < W1.heap.size → ¬ Turns (paint col w W1 0) k := fun k h1 h3 g => by
    have := g.1
    rw [paint_new h1 h3] at this
    omega
  refine hK.out _ _ ⟨hT.fr.get (HS.out _ hb01).1 (pn _ (by omega) (by omega)), hT.fr.cell (HS.out _ hb01).2 (pn _ (by omega) (by omega))⟩ ?_
  clear hK K
  try simp only [Act.put, List.setIfInBounds_toArray]
  refine wpHead_free (v := ?_) rfl (by rfl) ?_ ?_
  rotate_left
  focus (intro w1; go_simp; try with_reducible rfl)
  simp only [Act.put]
  refine wpHead_nil ?_
  obtain ⟨hbe, hrow, hbl, cs, hcs, hz⟩ := play_end HP.out HX.out B0.out hb01 hr1 hT
  refine wpTail_step rfl (by rfl) (fun K hK => ?_)
  refine wp_store_row 38 (.tmp 6) (.tmp 60) rfl (w.heap.size + 1 + 1) _ rfl rfl _ _ hz infoL9 hcs hr1.one ?_
  refine hK.out _ _ ?_
  clear hK K
  try simp only [Act.put, List.setIfInBounds_toArray]
  refine wpTail_free (v := ?_) rfl (by rfl) ?_ ?_
  rotate_left
  focus (intro w1; go_simp; try with_reducible rfl)
  simp only [Act.put, List.getElem_toArray, List.getElem_cons_zero, List.getElem_cons_succ, List.setIfInBounds_toArray]
  refine wpTail_nil ?_
  go_wp2_with fail
  refine bodyPost_ret (results_tmp_row rfl _ _ (w.heap.size + 1 + 1) 38 _ (0, 0) _ rfl hrow Tryz.underlying38 rfl infoL9) rfl ?_
  exact ⟨⟨_, _, _, _, _, rfl, hbe⟩, hbl⟩

end Go.Proofs.YthmdibagcbbgoaaGreat

namespace Go.Proofs.YthmdibagcbbgoaaGreat
open Go.RowKit

section
variable {P : Program} {o : Oper} {a : Act} {w : World} {K : Act → World → Prop} {Q : Exit → Act → World → Prop}
theorem wp_append_run9 (s x : Operand) (t : TypeId) (ho : o.op = .call { callee := .builtin .append, args := #[s, x], argTypes := #[t, t] }) {v u v' : Value} {w' : World} (hs : a.eval s = v) (hx : a.eval x = u)
    (hrun : (Builtin.append_ #[t, t] o.type #[v, u]).run P w = .ok v' w') (h : K (a.put o.dst v') w') : o.wp P a w K Q := by
  unfold Oper.wp execOp
  simp only [ho, resolve, invoke, builtin, Sem.run_bind, Sem.run_pure, Result.andThen_ok, List.map_toArray, List.map_cons, List.map_nil, hs, hx, hrun]
  exact h
end

set_option maxRecDepth 100000 in
set_option maxHeartbeats 4000000 in
theorem play_push (B : Nat) (col : Nat → Nat) (w : World) (a sg rg : Nat) (po pi sl rl ra ov iv : Value) (t : Lk) (X : Nat → Prop) (hp : LkP B col w a sg rg po pi t) (hX : ∀ k, X k → k < w.heap.size ∧ col k = 0) (hr : RfAt (fun k => Turns col k ∨ X k) w sl rl ra ov iv t) {m : Nat} (ho : PlOk m t) (c : ActL) (x y : Value) (hk : c.k = 0) (hx : ByB B w x c.p) (hxl : c.p.length ≤ 140737488351232) :
    Calls Tryz.prog 7 #[.pointer (some ⟨a, 0, none⟩), .agg (t.ref sl rl ra ov iv), .agg (c.cells x y)] w fun e w' => PlayTo B X w a sg rg (t.push c.p) e w' := by
  obtain ⟨i0, hi, hz0, hz1, hz2⟩ := info_parts infoByte'
  obtain ⟨xo, xc, rfl⟩ : ∃ xo xc, x = .slice xo c.p.length xc := by
    obtain ⟨⟨_, ao, cap, h, _⟩, _⟩ := hx
    exact ⟨ao, cap, h⟩
  obtain ⟨T0, hT0⟩ : ∃ T0, t.push c.p = T0 := ⟨_, rfl⟩
  have HT0 : Hid (t.push c.p = T0) := hT0
  obtain ⟨W0, hW0, hB0, hc0⟩ := hr.boxesA (c.cells (.slice xo c.p.length xc) y)
  have B0 := Lib.hid hB0
  have A0 := Lib.hid hB0.ba
  have HP := Lib.hid hp
  have HX := Lib.hid hX
  have hBw := hp.cols.1
  have k0 : W0.cell? ⟨w.heap.size + 1, 0, none⟩ = some (.int .i64 c.k) := by rw [cell_of_row _ _ _ _ _ _ hc0]; rfl
  rw [hk] at k0
  have HX0 := Lib.hid (hx.below (hB0.bl.mono hBw))
  have HC0 := Lib.hid hc0
  have k1 : W0.cell? ⟨w.heap.size + 1, 1, none⟩ = some (.slice xo c.p.length xc) := by rw [cell_of_row _ _ _ _ _ _ hc0]; rfl
  have K1 := Lib.hid k1
  have HRP := r9push_any _ W0 _ _ _ _ _ _ hB0.rf ho.ok.s _ c.p HX0.out.1 HX0.out.2.1 (by have := ho.out; omega)
  have HLT := Lib.hid fun (W : World) (hb : Below w.heap.size w W) (u : Value) (hr : Reads (Value.int .u8) W u c.p) => lpush_any B (paint col w W 0) W a sg rg po pi t (hp.skip hb) ho.ok.s (by have := ho.out; omega) u c.p hr hx.2.1
  have HL := Lib.hid hxl
  obtain ⟨E, hE⟩ : ∃ E, t.pushE c.p = E := ⟨_, rfl⟩
  rw [hT0, hE] at HRP
  simp only [hE] at HLT
  rw [hT0]
  clear hB0 hp hX hr ho hk hx hxl hE hT0 hc0
  go_enter Tryz.func7, Tryz.ntmps7
  go_wp2_with (first | simp only [hW0] | (with_reducible show wpList _ _ _ (⟨_, .load 38 (.tmp 4), _, _, _, none⟩ :: _) _ _; refine RowKit.Hid.out ?_))
  refine Lib.hid ?_
  refine wpList_load_row rfl 38 (.tmp 4) rfl _ rfl _ _ (0, 0) _ A0.out Tryz.underlying38 rfl infoL9 ?_
  go_wp2_with fail
  refine (HRP).mono ?_
  rintro e W1 ⟨⟨sl1, rl1, ra1, ov1, iv1, rfl, hr1⟩, hb1⟩
  obtain ⟨z20, hz20⟩ : ∃ z20 : Array Value, z20 = #[.int .i64 0, .int .i64 0, .bool false, .int .i64 0, .int .i64 0, .int .i64 0, .int .i64 0, .int .i64 0, .bool false, .bool false, .int .i64 0, .int .i64 0, .slice none 0 0, .int .i64 0, .int .i64 0, .int .i64 0, .slice none 0 0, .slice none 0 0, .slice none 0 0, .slice none 0 0] := ⟨_, rfl⟩
  obtain ⟨W2, hW2⟩ : ∃ W, W1.alloc (.cells #[.int .i64 0, .int .i64 0, .bool false, .int .i64 0, .int .i64 0, .int .i64 0, .int .i64 0, .int .i64 0, .bool false, .bool false, .int .i64 0, .int .i64 0, .slice none 0 0, .int .i64 0, .int .i64 0, .int .i64 0, .slice none 0 0, .slice none 0 0, .slice none 0 0, .slice none 0 0] 38) = W := ⟨_, rfl⟩
  have n2 : W2.heap[W1.heap.size]? = some (.cells z20 38 (0, 0)) := by rw [← hW2, hz20]; exact heap_alloc_new _ _
  have hzs : z20.size = 20 := by rw [hz20]; rfl
  have b12 : Below W1.heap.size W1 W2 := by rw [← hW2]; exact bl_alloc (bl_refl W1) _
  clear hz20
  go_wp2_with (with_reducible show wpList _ _ _ (⟨_, .store 38 (.tmp 8) (.tmp 21), _, _, _, none⟩ :: _) _ _; refine RowKit.Hid.out ?_)
  refine Lib.hid ?_
  refine wpList_store_row rfl 38 (.tmp 8) (.tmp 21) rfl _ _ rfl rfl _ _ n2 infoL9 hzs hr1.one ?_
  have hF3 := fr_row W2 W1.heap.size (Lk.ref T0 sl1 rl1 ra1 ov1 iv1)
  have n3 := setRow_heap W2 W1.heap.size _ (Lk.ref T0 sl1 rl1 ra1 ov1 iv1) _ _ n2
  obtain ⟨W3, hW3⟩ : ∃ V, W2.setRow W1.heap.size (Lk.ref T0 sl1 rl1 ra1 ov1 iv1) = V := ⟨_, rfl⟩
  rw [hW3] at hF3 n3 ⊢
  have b13 : Below W1.heap.size W1 W3 := b12.trans (fr_bl hF3 (fun k hk => by rw [hk]; exact Nat.le_refl _) b12.size)
  have hb03 := bl_trans hb1 b13
  have hc3 := bl_get hb03 HC0.out
  have hr3 := hr1.below b13
  have lA := lt_of_get A0.out
  have lC := lt_of_get HC0.out
  have s01 := hb1.size
  have n3l := lt_of_get n3
  clear hF3 hW3 n2 hzs b12 hW2 W2 hr1 hb1
  have k13 := below_cell hb03 K1.out
  have HS : Hid (∀ w' : World, Below W3.heap.size W3 w' → (fun w' => w'.heap[W1.heap.size]? = some (.cells (T0.ref sl1 rl1 ra1 ov1 iv1) 38 (0, 0)) ∧ w'.cell? ⟨w.heap.size + 1, 1, none⟩ = some (.slice xo c.p.length xc)) w') := fun w' hb => ⟨bl_get hb n3, below_cell hb k13⟩
  have HR3 := Lib.hid hr3
  clear hc3 k13 k1 k0 hr3
  go_wp2_with fail
  refine wp_region_order (fun w' => w'.heap[W1.heap.size]? = some (.cells (T0.ref sl1 rl1 ra1 ov1 iv1) 38 (0, 0)) ∧ w'.cell? ⟨w.heap.size + 1, 1, none⟩ = some (.slice xo c.p.length xc))
    [(0, 1), (1, 0), (3, 0), (4, 1), (7, 0), (2, 2), (5, 2), (6, 2), (8, 0)] [(9, false), (10, true)] [9] [7, 8, 10]
    (by kernel_rfl) (fun _ _ d _ _ h => by cases d <;> exact h) (by decide +kernel) (HS.out _ (bl_drew (bl_refl W3))) ?_
  refine wpHead_take (v := .agg (T0.ref sl1 rl1 ra1 ov1 iv1)) rfl (by rfl) (fun w1 h1 => exec_load_row 38 (.tmp 8) rfl W1.heap.size rfl _ _ (0, 0) _ h1.1 Tryz.underlying38 rfl infoL9) ?_
  simp only [Act.put, List.setIfInBounds_toArray]
  iterate 2
    refine wpHead_free (v := ?_) rfl (by rfl) ?_ ?_
    rotate_left
    focus (intro w1; go_simp; try with_reducible rfl)
    simp only [Act.put]
  refine wpHead_take (v := ?_) rfl (by rfl) ?_ ?_
  rotate_left
  focus (rintro w1 ⟨q0, q1⟩; go_simp; try with_reducible rfl)
  simp only [Act.put]
  refine wpHead_free (v := ?_) rfl (by rfl) ?_ ?_
  rotate_left
  focus (intro w1; go_simp; try with_reducible rfl)
  simp only [Act.put]
  refine wpHead_step rfl (by rfl) (fun K hK => ?_)
  go_simp
  refine hK.out _ _ (HS.out _ (bl_alloc (bl_drew (bl_refl W3)) _)) ?_
  clear hK K
  try simp only [Act.put, List.setIfInBounds_toArray]
  have P2 : (0 + c.p.length) * 1 ≤ 140737488355328 := by have := HL.out; omega
  have P1 : 0 + c.p.length ≤ maxLen := by simp only [maxLen]; omega
  obtain ⟨V4, hV4⟩ : ∃ V, W3.drew.alloc (.cells #[] 5) = V := ⟨_, rfl⟩
  have hbV : Below W3.heap.size W3 V4 := by rw [← hV4]; exact bl_alloc (bl_drew (bl_refl W3)) _
  have hO0 : V4.ownsRow W3.heap.size 5 1 (.slice (some ⟨W3.heap.size, 0, none⟩) 0 0) 0 [] := by rw [← hV4]; exact owns_empty W3.drew 5 (Nat.le_refl _)
  obtain ⟨u4, W4, hrun, hO4, hg4, _⟩ := run_append_r (P := Tryz.prog) V4 W3.heap.size 44 44 5 i0 (.int .u8 0) 1 Tryz.underlying44 hi hz0 hz1 hz2 rfl _ _ _ hO0 (Value.int .u8) (.slice xo c.p.length xc) c.p (HX0.out.1.below (bl_trans hb03 hbV)) (by intros; rfl) P1 P2 hbV.size
  rw [Nat.zero_add, List.nil_append] at hO4
  have hb34 : Below W3.heap.size W3 W4 := bl_grown hbV hg4 (owns_row_ge hO0)
  have hb04 := bl_trans hb03 hb34
  have hr4 := HR3.out.below hb34
  have hu4 : Reads (Value.int .u8) W4 u4 c.p := Reads.of_owns hO4 (by omega)
  have HLT4 := HLT.out W4 (bl_trans B0.out.bl hb04) u4 hu4
  subst hV4
  have HR4 := Lib.hid hrun
  clear hrun hO4 hg4 hO0
  refine wpHead_step rfl (by rfl) (fun K hK => ?_)
  refine wp_append_run9 (.tmp 25) (.tmp 27) 44 rfl rfl rfl HR4.out ?_
  refine hK.out _ _ (HS.out _ hb34) ?_
  clear hK K
  try simp only [Act.put, List.setIfInBounds_toArray]
  refine wpHead_step rfl (by rfl) (fun K hK => ?_)
  go_simp; go_at_call 27
  refine HLT4.mono ?_; rintro e W5 ⟨rfl, hT⟩; simp only []
  rw [HT0.out] at hT
  have s34 := hb34.size
  have pn : ∀ k, w.heap.size ≤ k → k < W4.heap.size → ¬ Turns (paint col w W4 0) k := fun k h1 h3 g => by
    have := g.1
    rw [paint_new h1 h3] at this
    omega
  refine hK.out _ _ ⟨hT.fr.get (HS.out _ hb34).1 (pn _ (by omega) (by omega)), hT.fr.cell (HS.out _ hb34).2 (pn _ (by omega) (by omega))⟩ ?_
  clear hK K
  try simp only [Act.put, List.setIfInBounds_toArray]
  refine wpHead_free (v := ?_) rfl (by rfl) ?_ ?_
  rotate_left
  focus (intro w1; go_simp; try with_reducible rfl)
  simp only [Act.put]
  refine wpHead_nil ?_
  obtain ⟨hbe, hrow, hbl, cs, hcs, hz⟩ := play_end HP.out HX.out B0.out hb04 hr4 hT
  refine wpTail_step rfl (by rfl) (fun K hK => ?_)
  refine wp_store_row 38 (.tmp 6) (.tmp 23) rfl (w.heap.size + 1 + 1) _ rfl rfl _ _ hz infoL9 hcs hr4.one ?_
  refine hK.out _ _ ?_
  clear hK K
  try simp only [Act.put, List.setIfInBounds_toArray]
  refine wpTail_free (v := ?_) rfl (by rfl) ?_ ?_
  rotate_left
  focus (intro w1; go_simp; try with_reducible rfl)
  simp only [Act.put, List.getElem_toArray, List.getElem_cons_zero, List.getElem_cons_succ, List.setIfInBounds_toArray]
  refine wpTail_nil ?_
  go_wp2_with fail
  refine bodyPost_ret (results_tmp_row rfl _ _ (w.heap.size + 1 + 1) 38 _ (0, 0) _ rfl hrow Tryz.underlying38 rfl infoL9) rfl ?_
  have hT0 := HT0.out
  subst hT0
  exact ⟨⟨_, _, _, _, _, rfl, hbe⟩, hbl⟩

end Go.Proofs.YthmdibagcbbgoaaGreat
