/- An end's clock: what every operation leaves of it. No program in sight. (*link.Link).Tick. Conditions: as they stand. -/
import Derived.Test.YthmdibagcbbgoaaM34
import Derived.BigQuiet
import Derived.Test.YthmdibagcbbgoaaM22
namespace Go.Proofs.Ythmdibagcbbgoaa
open Go.RowKit

structure Clk (t : Lk) : Prop where
  left : t.left ≤ t.timer
  tried : t.tried ≤ t.tries
  timer : t.timer ≤ 64
  tries : t.tries ≤ 64
section
variable {t : Lk}
theorem Clk.of (h : Clk t) {t' : Lk} (e1 : t'.left = t.left ∨ t'.left = 0 ∨ t'.left = t.timer) (e2 : t'.tried = t.tried ∨ t'.tried = 0) (e3 : t'.timer = t.timer) (e4 : t'.tries = t.tries) : Clk t' := by
  obtain ⟨h1, h2, h3, h4⟩ := h
  exact ⟨by omega, by omega, by omega, by omega⟩
theorem Clk.send (h : Clk t) (c : Cn) : Clk (t.send c) := h.of (.inl rfl) (.inl rfl) rfl rfl
theorem Clk.setup (h : Clk t) (b : Bool) : Clk (t.setup b) := h.of (.inr (.inr rfl)) (.inl rfl) rfl rfl
theorem Clk.anew (h : Clk t) : Clk t.anew := h.of (.inr (.inr rfl)) (.inr rfl) rfl rfl
theorem Clk.heard (h : Clk t) : Clk t.heard := h.of (.inr (.inl rfl)) (.inr rfl) rfl rfl
theorem Clk.goOne (h : Clk t) : Clk t.goOne := h.of (by
  show (if t.left = 0 then t.timer else t.left) = t.left ∨ _
  split
  · exact .inr (.inr (by show (if t.left = 0 then t.timer else t.left) = _; rw [if_pos ‹_›]))
  · exact .inl rfl) (.inl rfl) rfl rfl
theorem Clk.goesN : ∀ (n : Nat) {t : Lk}, Clk t → Clk (goesN n t)
  | 0, _, h => h
  | n + 1, t, h => by
    show Clk (if t.up = true ∧ t.busy = false ∧ t.s.can = true then Proofs.Ythmdibagcbbgoaa.goesN n t.goOne else t)
    split
    · exact Clk.goesN n h.goOne
    · exact h
theorem Clk.goes (h : Clk t) : Clk t.goes := h.goesN 64
theorem Clk.ack (h : Clk t) (nr : Int) : Clk (t.ack nr) := by
  unfold Lk.ack
  split
  · refine h.of ?_ (.inr rfl) rfl rfl
    simp only
    split
    · exact .inr (.inr rfl)
    · exact .inr (.inl rfl)
  · exact h.of (.inl rfl) (.inl rfl) rfl rfl
theorem Clk.again (h : Clk t) (nr : Int) : Clk (t.again nr) := by
  unfold Lk.again
  split
  · exact h.send _
  · exact h
theorem Clk.ua (h : Clk t) (a b : Int) : Clk (t.ua a b) := by
  unfold Lk.ua
  split
  · split
    · exact h.heard
    · exact h.of (.inr (.inl rfl)) (.inr rfl) rfl rfl
  · exact h
theorem Clk.dm (h : Clk t) (a b : Int) : Clk (t.dm a b) := by
  unfold Lk.dm
  split
  · exact h.anew
  · exact h
theorem Clk.sabme (h : Clk t) (a : Int) (b : Bool) : Clk (t.sabme a b) := by
  have h1 : Clk (t.sabmed a) := by
    unfold Lk.sabmed
    split
    · exact h
    · refine h.of ?_ (.inr rfl) rfl rfl
      simp only
      split
      · exact .inr (.inl rfl)
      · exact .inl rfl
  exact h1.send _
theorem Clk.rearm (h : Clk t) : Clk t.rearm := by
  unfold Lk.rearm
  split
  · exact h.of (.inr (.inr rfl)) (.inl rfl) rfl rfl
  · exact h
theorem Clk.ready (h : Clk t) (a b : Int) (c : Bool) : Clk (t.ready a b c) := by
  have h0 : Clk ({ t with busy := (a == 3) } : Lk) := h.of (.inl rfl) (.inl rfl) rfl rfl
  have h1 := (h0.ack b).goes.rearm
  unfold Lk.ready
  split
  · exact h1.send _
  · exact h1
theorem Clk.askAll : ∀ (l : List Int) {t : Lk}, Clk t → Clk (t.askAll l)
  | [], _, h => h
  | n :: l, t, h => Clk.askAll l (t := t.ask n) (h.send _)
theorem Clk.comes (h : Clk t) (a b : Int) (p : Bool) (d : List Int) : Clk (t.comes a b p d) := by
  have h1 := (h.ack b).goes
  have h2 : Clk (if p = true then (t.ack b).goes.forget else (t.ack b).goes) := by
    split
    · exact h1.of (.inl rfl) (.inl rfl) rfl rfl
    · exact h1
  have h3 : ∀ z : Lk, Clk z → Clk (z.takes a d) := fun z hz => by
    unfold Lk.takes
    split
    · exact hz
    · exact Clk.askAll _ (hz.of (t' := z.taken a d) (.inl rfl) (.inl rfl) rfl rfl)
  exact (h3 _ h2).send _
theorem Clk.fits (h : Clk t) (c : Cn) : Clk (t.fits c) := by
  have h1 : Clk t.woke := by
    unfold Lk.woke
    split
    · exact h
    · exact h.heard
  unfold Lk.fits
  split
  · exact h1.comes _ _ _ _
  split
  · exact h1.again _
  · exact h1.ready _ _ _
theorem Clk.recv (h : Clk t) (c : Cn) : Clk (t.recv c) := by
  unfold Lk.recv
  split
  · exact h
  split
  · exact h.sabme _ _
  split
  · exact h.ua _ _
  split
  · exact h.dm _ _
  split
  · exact h.fits _
  split
  · exact h
  · exact h.send _
theorem Clk.push (h : Clk t) (p : List Int) : Clk (t.push p) := by
  unfold Lk.push
  split
  · exact Clk.goes (h.of (t' := { t with s := t.s.push p }) (.inl rfl) (.inl rfl) rfl rfl)
  · exact h
theorem Clk.tick (h : Clk t) : Clk t.tick := by
  unfold Lk.tick
  split
  · exact h
  split
  · obtain ⟨h1, h2, h3, h4⟩ := h
    exact ⟨by simp only; omega, h2, h3, h4⟩
  · have h0 : Clk ({ t with left := 0 } : Lk) := h.of (.inr (.inl rfl)) (.inl rfl) rfl rfl
    unfold Lk.rung
    split
    · exact h0.setup true
    split
    · exact h0.anew
    split
    · rename_i hn hu
      obtain ⟨h1, h2, h3, h4⟩ := h
      refine ⟨Nat.le_refl _, ?_, h3, h4⟩
      show t.tried + 1 ≤ t.tries
      have hn' : ¬ (0 < t.s.under ∧ t.tried = t.tries) := hn
      have hu' : 0 < t.s.under := hu
      omega
    split
    · exact h0.of (.inr (.inr rfl)) (.inl rfl) rfl rfl
    · exact h0
end
theorem rung_grow (t : Lk) : Grow 1 0 t t.rung := by
  unfold Lk.rung
  split
  · exact setup_grow t true
  split
  · exact anew_grow t
  split
  · have h0 : Grow 0 0 t ({ t with tried := t.tried + 1 } : Lk) := fun ho => ⟨⟨ho.me, ho.s, ho.r⟩, by simp, by simp⟩
    exact ((h0.trans (dat_grow _ _ _ _)).trans (left_grow _ _)).mono (by omega) (by omega)
  split
  · exact ((send_grow t _).trans (left_grow _ _)).mono (by omega) (by omega)
  · exact (Grow.refl t).mono (by omega) (by omega)
theorem tick_grow (t : Lk) : Grow 1 0 t t.tick := by
  unfold Lk.tick
  split
  · exact (Grow.refl t).mono (by omega) (by omega)
  split
  · exact (left_grow _ _).mono (by omega) (by omega)
  · exact ((left_grow t 0).trans (rung_grow _)).mono (by omega) (by omega)

end Go.Proofs.Ythmdibagcbbgoaa

namespace Go.Proofs.Ythmdibagcbbgoaa
open Go.RowKit

theorem unders_zero (s : Snd) (hb : s.base < 128) (hu : 0 < s.under) : s.unders[0]? = some (s.base : Int) := by
  have hp := win_prefix (s.base : Int) (k := 1) (m := s.under) (by omega)
  have h1 : (win (s.base : Int) s.under)[0]? = some (red s.base) := by
    obtain ⟨l, hl⟩ := hp
    rw [← hl]
    simp [win]
  unfold Snd.unders vals
  rw [List.getElem?_map, h1]
  show some ((s.base : Int) % 128) = _
  congr 1
  omega

set_option maxRecDepth 100000 in
set_option maxHeartbeats 4000000 in
theorem ltick_any (B : Nat) (col : Nat → Nat) (w : World) (a sg rg : Nat) (ov iv : Value) (t : Lk) (h : LkP B col w a sg rg ov iv t) (hok : t.s.Ok) (hme : t.me < 65536) (hc : Clk t) (hm : t.out.length ≤ 90000) :
    Calls Try.prog 8 #[.pointer (some ⟨a, 0, none⟩)] w fun e w' => e = .returned (.int .i64 0) ∧ LkTo B col w a sg rg t.tick w' := by
  have e6 := h.c6
  have z6 := h.frozen 6
  by_cases h0 : t.left = 0
  · have hq : t.tick = t := by unfold Lk.tick; rw [if_pos h0]
    have hT := h.to
    rw [← hq] at hT
    rw [h0] at e6
    clear hq h
    go_enter Try.func8, Try.ntmps8
    go_wp2
    go_ret
    exact ⟨rfl, hT⟩
  by_cases h1 : 1 < t.left
  · have hq : t.tick = { t with left := t.left - 1 } := by unfold Lk.tick; rw [if_neg h0, if_pos h1]
    have hl := hc.left
    have hl2 := hc.timer
    have hT := h.putTo (t' := { t with left := t.left - 1 }) 6 (.int .i64 ((t.left : Int) - 1)) (by rw [show (t.left : Int) - 1 = ((t.left - 1 : Nat) : Int) by omega]; rfl) rfl rfl rfl rfl
    rw [← hq] at hT
    obtain ⟨n, hn⟩ : ∃ n : Int, (t.left : Int) = n := ⟨_, rfl⟩
    rw [hn] at e6 hT
    have hn1 : 2 ≤ n := by omega
    have hn2 : n ≤ 64 := by omega
    clear hq h hn h0 h1 hl hl2
    go_enter Try.func8, Try.ntmps8
    go_wp2
    go_ret
    exact ⟨rfl, hT⟩
  have hl1 : t.left = 1 := by omega
  have hq : t.tick = ({ t with left := 0 } : Lk).rung := by unfold Lk.tick; rw [if_neg h0, if_neg h1]
  rw [hl1] at e6
  obtain ⟨c1, o1, i1, hp1, hc1, HF1, H1⟩ := (h.putTo (t' := { t with left := 0 }) 6 (.int .i64 0) rfl rfl rfl rfl rfl).openf
  have e11 : w.cell? ⟨a, 11, none⟩ = some (.pointer (some ⟨sg, 0, none⟩)) := h.c11
  have HU := sunder_any _ sg t.s hok _ hp1.snd
  have HP1 := Lib.hid hp1
  rw [hq]
  clear h hp1 hc1 HF1 h0 h1 hq
  go_enter Try.func8, Try.ntmps8
  go_wp2_with fail
  refine HU.mono ?_
  rintro e w2 ⟨u, rfl, hu2, hb2⟩
  obtain ⟨uo, uc, rfl⟩ : ∃ uo uc, u = .slice uo t.s.under uc := by
    obtain ⟨⟨_, ao, cap, h, _⟩, _⟩ := hu2
    exact ⟨ao, cap, by rw [h, under_len]⟩
  obtain ⟨c2, o2, i2, hp2, hc2, H2⟩ := (HP1.out.skipTo hb2).open_
  have e2 := hp2.c2
  have e4 := hp2.c4
  have e5 := hp2.c5
  have e7 := hp2.c7
  have e9 := hp2.c9
  have g6 := hp2.c6
  have e11' := hp2.c11
  have z7 := hp2.frozen 7
  have z6' := hp2.frozen 6
  have HP2 := Lib.hid hp2
  have HU2 := Lib.hid hu2
  have HL : Hid (w2.heap.size ≥ (w.setCell ⟨a, 6, none⟩ (.int .i64 0)).heap.size ∧ ∀ k, k < (w.setCell ⟨a, 6, none⟩ (.int .i64 0)).heap.size → c2 k ≠ 0 → c2 k = c1 k) := ⟨hb2.size, hc2⟩
  clear hb2 hu2 hp2 hc2 HU e6 e11
  cases hup : t.up with
  | false =>
    have hq : ({ t with left := 0 } : Lk).rung = ({ t with left := 0 } : Lk).setup true := by unfold Lk.rung; rw [if_pos hup]
    have hS := lsetup_any B c2 w2 a sg rg o2 i2 _ HP2.out true (by show t.out.length ≤ _; omega)
    rw [← hq] at hS
    rw [show ({ t with left := 0 } : Lk).up = t.up from rfl, hup] at e2
    clear hq
    go_wp2_with fail
    refine hS.mono ?_
    rintro e w3 ⟨⟨v, rfl⟩, h3⟩
    have h4 := H1.out _ _ (H2.out _ _ h3)
    clear h3 hS
    go_wp2
    go_ret
    exact ⟨rfl, h4⟩
  | true =>
    rw [show ({ t with left := 0 } : Lk).up = t.up from rfl, hup] at e2
    have hr0 : ({ t with left := 0 } : Lk).rung = if 0 < t.s.under ∧ t.tried = t.tries then ({ t with left := 0 } : Lk).anew
        else if 0 < t.s.under then { (({ t with left := 0, tried := t.tried + 1 } : Lk).dat t.s.base (t.s.againP t.s.base) true) with left := t.timer }
        else if t.busy = true ∧ 0 < t.s.ps.length then { (({ t with left := 0 } : Lk).send ⟨2, 0, t.r.waits, true, 0, t.peer, []⟩) with left := t.timer } else { t with left := 0 } := by
      unfold Lk.rung
      rw [if_neg (by rw [show ({ t with left := 0 } : Lk).up = t.up from rfl, hup]; decide)]
    by_cases hu : 0 < t.s.under
    · have hu' : (0 : Int) < (t.s.under : Int) := by omega
      have k7 : w2.cell? ⟨a, 7, none⟩ = some (.int .i64 t.tried) := e7
      have k5 : w2.cell? ⟨a, 5, none⟩ = some (.int .i64 t.tries) := e5
      clear e7 e5
      by_cases ht : t.tried = t.tries
      · rw [if_pos ⟨hu, ht⟩] at hr0
        have hA := fun W : World => fun hb : Below w2.heap.size w2 W => lanew_any B (paint c2 w2 W 0) W a sg rg o2 i2 ({ t with left := 0 } : Lk) (HP2.out.skip (n := 0) hb) hme (by show t.out.length ≤ _; omega)
        have HK : Hid (∀ W w', Below w2.heap.size w2 W → LkTo B (paint c2 w2 W 0) W a sg rg ({ t with left := 0 } : Lk).anew w' → LkTo B col w a sg rg ({ t with left := 0 } : Lk).rung w') := fun W w' hb h => by
          rw [hr0]
          exact H1.out _ _ (H2.out _ _ (LkTo.then_ hb.size (fun k hk _ => paint_old hk) (.of_below hb) h))
        rw [ht] at k7
        clear hr0 ht
        go_wp2_with fail
        go_quiet (fail)
        go_wp2_with fail
        refine (hA _ (by first | exact bl_drewN (bl_refl _) _ | exact bl_drewN (bl_drewN (bl_refl _) _) _)).mono ?_
        rintro e w3 ⟨⟨v, rfl⟩, h3⟩
        have h4 := HK.out _ _ (by first | exact bl_drewN (bl_refl _) _ | exact bl_drewN (bl_drewN (bl_refl _) _) _) h3
        clear h3 hA
        go_wp2
        go_ret
        exact ⟨rfl, h4⟩
      · rw [if_neg (fun h => ht h.2), if_pos hu] at hr0
        have htn := hc.tried
        have htn2 := hc.tries
        obtain ⟨g, go, huo, hcell⟩ : ∃ g o, uo = some ⟨g, o, none⟩ ∧ w2.cell? ⟨g, o, none⟩ = some (.int .i64 t.s.base) := by
          obtain ⟨_, ao, cap, hv, _, hc9⟩ := HU2.out.1
          simp only [Value.slice.injEq] at hv
          obtain ⟨rfl, _, rfl⟩ := hv
          obtain ⟨b, o, e9, c9⟩ := hc9 0 _ (unders_zero t.s hok.base hu)
          exact ⟨b, o, e9, c9⟩
        subst huo
        have hg : g ≠ a := fun e => by
          have h9 := HU2.out.2 g rfl
          have h8 := (HP1.out.cols.2 a (by rw [HP1.out.own]; omega)).2
          omega
        obtain ⟨n, hn⟩ : ∃ n : Int, (t.tried : Int) = n := ⟨_, rfl⟩
        rw [hn] at k7
        have ht1 : ¬ n = (t.tries : Int) := by omega
        have hn1 : 0 ≤ n := by omega
        have hn2 : n ≤ 64 := by omega
        have HN := Lib.hid hn
        have HR0 := Lib.hid hr0
        clear hn hr0 htn htn2
        go_wp2_with fail
        go_quiet (fail)
        go_wp2_with fail
        have hbD : Below w2.heap.size w2 (w2.drewN nq) := bl_drewN (bl_refl _) _
        obtain ⟨W2, hW2⟩ : ∃ W2, w2.drewN nq = W2 := ⟨_, rfl⟩
        rw [hW2] at hbD
        simp only [hW2]
        obtain ⟨c2', o2', i2', hp2', _, H2'⟩ := (HP2.out.skipTo hbD).open_
        have hT3 := hp2'.putTo (t' := { t with left := 0, tried := t.tried + 1 }) 7 (.int .i64 (n + 1)) (by rw [← HN.out, show (t.tried : Int) + 1 = ((t.tried + 1 : Nat) : Int) by omega]; rfl) rfl rfl rfl rfl
        have kg : (W2.setCell ⟨a, 7, none⟩ (.int .i64 (n + 1))).cell? ⟨g, go, none⟩ = some (.int .i64 t.s.base) := (fr_cell W2 a 7 _).cell (below_cell hbD hcell) hg
        obtain ⟨W3, hW3⟩ : ∃ W3, W2.setCell ⟨a, 7, none⟩ (.int .i64 (n + 1)) = W3 := ⟨_, rfl⟩
        rw [hW3] at hT3 kg
        simp only [hW3]
        obtain ⟨c3, o3, i3, hp3, _, H3⟩ := hT3.open_
        have k11 : W3.cell? ⟨a, 11, none⟩ = some (.pointer (some ⟨sg, 0, none⟩)) := hp3.c11
        have hE : t.s.againE t.s.base = 0 := by
          have := hok.base
          unfold Snd.againE
          rw [if_neg (by omega), if_pos (by omega)]
        have HA := fun W : World => fun hb : Below W3.heap.size W3 W => sagain_any _ sg t.s hok t.s.base W (hp3.snd.below hb)
        rw [hE] at HA
        have HP3 := Lib.hid hp3
        have HQ : Hid (∀ W, LkTo B c3 W3 a sg rg { (({ t with left := 0, tried := t.tried + 1 } : Lk).dat t.s.base (t.s.againP t.s.base) true) with left := t.timer } W → LkTo B col w a sg rg ({ t with left := 0 } : Lk).rung W) := fun W h => by
          rw [HR0.out]
          exact H1.out _ _ (H2.out _ _ (H2'.out _ _ (H3.out _ _ h)))
        have HNE := Lib.hid (againP_ne hok hE)
        clear hT3 hp3 HR0 hcell HN hE hp2' hbD H2' hW2 hW3 e2 e4 k7 k5 e9 g6 e11' z7 z6'
        go_region_held3 (fun w' => w'.cell? ⟨a, 11, none⟩ = some (.pointer (some ⟨sg, 0, none⟩)) ∧ w'.cell? ⟨g, go, none⟩ = some (.int .i64 t.s.base))
          (first | exact ⟨k11, kg⟩ | exact ⟨below_cell (bl_trans (bl_drew (bl_refl W3)) hb4) k11, below_cell (bl_trans (bl_drew (bl_refl W3)) hb4) kg⟩)
          (first | (go_at_call 28; refine (HA _ (bl_drew (bl_refl _))).mono ?_; rintro e w4 ⟨u, rfl, hu4, hb4⟩))
        have hb4' := bl_trans (bl_drew (bl_refl W3)) hb4
        obtain ⟨vo, vc, rfl⟩ : ∃ uo uc, u = .slice uo (t.s.againP t.s.base).length uc := by
          obtain ⟨⟨⟨_, ao, cap, h, _⟩, _⟩, _⟩ := hu4
          exact ⟨ao, cap, h⟩
        have h4 := HP3.out.skip (n := 7) hb4'
        have hsz := hb4'.size
        have hx4 : Byt (fun k => paint c3 W3 w4 7 k = 7) w4 (.slice vo (t.s.againP t.s.base).length vc) (t.s.againP t.s.base) := by
          refine ⟨⟨hu4.1.1, fun k hk => ?_⟩, hu4.2⟩
          have hk1 : W3.heap.size ≤ k := hu4.1.2 k hk
          exact paint_new hk1 (rd_lt9 hu4.1.1 HNE.out k hk)
        have HD := ldata_any B _ w4 a sg rg _ _ _ h4 t.s.base (t.s.againP t.s.base) true _ hx4 (by show t.out.length ≤ _; omega)
        have H4 : Hid (∀ t' w', LkTo B (paint c3 W3 w4 7) w4 a sg rg t' w' → LkTo B c3 W3 a sg rg t' w') := fun t' w' h => LkTo.then_ hsz (fun k hk _ => paint_old hk) (.of_below hb4') h
        have kg4 := below_cell hb4' kg
        clear hu4 hb4 hb4' h4 hx4 HA kg k11
        go_wp2_with fail
        refine HD.mono ?_
        rintro e w5 ⟨⟨v, rfl⟩, h5⟩
        obtain ⟨c5, o5, i5, hp5, _, H5⟩ := h5.open_
        have q4 : w5.cell? ⟨a, 4, none⟩ = some (.int .i64 t.timer) := hp5.c4
        have z5 := hp5.frozen 6
        have y6 := hp5.c6
        have h6 := HQ.out _ (H4.out _ _ (H5.out _ _ (hp5.putTo (t' := { (({ t with left := 0, tried := t.tried + 1 } : Lk).dat t.s.base (t.s.againP t.s.base) true) with left := t.timer }) 6 (.int .i64 t.timer) rfl rfl rfl rfl rfl)))
        clear h5 hp5 HD
        go_wp2
        go_ret
        exact ⟨rfl, h6⟩
    · have hu0 : t.s.under = 0 := by omega
      rw [if_neg (fun h => hu h.1), if_neg hu] at hr0
      simp only [hu0]
      have e9' : w2.cell? ⟨a, 9, none⟩ = some (.bool t.busy) := e9
      clear e9
      by_cases hb : t.busy = true ∧ 0 < t.s.ps.length
      · rw [if_pos hb] at hr0
        have HL9 := fun W : World => fun hb : Below w2.heap.size w2 W => slen_any _ sg t.s W (HP2.out.snd.below hb)
        have HW := fun W : World => fun hb : Below w2.heap.size w2 W => rcwaits_any _ _ rg t.r W (HP2.out.rcv.below hb)
        have HS := lsend_at B c2 w2 a sg rg o2 i2 _ HP2.out ⟨2, 0, t.r.waits, true, 0, t.peer, []⟩ _ (byt_nil _ _) (by show t.out.length ≤ _; omega)
        have m1 : w2.cell? ⟨a, 1, none⟩ = some (.int .i64 t.peer) := HP2.out.c1
        have m12 : w2.cell? ⟨a, 12, none⟩ = some (.pointer (some ⟨rg, 0, none⟩)) := HP2.out.c12
        have HR0 := Lib.hid hr0
        have hpl : (0 : Int) < (t.s.ps.length : Int) := by omega
        rw [hb.1] at e9'
        clear hr0 hb
        go_wp2_with fail
        go_quiet (fail)
        go_wp2_with fail
        refine (HL9 _ (bl_drewN (bl_refl _) _)).mono ?_
        rintro e w9 ⟨rfl, rfl⟩
        go_wp2_with fail
        go_region_held3 (fun w' => w'.cell? ⟨a, 1, none⟩ = some (.int .i64 t.peer) ∧ w'.cell? ⟨a, 12, none⟩ = some (.pointer (some ⟨rg, 0, none⟩)))
          (first | exact ⟨below_cell (bl_drewN (bl_refl _) _) m1, below_cell (bl_drewN (bl_refl _) _) m12⟩ | exact ⟨hp4.c1, hp4.c12⟩)
          (first | (go_at_call 32; refine (HW _ (bl_drew (bl_drewN (bl_refl _) _))).mono ?_; rintro e w3 ⟨rfl, rfl⟩) | (go_at_call 31; refine (HS _ (bl_drew (bl_drewN (bl_refl _) _))).mono ?_; rintro e w4 ⟨⟨v, rfl⟩, h4⟩; obtain ⟨c4, o4, i4, hp4, _, H4⟩ := h4.open_))
        have q4 : w4.cell? ⟨a, 4, none⟩ = some (.int .i64 t.timer) := hp4.c4
        have z5 := hp4.frozen 6
        have y6 := hp4.c6
        have h6 := H1.out _ _ (H2.out _ _ (H4.out _ _ (hp4.putTo (t' := ({ t with left := 0 } : Lk).rung) 6 (.int .i64 t.timer) (by rw [HR0.out]; rfl) (by rw [HR0.out]) (by rw [HR0.out]) (by rw [HR0.out]) (by rw [HR0.out]))))
        clear h4 hp4 HW HS HL9
        go_wp2
        go_ret
        exact ⟨rfl, h6⟩
      · rw [if_neg hb] at hr0
        have HK : Hid (∀ W, Below w2.heap.size w2 W → LkTo B col w a sg rg ({ t with left := 0 } : Lk).rung W) := fun W hb => by
          rw [hr0]
          exact H1.out _ _ (H2.out _ _ (HP2.out.skipTo hb))
        have HL9 := fun W : World => fun hb : Below w2.heap.size w2 W => slen_any _ sg t.s W (HP2.out.snd.below hb)
        clear hr0
        cases hbz : t.busy with
        | false =>
          rw [hbz] at e9'
          clear hb HL9
          go_wp2_with fail
          go_quiet (fail)
          go_wp2
          go_ret
          exact ⟨rfl, HK.out _ (bl_drewN (bl_refl _) _)⟩
        | true =>
          rw [hbz] at e9'
          have hl0 : t.s.ps.length = 0 := by
            rw [hbz] at hb
            simp at hb
            simp [hb]
          rw [hl0] at HL9
          clear hb
          go_wp2_with fail
          go_quiet (fail)
          go_wp2_with fail
          refine (HL9 _ (bl_drewN (bl_refl _) _)).mono ?_
          rintro e w9 ⟨rfl, rfl⟩
          go_wp2
          go_ret
          exact ⟨rfl, HK.out _ (bl_drewN (bl_refl _) _)⟩

end Go.Proofs.Ythmdibagcbbgoaa
