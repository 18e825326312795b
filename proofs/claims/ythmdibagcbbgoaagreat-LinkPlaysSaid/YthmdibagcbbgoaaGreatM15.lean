/- (*link.Link).sabme. (*link.Link).ready. Written by program (gen_lnkg.py). Conditions: as they stand. -/
import Derived.BigQuiet
import Derived.Test.YthmdibagcbbgoaaGreatM14
namespace Go.Proofs.YthmdibagcbbgoaaGreat
open Go.RowKit

set_option maxRecDepth 100000 in
set_option maxHeartbeats 2000000 in
theorem lsabme_any (B : Nat) (col : Nat → Nat) (w : World) (a sg rg : Nat) (ov iv : Value) (t : Lk) (h : LkP B col w a sg rg ov iv t) (c : Cn) (x : Value) (hx : Pl col w x c.data) (hm : t.out.length ≤ 100000) :
    Calls Tryz.prog 57 #[.pointer (some ⟨a, 0, none⟩), .agg #[.int .i64 c.kind, .int .i64 c.ns, .int .i64 c.nr, .bool c.p, .int .i64 c.me, .int .i64 c.peer, x]] w fun e w' => (∃ v, e = .returned v) ∧ LkTo B col w a sg rg (t.sabme c.me c.p) w' := by
  obtain ⟨xo, xc, rfl⟩ : ∃ xo xc, x = .slice xo c.data.length xc := by
    obtain ⟨⟨_, ao, cap, h, _⟩, _⟩ := hx
    exact ⟨ao, cap, h⟩
  obtain ⟨kind, ns, nr, pp, cme, cpeer, data⟩ := c
  dsimp only at hx ⊢
  by_cases hmp : cme = t.peer
  · subst hmp
    have hq : t.sabme t.peer pp = t.send ⟨6, 0, 0, pp, 0, t.peer, []⟩ := by unfold Lk.sabme Lk.sabmed; rw [if_pos rfl]
    obtain ⟨w1, c1, hw1, h1, H1, hc0, hx1, d0, d1, d2, d3, d4, d5, d6⟩ := ctl_box h ⟨kind, ns, nr, pp, t.peer, cpeer, data⟩ _ hx
    dsimp only at hw1 d3 d4
    have e1 := h1.c1
    have HS := lsend_at B c1 w1 a sg rg ov iv t h1 ⟨6, 0, 0, pp, 0, t.peer, []⟩ _ (byt_nil _ _) hm
    have HP1 := Lib.hid h1
    clear h h1 hx hx1 d0 d1 d2 d5 d6
    go_enter Tryz.func57, Tryz.ntmps57
    go_wp2_with fail
    try simp only [hw1]
    go_quiet (fail)
    go_wp2_with fail
    go_region_held3 (fun w' => w'.cell? ⟨a, 1, none⟩ = some (.int .i64 t.peer) ∧ w'.cell? ⟨w.heap.size, 3, none⟩ = some (.bool pp))
      (first | exact ⟨e1, d3⟩ | exact ⟨hp4.c1, HF4.out.cell d3 (by omega)⟩)
      (first | (go_at_call 39; refine (HS _ (bl_drew (bl_drewN (bl_refl _) _))).mono ?_; rintro e w4 ⟨⟨v, rfl⟩, h4⟩; obtain ⟨c4, o4, i4, hp4, _, HF4, _⟩ := h4.openf))
    have h6 := H1.out _ _ h4
    rw [← hq] at h6
    clear hq h4
    go_wp2
    go_end0
    exact ⟨⟨_, rfl⟩, h6⟩
  · have hmB : (cme == t.peer) = false := by simpa using hmp
    obtain ⟨w1, c1, hw1, h1, H1, hc0, hx1, d0, d1, d2, d3, d4, d5, d6⟩ := ctl_box h ⟨kind, ns, nr, pp, cme, cpeer, data⟩ _ hx
    dsimp only at hw1 d3 d4
    have e1 := h1.c1
    have e6 := h1.c6
    have z1 := h1.frozen 1
    have HD : ∀ W, Below w1.heap.size w1 W → Calls Tryz.prog 69 #[.pointer (some ⟨a, 0, none⟩)] (W.setCell ⟨a, 1, none⟩ (.int .i64 cme)) fun e w' => (∃ v, e = .returned v) ∧ LkTo B c1 w1 a sg rg ({ t with peer := cme } : Lk).reset w' := by
      intro W hb
      obtain ⟨c2, o2, i2, hp2, _, H2⟩ := ((h1.skip (n := 0) hb).putTo (t' := { t with peer := cme }) 1 (.int .i64 cme) rfl rfl rfl rfl rfl).open_
      exact (lreset_any B c2 _ a sg rg o2 i2 _ hp2).mono fun e w' h => ⟨h.1, (skip_lift c1 hb).out _ _ (H2.out _ _ h.2)⟩
    have HP1 := Lib.hid h1
    have HM := Lib.hid hm
    clear h h1 hx hx1 d0 d1 d2 d5 d6
    go_enter Tryz.func57, Tryz.ntmps57
    go_wp2_with fail
    try simp only [hw1]
    go_quiet (fail)
    go_wp2_with fail
    refine (HD _ (bl_drewN (bl_refl _) _)).mono ?_
    rintro e w2 ⟨⟨v, rfl⟩, h2⟩
    obtain ⟨c2, o2, i2, hp2, hc2, HF2, H2⟩ := h2.openf
    have k2 : w2.cell? ⟨a, 2, none⟩ = some (.bool t.up) := hp2.c2
    have k1 : w2.cell? ⟨a, 1, none⟩ = some (.int .i64 cme) := hp2.c1
    have k6 := hp2.c6
    have y6 := hp2.frozen 6
    have kb := HF2.out.cell d3 (by omega)
    have hcb2 : Hid (c2 w.heap.size = 0) := by
      have := hc2 w.heap.size (cell_lt d3)
      unfold Hid
      omega
    have HP2 := Lib.hid hp2
    clear h2 HD hc2 d3 hp2
    cases hup : t.up with
    | true =>
      have hq : t.sabme cme pp = ({ t with peer := cme } : Lk).reset.send ⟨6, 0, 0, pp, 0, cme, []⟩ := by unfold Lk.sabme Lk.sabmed; rw [if_neg hmp, if_pos hup]; rfl
      rw [hup] at k2
      have HS := lsend_at B c2 w2 a sg rg _ _ _ HP2.out ⟨6, 0, 0, pp, 0, cme, []⟩ _ (byt_nil _ _) HM.out
      go_wp2_with fail
      go_region_held3 (fun w' => w'.cell? ⟨a, 1, none⟩ = some (.int .i64 cme) ∧ w'.cell? ⟨w.heap.size, 3, none⟩ = some (.bool pp))
        (first | exact ⟨k1, kb⟩ | exact ⟨hp4.c1, HF4.out.cell kb (by have := hcb2.out; omega)⟩)
        (first | (go_at_call 39; refine (HS _ (bl_drew (bl_refl _))).mono ?_; rintro e w4 ⟨⟨v, rfl⟩, h4⟩; obtain ⟨c4, o4, i4, hp4, _, HF4, _⟩ := h4.openf))
      have h6 := H1.out _ _ (H2.out _ _ h4)
      rw [← hq] at h6
      clear hq h4
      go_wp2
      go_end0
      exact ⟨⟨_, rfl⟩, h6⟩
    | false =>
      have hq : t.sabme cme pp = ({ ({ t with peer := cme } : Lk).reset with left := t.left } : Lk).send ⟨6, 0, 0, pp, 0, cme, []⟩ := by unfold Lk.sabme Lk.sabmed; rw [if_neg hmp, if_neg (by rw [hup]; decide)]; rfl
      rw [hup] at k2
      obtain ⟨c3, o3, i3, hp3, hc3, HF3, H3⟩ := (HP2.out.putTo (t' := { ({ t with peer := cme } : Lk).reset with left := t.left }) 6 (.int .i64 t.left) rfl rfl rfl rfl rfl).openf
      have m1 : (w2.setCell ⟨a, 6, none⟩ (.int .i64 t.left)).cell? ⟨a, 1, none⟩ = some (.int .i64 cme) := hp3.c1
      have mb := HF3.out.cell kb (by have := hcb2.out; omega)
      have HS := lsend_at B c3 _ a sg rg _ _ _ hp3 ⟨6, 0, 0, pp, 0, cme, []⟩ _ (byt_nil _ _) HM.out
      have hcb3 : Hid (c3 w.heap.size = 0) := by
        have h9 := hc3 w.heap.size (cell_lt kb)
        have := hcb2.out
        unfold Hid
        omega
      clear hp3 hc3
      go_wp2_with fail
      go_region_held3 (fun w' => w'.cell? ⟨a, 1, none⟩ = some (.int .i64 cme) ∧ w'.cell? ⟨w.heap.size, 3, none⟩ = some (.bool pp))
        (first | exact ⟨m1, mb⟩ | exact ⟨hp4.c1, HF4.out.cell mb (by have := hcb3.out; omega)⟩)
        (first | (go_at_call 39; refine (HS _ (bl_drew (bl_refl _))).mono ?_; rintro e w4 ⟨⟨v, rfl⟩, h4⟩; obtain ⟨c4, o4, i4, hp4, _, HF4, _⟩ := h4.openf))
      have h6 := H1.out _ _ (H2.out _ _ (H3.out _ _ h4))
      rw [← hq] at h6
      clear hq h4
      go_wp2
      go_end0
      exact ⟨⟨_, rfl⟩, h6⟩

end Go.Proofs.YthmdibagcbbgoaaGreat

namespace Go.Proofs.YthmdibagcbbgoaaGreat
open Go.RowKit

def Lk.rearm (t : Lk) : Lk := if t.busy = true ∧ 0 < t.s.ps.length ∧ t.left = 0 then { t with left := t.timer } else t
def Lk.ready (t : Lk) (kind nr : Int) (p : Bool) : Lk :=
  if p = true then (({ t with busy := (kind == 3) } : Lk).ack nr).goes.rearm.answer else (({ t with busy := (kind == 3) } : Lk).ack nr).goes.rearm
/-- What goes leaves as it was. -/
structure Went (n : Nat) (t t' : Lk) : Prop where
  ok : t.s.Ok → t'.s.Ok
  out : t'.out.length ≤ t.out.length + n
  same : t'.me = t.me ∧ t'.peer = t.peer ∧ t'.up = t.up ∧ t'.size = t.size ∧ t'.timer = t.timer ∧ t'.tries = t.tries ∧ t'.tried = t.tried ∧ t'.resets = t.resets ∧ t'.busy = t.busy ∧ t'.held = t.held ∧ t'.r = t.r ∧ t'.inn = t.inn ∧ t'.s.ps = t.s.ps ∧ t'.s.size = t.s.size
theorem goesN_went : ∀ (n : Nat) (t : Lk), Went n t (goesN n t)
  | 0, t => ⟨id, by simp [goesN], by simp [goesN]⟩
  | n + 1, t => by
    unfold goesN
    split
    · obtain ⟨h1, h2, h3⟩ := goesN_went n t.goOne
      have e : t.goOne.s.ps = t.s.ps ∧ t.goOne.s.size = t.s.size := by
        show t.s.send.ps = _ ∧ t.s.send.size = _
        unfold Snd.send
        split <;> exact ⟨rfl, rfl⟩
      have eo : t.goOne.out.length = t.out.length + 1 := by
        show (t.out ++ [_]).length = _
        simp
      refine ⟨fun h => h1 (snd_send_ok h), by omega, ?_⟩
      obtain ⟨a1, a2, a3, a4, a5, a6, a7, a8, a9, a10, a11, a12, a13, a14⟩ := h3
      exact ⟨a1, a2, a3, a4, a5, a6, a7, a8, a9, a10, a11, a12, a13.trans e.1, a14.trans e.2⟩
    · exact ⟨id, by omega, by simp⟩
theorem goes_went (t : Lk) : Went 64 t t.goes := goesN_went 64 t
theorem ack_s (t : Lk) (nr : Int) : (t.ack nr).s = t.s.ack nr ∧ (t.ack nr).out = t.out := by
  unfold Lk.ack
  split <;> exact ⟨rfl, rfl⟩

set_option maxRecDepth 100000 in
set_option maxHeartbeats 4000000 in
theorem lready_any (B : Nat) (col : Nat → Nat) (w : World) (a sg rg : Nat) (ov iv : Value) (t : Lk) (h : LkP B col w a sg rg ov iv t) (hok : t.s.Ok) (c : Cn) (x : Value) (hx : Pl col w x c.data) (hm : t.out.length ≤ 80000) :
    Calls Tryz.prog 83 #[.pointer (some ⟨a, 0, none⟩), .agg #[.int .i64 c.kind, .int .i64 c.ns, .int .i64 c.nr, .bool c.p, .int .i64 c.me, .int .i64 c.peer, x]] w fun e w' => (∃ v, e = .returned v) ∧ LkTo B col w a sg rg (t.ready c.kind c.nr c.p) w' := by
  obtain ⟨xo, xc, rfl⟩ : ∃ xo xc, x = .slice xo c.data.length xc := by
    obtain ⟨⟨_, ao, cap, h, _⟩, _⟩ := hx
    exact ⟨ao, cap, h⟩
  obtain ⟨kind, ns, nr, pp, cme, cpeer, data⟩ := c
  dsimp only at hx ⊢
  obtain ⟨w1, c1, hw1, h1, H1, hc0, hx1, d0, d1, d2, d3, d4, d5, d6⟩ := ctl_box h ⟨kind, ns, nr, pp, cme, cpeer, data⟩ _ hx
  dsimp only at hw1 d0 d2 d3
  obtain ⟨T, hT⟩ : ∃ T, (({ t with busy := (kind == 3) } : Lk).ack nr).goes = T := ⟨_, rfl⟩
  have hq : t.ready kind nr pp = if pp = true then T.rearm.answer else T.rearm := by unfold Lk.ready; rw [hT]
  obtain ⟨bz, hbz⟩ : ∃ bz, (kind == 3) = bz := ⟨_, rfl⟩
  rw [hbz] at hT
  have e9 := h1.c9
  have z9 := h1.frozen 9
  obtain ⟨c2, o2, i2, hp2, hc2, HF2, H2⟩ := (h1.putTo (t' := { t with busy := bz }) 9 (.bool bz) rfl rfl rfl rfl rfl).openf
  have k2 := HF2.out.cell d2 (by omega)
  have k3 := HF2.out.cell d3 (by omega)
  have hcb2 : Hid (c2 w.heap.size = 0) := by
    have := hc2 w.heap.size (cell_lt d3)
    unfold Hid
    omega
  have HAK := lack_any B c2 _ a sg rg _ _ _ hp2 hok nr
  clear h h1 hx hx1 hc0 d1 d4 d5 d6 hp2 hc2 d2 d3
  go_enter Tryz.func83, Tryz.ntmps83
  go_wp2_with fail
  try simp only [hw1]
  go_wp2_with fail
  refine HAK.mono ?_
  rintro e w3 ⟨⟨v, rfl⟩, h3⟩
  obtain ⟨c3, o3, i3, hp3, hc3, HF3, H3⟩ := h3.openf
  have m3 := HF3.out.cell k3 (by have := hcb2.out; omega)
  have hcb3 : Hid (c3 w.heap.size = 0) := by
    have := hc3 w.heap.size (cell_lt k3)
    have := hcb2.out
    unfold Hid
    omega
  obtain ⟨hs3, ho3⟩ := ack_s ({ t with busy := bz } : Lk) nr
  have HG := lgoes_any B c3 w3 a sg rg _ _ _ hp3 (by rw [hs3]; exact Snd.ack_ok hok nr) (by rw [ho3]; show t.out.length ≤ _; omega)
  have HOK : Hid (T.s.Ok) := by rw [← hT]; exact (goes_went _).ok (by rw [hs3]; exact Snd.ack_ok hok nr)
  have HOL : Hid (T.out.length ≤ 90000) := by
    have := (goes_went (({ t with busy := bz } : Lk).ack nr)).out
    rw [hT, ho3] at this
    unfold Hid
    have e : ({ t with busy := bz } : Lk).out = t.out := rfl
    rw [e] at this
    omega
  rw [hT] at HG
  clear h3 hp3 hc3 HAK k2 k3 hs3 ho3 hT
  go_wp2_with fail
  refine HG.mono ?_
  rintro e w4 ⟨⟨v, rfl⟩, h4⟩
  obtain ⟨c4, o4, i4, hp4, hc4, HF4, H4⟩ := h4.openf
  have n3 := HF4.out.cell m3 (by have := hcb3.out; omega)
  have e9 := hp4.c9
  have e11 := hp4.c11
  have e6 := hp4.c6
  have e4 := hp4.c4
  have z6 := hp4.frozen 6
  have HL := slen_any _ sg T.s w4 hp4.snd
  have HP4 := Lib.hid hp4
  have hcb4 : Hid (c4 w.heap.size = 0) := by
    have := hc4 w.heap.size (cell_lt m3)
    have := hcb3.out
    unfold Hid
    omega
  have HQ : Hid (∀ W, LkTo B c4 w4 a sg rg (if pp = true then T.rearm.answer else T.rearm) W → LkTo B col w a sg rg (t.ready kind nr pp) W) := fun W h => by rw [hq]; exact H1.out _ _ (H2.out _ _ (H3.out _ _ (H4.out _ _ h)))
  clear h4 hp4 hc4 HG m3 H1 H2 H3 H4 HF2 HF3 hq
  have hr0 : ¬ (T.busy = true ∧ 0 < T.s.ps.length ∧ T.left = 0) → T.rearm = T := fun h => by unfold Lk.rearm; rw [if_neg h]
  cases hb : T.busy with
  | false =>
    have hr := hr0 (fun h => by rw [hb] at h; cases h.1)
    rw [hb] at e9
    have hp5 := HP4.out
    rw [← hr] at hp5
    have H5 : Hid (∀ t2 w2, LkTo B c4 w4 a sg rg t2 w2 → LkTo B c4 w4 a sg rg t2 w2) := fun _ _ h => h
    have n5 := n3
    have hol5 : T.rearm.out.length ≤ 100000 := by rw [hr]; have := HOL.out; omega
    cases pp with
    | false =>
      have hE := HQ.out _ (H5.out _ _ hp5.to)
      clear hp5 hr hr0
      go_wp2
      go_end0
      exact ⟨⟨_, rfl⟩, hE⟩
    | true =>
      have HA := lanswer_any B c4 _ a sg rg _ _ _ hp5 hol5
      clear hp5 hr hr0
      go_wp2_with fail
      refine HA.mono ?_
      rintro e w6 ⟨⟨v, rfl⟩, h6⟩
      have hE := HQ.out _ (H5.out _ _ h6)
      clear h6 HA
      go_wp2
      go_end0
      exact ⟨⟨_, rfl⟩, hE⟩
  | true =>
    rw [hb] at e9
    go_wp2_with fail
    refine HL.mono ?_
    rintro e w5 ⟨rfl, rfl⟩
    by_cases hps : 0 < T.s.ps.length
    · have hpsI : (0 : Int) < (T.s.ps.length : Int) := by omega
      by_cases hl : T.left = 0
      · have hr : T.rearm = { T with left := T.timer } := by unfold Lk.rearm; rw [if_pos ⟨hb, hps, hl⟩]
        rw [hl] at e6
        obtain ⟨c5, o5, i5, hp5, hc5, HF5, H5⟩ := (HP4.out.putTo (t' := T.rearm) 6 (.int .i64 T.timer) (by rw [hr]; rfl) (by rw [hr]) (by rw [hr]) (by rw [hr]) (by rw [hr])).openf
        have n5 := HF5.out.cell n3 (by have := hcb4.out; omega)
        have hol5 : T.rearm.out.length ≤ 100000 := by rw [hr]; have := HOL.out; show T.out.length ≤ _; omega
        cases pp with
        | false =>
          have hE := HQ.out _ (H5.out _ _ hp5.to)
          clear hp5 hr hr0
          go_wp2
          go_end0
          exact ⟨⟨_, rfl⟩, hE⟩
        | true =>
          have HA := lanswer_any B c5 _ a sg rg _ _ _ hp5 hol5
          clear hp5 hr hr0
          go_wp2_with fail
          refine HA.mono ?_
          rintro e w6 ⟨⟨v, rfl⟩, h6⟩
          have hE := HQ.out _ (H5.out _ _ h6)
          clear h6 HA
          go_wp2
          go_end0
          exact ⟨⟨_, rfl⟩, hE⟩
      · have hr := hr0 (fun h => hl h.2.2)
        have hlB : (T.left = 0) = False := by simp; exact hl
        have hp5 := HP4.out
        rw [← hr] at hp5
        have H5 : Hid (∀ t2 w2, LkTo B c4 w4 a sg rg t2 w2 → LkTo B c4 w4 a sg rg t2 w2) := fun _ _ h => h
        have n5 := n3
        have hol5 : T.rearm.out.length ≤ 100000 := by rw [hr]; have := HOL.out; omega
        cases pp with
        | false =>
          have hE := HQ.out _ (H5.out _ _ hp5.to)
          clear hp5 hr hr0
          go_wp2
          go_end0
          exact ⟨⟨_, rfl⟩, hE⟩
        | true =>
          have HA := lanswer_any B c4 _ a sg rg _ _ _ hp5 hol5
          clear hp5 hr hr0
          go_wp2_with fail
          refine HA.mono ?_
          rintro e w6 ⟨⟨v, rfl⟩, h6⟩
          have hE := HQ.out _ (H5.out _ _ h6)
          clear h6 HA
          go_wp2
          go_end0
          exact ⟨⟨_, rfl⟩, hE⟩
    · have hps0 : T.s.ps.length = 0 := by omega
      have hr := hr0 (fun h => hps h.2.1)
      simp only [hps0]
      have hp5 := HP4.out
      rw [← hr] at hp5
      have H5 : Hid (∀ t2 w2, LkTo B c4 w4 a sg rg t2 w2 → LkTo B c4 w4 a sg rg t2 w2) := fun _ _ h => h
      have n5 := n3
      have hol5 : T.rearm.out.length ≤ 100000 := by rw [hr]; have := HOL.out; omega
      cases pp with
      | false =>
        have hE := HQ.out _ (H5.out _ _ hp5.to)
        clear hp5 hr hr0
        go_wp2
        go_end0
        exact ⟨⟨_, rfl⟩, hE⟩
      | true =>
        have HA := lanswer_any B c4 _ a sg rg _ _ _ hp5 hol5
        clear hp5 hr hr0
        go_wp2_with fail
        refine HA.mono ?_
        rintro e w6 ⟨⟨v, rfl⟩, h6⟩
        have hE := HQ.out _ (H5.out _ _ h6)
        clear h6 HA
        go_wp2
        go_end0
        exact ⟨⟨_, rfl⟩, hE⟩

end Go.Proofs.YthmdibagcbbgoaaGreat
