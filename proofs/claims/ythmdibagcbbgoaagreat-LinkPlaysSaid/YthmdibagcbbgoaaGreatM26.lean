/- (*link.Link).Receive. Written by program (gen_lnki.py). What an end's operations leave right, and how much they send. No program in sight. Conditions: as they stand. -/
import Derived.BigQuiet
import Derived.Test.YthmdibagcbbgoaaGreatM16
import Derived.Test.YthmdibagcbbgoaaGreatM25
namespace Go.Proofs.YthmdibagcbbgoaaGreat
open Go.RowKit

def Cn.chk (c : Cn) : Int := chkN c.kind c.ns c.nr c.me c.peer c.data.length
def Lk.recv (t : Lk) (c : Cn) : Lk :=
  if c.chk ≠ 0 then t else if c.kind = 5 then t.sabme c.me c.p else if c.kind = 6 then t.ua c.peer c.me else if c.kind = 7 then t.dm c.peer c.me
  else if c.me = t.peer ∧ c.peer = t.me then t.fits c else if t.up = true then t else t.send ⟨7, 0, 0, false, 0, c.me, []⟩

set_option maxRecDepth 100000 in
set_option maxHeartbeats 4000000 in
theorem lrecv_any (B : Nat) (col : Nat → Nat) (w : World) (a sg rg : Nat) (ov iv : Value) (t : Lk) (h : LkP B col w a sg rg ov iv t) (hme : t.me < 65536) (hok : t.s.Ok) (hokr : t.r.Ok) (c : Cn) (x : Value) (hx : Pl col w x c.data) (hm : t.out.length ≤ 80000) (hmi : t.inn.length ≤ 80000) :
    Calls Tryz.prog 33 #[.pointer (some ⟨a, 0, none⟩), .agg #[.int .i64 c.kind, .int .i64 c.ns, .int .i64 c.nr, .bool c.p, .int .i64 c.me, .int .i64 c.peer, x]] w fun e w' => e = .returned (.int .i64 c.chk) ∧ LkTo B col w a sg rg (t.recv c) w' := by
  obtain ⟨xo, xc, rfl⟩ : ∃ xo xc, x = .slice xo c.data.length xc := by
    obtain ⟨⟨_, ao, cap, h, _⟩, _⟩ := hx
    exact ⟨ao, cap, h⟩
  obtain ⟨kind, ns, nr, pp, cme, cpeer, data⟩ := c
  dsimp only at hx ⊢
  obtain ⟨ck, hck⟩ : ∃ ck, chkN kind ns nr cme cpeer data.length = ck := ⟨_, rfl⟩
  have hcc : (⟨kind, ns, nr, pp, cme, cpeer, data⟩ : Cn).chk = ck := hck
  rw [hcc]
  by_cases hc : ck = 0
  · subst hc
    by_cases hk5 : kind = 5
    · subst hk5
      have hq : t.recv ⟨5, ns, nr, pp, cme, cpeer, data⟩ = t.sabme cme pp := by unfold Lk.recv; rw [if_neg (by rw [hcc]; decide), if_pos rfl]
      clear hcc
      obtain ⟨w1, c1, hw1, h1, H1, hc0, hx1, d0, d1, d2, d3, d4, d5, d6⟩ := ctl_box h ⟨5, ns, nr, pp, cme, cpeer, data⟩ _ hx
      dsimp only at hw1 d0 d1 d2 d3 d4 d5 d6 hx1
      have HCK := check_any 5 ns nr pp cme cpeer xo data.length xc w1
      rw [hck] at HCK
      have HP1 := Lib.hid h1
      have HX1 := Lib.hid hx1
      clear h h1 hx hx1
      go_enter Tryz.func33, Tryz.ntmps33
      go_wp2_with fail
      try simp only [hw1]
      go_wp2_with fail
      refine HCK.mono ?_
      rintro e w2 ⟨rfl, hb2⟩
      have k0 := below_cell hb2 d0
      have k1 := below_cell hb2 d1
      have k2 := below_cell hb2 d2
      have k3 := below_cell hb2 d3
      have k4 := below_cell hb2 d4
      have k5 := below_cell hb2 d5
      have k6 := below_cell hb2 d6
      have hp2 := HP1.out.skip (n := 0) hb2
      have HX2 : Hid (Pl (paint c1 w1 w2 0) w2 _ _) := HX1.out.fr (G := fun _ => False) (.of_below hb2) (fun k hk hn => ⟨fun h => h, by rw [paint_old hk]; exact hn⟩)
      have H2 := skip_lift (B := B) (a := a) (sg := sg) (rg := rg) c1 hb2
      have hcb2 : paint c1 w1 w2 0 w.heap.size = 0 := by rw [paint_old (cell_lt d0)]; exact hc0
      generalize paint c1 w1 w2 0 = c2 at hp2 HX2 H2 hcb2
      have HP2 := Lib.hid hp2
      have f0 := hp2.c0
      have f1 := hp2.c1
      have f2 := hp2.c2
      clear hp2 HCK d0 d1 d2 d3 d4 d5 d6 hb2 HX1
      have HA := lsabme_any B c2 w2 a sg rg _ _ _ HP2.out ⟨5, ns, nr, pp, cme, cpeer, data⟩ _ HX2.out (by omega)
      try dsimp only at HA
      rw [← hq] at HA
      clear hq
      go_wp2_with fail
      refine HA.mono ?_
      rintro e w5 ⟨⟨v, rfl⟩, h5⟩
      have h6 := H1.out _ _ (H2.out _ _ h5)
      clear h5 HA
      go_wp2
      go_ret
      exact ⟨rfl, h6⟩
    by_cases hk6 : kind = 6
    · subst hk6
      have hq : t.recv ⟨6, ns, nr, pp, cme, cpeer, data⟩ = t.ua cpeer cme := by unfold Lk.recv; rw [if_neg (by rw [hcc]; decide), if_neg (by show ¬ (6 : Int) = 5; decide), if_pos rfl]
      clear hcc
      obtain ⟨w1, c1, hw1, h1, H1, hc0, hx1, d0, d1, d2, d3, d4, d5, d6⟩ := ctl_box h ⟨6, ns, nr, pp, cme, cpeer, data⟩ _ hx
      dsimp only at hw1 d0 d1 d2 d3 d4 d5 d6 hx1
      have HCK := check_any 6 ns nr pp cme cpeer xo data.length xc w1
      rw [hck] at HCK
      have HP1 := Lib.hid h1
      have HX1 := Lib.hid hx1
      clear h h1 hx hx1
      go_enter Tryz.func33, Tryz.ntmps33
      go_wp2_with fail
      try simp only [hw1]
      go_wp2_with fail
      refine HCK.mono ?_
      rintro e w2 ⟨rfl, hb2⟩
      have k0 := below_cell hb2 d0
      have k1 := below_cell hb2 d1
      have k2 := below_cell hb2 d2
      have k3 := below_cell hb2 d3
      have k4 := below_cell hb2 d4
      have k5 := below_cell hb2 d5
      have k6 := below_cell hb2 d6
      have hp2 := HP1.out.skip (n := 0) hb2
      have HX2 : Hid (Pl (paint c1 w1 w2 0) w2 _ _) := HX1.out.fr (G := fun _ => False) (.of_below hb2) (fun k hk hn => ⟨fun h => h, by rw [paint_old hk]; exact hn⟩)
      have H2 := skip_lift (B := B) (a := a) (sg := sg) (rg := rg) c1 hb2
      have hcb2 : paint c1 w1 w2 0 w.heap.size = 0 := by rw [paint_old (cell_lt d0)]; exact hc0
      generalize paint c1 w1 w2 0 = c2 at hp2 HX2 H2 hcb2
      have HP2 := Lib.hid hp2
      have f0 := hp2.c0
      have f1 := hp2.c1
      have f2 := hp2.c2
      clear hp2 HCK d0 d1 d2 d3 d4 d5 d6 hb2 HX1
      have HA := lua_any B c2 w2 a sg rg _ _ _ HP2.out ⟨6, ns, nr, pp, cme, cpeer, data⟩ _ HX2.out
      try dsimp only at HA
      rw [← hq] at HA
      clear hq
      go_wp2_with fail
      refine HA.mono ?_
      rintro e w5 ⟨⟨v, rfl⟩, h5⟩
      have h6 := H1.out _ _ (H2.out _ _ h5)
      clear h5 HA
      go_wp2
      go_ret
      exact ⟨rfl, h6⟩
    by_cases hk7 : kind = 7
    · subst hk7
      have hq : t.recv ⟨7, ns, nr, pp, cme, cpeer, data⟩ = t.dm cpeer cme := by unfold Lk.recv; rw [if_neg (by rw [hcc]; decide), if_neg (by show ¬ (7 : Int) = 5; decide), if_neg (by show ¬ (7 : Int) = 6; decide), if_pos rfl]
      clear hcc
      obtain ⟨w1, c1, hw1, h1, H1, hc0, hx1, d0, d1, d2, d3, d4, d5, d6⟩ := ctl_box h ⟨7, ns, nr, pp, cme, cpeer, data⟩ _ hx
      dsimp only at hw1 d0 d1 d2 d3 d4 d5 d6 hx1
      have HCK := check_any 7 ns nr pp cme cpeer xo data.length xc w1
      rw [hck] at HCK
      have HP1 := Lib.hid h1
      have HX1 := Lib.hid hx1
      clear h h1 hx hx1
      go_enter Tryz.func33, Tryz.ntmps33
      go_wp2_with fail
      try simp only [hw1]
      go_wp2_with fail
      refine HCK.mono ?_
      rintro e w2 ⟨rfl, hb2⟩
      have k0 := below_cell hb2 d0
      have k1 := below_cell hb2 d1
      have k2 := below_cell hb2 d2
      have k3 := below_cell hb2 d3
      have k4 := below_cell hb2 d4
      have k5 := below_cell hb2 d5
      have k6 := below_cell hb2 d6
      have hp2 := HP1.out.skip (n := 0) hb2
      have HX2 : Hid (Pl (paint c1 w1 w2 0) w2 _ _) := HX1.out.fr (G := fun _ => False) (.of_below hb2) (fun k hk hn => ⟨fun h => h, by rw [paint_old hk]; exact hn⟩)
      have H2 := skip_lift (B := B) (a := a) (sg := sg) (rg := rg) c1 hb2
      have hcb2 : paint c1 w1 w2 0 w.heap.size = 0 := by rw [paint_old (cell_lt d0)]; exact hc0
      generalize paint c1 w1 w2 0 = c2 at hp2 HX2 H2 hcb2
      have HP2 := Lib.hid hp2
      have f0 := hp2.c0
      have f1 := hp2.c1
      have f2 := hp2.c2
      clear hp2 HCK d0 d1 d2 d3 d4 d5 d6 hb2 HX1
      have HA := ldm_any B c2 w2 a sg rg _ _ _ HP2.out hme ⟨7, ns, nr, pp, cme, cpeer, data⟩ _ HX2.out (by omega)
      try dsimp only at HA
      rw [← hq] at HA
      clear hq
      go_wp2_with fail
      refine HA.mono ?_
      rintro e w5 ⟨⟨v, rfl⟩, h5⟩
      have h6 := H1.out _ _ (H2.out _ _ h5)
      clear h5 HA
      go_wp2
      go_ret
      exact ⟨rfl, h6⟩
    by_cases hmp : cme = t.peer
    · subst hmp
      by_cases hpe : cpeer = t.me
      · subst hpe
        have hq : t.recv ⟨kind, ns, nr, pp, t.peer, t.me, data⟩ = t.fits ⟨kind, ns, nr, pp, t.peer, t.me, data⟩ := by unfold Lk.recv; rw [if_neg (by rw [hcc]; decide), if_neg hk5, if_neg hk6, if_neg hk7, if_pos ⟨rfl, rfl⟩]
        clear hcc
        obtain ⟨w1, c1, hw1, h1, H1, hc0, hx1, d0, d1, d2, d3, d4, d5, d6⟩ := ctl_box h ⟨kind, ns, nr, pp, t.peer, t.me, data⟩ _ hx
        dsimp only at hw1 d0 d1 d2 d3 d4 d5 d6 hx1
        have HCK := check_any kind ns nr pp t.peer t.me xo data.length xc w1
        rw [hck] at HCK
        have HP1 := Lib.hid h1
        have HX1 := Lib.hid hx1
        clear h h1 hx hx1
        go_enter Tryz.func33, Tryz.ntmps33
        go_wp2_with fail
        try simp only [hw1]
        go_wp2_with fail
        refine HCK.mono ?_
        rintro e w2 ⟨rfl, hb2⟩
        have k0 := below_cell hb2 d0
        have k1 := below_cell hb2 d1
        have k2 := below_cell hb2 d2
        have k3 := below_cell hb2 d3
        have k4 := below_cell hb2 d4
        have k5 := below_cell hb2 d5
        have k6 := below_cell hb2 d6
        have hp2 := HP1.out.skip (n := 0) hb2
        have HX2 : Hid (Pl (paint c1 w1 w2 0) w2 _ _) := HX1.out.fr (G := fun _ => False) (.of_below hb2) (fun k hk hn => ⟨fun h => h, by rw [paint_old hk]; exact hn⟩)
        have H2 := skip_lift (B := B) (a := a) (sg := sg) (rg := rg) c1 hb2
        have hcb2 : paint c1 w1 w2 0 w.heap.size = 0 := by rw [paint_old (cell_lt d0)]; exact hc0
        generalize paint c1 w1 w2 0 = c2 at hp2 HX2 H2 hcb2
        have HP2 := Lib.hid hp2
        have f0 := hp2.c0
        have f1 := hp2.c1
        have f2 := hp2.c2
        clear hp2 HCK d0 d1 d2 d3 d4 d5 d6 hb2 HX1
        have HA : ∀ W, Below w2.heap.size w2 W → Calls Tryz.prog 60 #[.pointer (some ⟨a, 0, none⟩), .agg #[.int .i64 kind, .int .i64 ns, .int .i64 nr, .bool pp, .int .i64 t.peer, .int .i64 t.me, .slice xo data.length xc]] W fun e w' => (∃ v, e = .returned v) ∧ LkTo B c2 w2 a sg rg (t.fits ⟨kind, ns, nr, pp, t.peer, t.me, data⟩) w' := fun W hb => (lfits_any B _ W a sg rg _ _ _ (HP2.out.skip (n := 0) hb) hok hokr ⟨kind, ns, nr, pp, t.peer, t.me, data⟩ _ (HX2.out.fr (G := fun _ => False) (.of_below hb) (fun k hk hn => ⟨fun h => h, by rw [paint_old hk]; exact hn⟩)) hm hmi).mono fun e w' h => ⟨h.1, (skip_lift c2 hb).out _ _ h.2⟩
        rw [← hq] at HA
        clear hq
        go_wp2_with fail
        go_quiet (fail)
        go_wp2_with fail
        refine (HA _ (by first | exact bl_drewN (bl_refl _) _ | exact bl_drewN (bl_drewN (bl_refl _) _) _)).mono ?_
        rintro e w5 ⟨⟨v, rfl⟩, h5⟩
        have h6 := H1.out _ _ (H2.out _ _ h5)
        clear h5 HA
        go_wp2
        go_ret
        exact ⟨rfl, h6⟩
      · have hpB : (cpeer == (t.me : Int)) = false := by simpa using hpe
        have hno : ¬ (t.peer = t.peer ∧ cpeer = (t.me : Int)) := fun h => hpe h.2
        cases hup : t.up with
        | true =>
          have hq : t.recv ⟨kind, ns, nr, pp, t.peer, cpeer, data⟩ = t := by unfold Lk.recv; rw [if_neg (by rw [hcc]; decide), if_neg hk5, if_neg hk6, if_neg hk7, if_neg hno, if_pos hup]
          clear hcc hno
          obtain ⟨w1, c1, hw1, h1, H1, hc0, hx1, d0, d1, d2, d3, d4, d5, d6⟩ := ctl_box h ⟨kind, ns, nr, pp, t.peer, cpeer, data⟩ _ hx
          dsimp only at hw1 d0 d1 d2 d3 d4 d5 d6 hx1
          have HCK := check_any kind ns nr pp t.peer cpeer xo data.length xc w1
          rw [hck] at HCK
          have HP1 := Lib.hid h1
          have HX1 := Lib.hid hx1
          clear h h1 hx hx1
          go_enter Tryz.func33, Tryz.ntmps33
          go_wp2_with fail
          try simp only [hw1]
          go_wp2_with fail
          refine HCK.mono ?_
          rintro e w2 ⟨rfl, hb2⟩
          have k0 := below_cell hb2 d0
          have k1 := below_cell hb2 d1
          have k2 := below_cell hb2 d2
          have k3 := below_cell hb2 d3
          have k4 := below_cell hb2 d4
          have k5 := below_cell hb2 d5
          have k6 := below_cell hb2 d6
          have hp2 := HP1.out.skip (n := 0) hb2
          have HX2 : Hid (Pl (paint c1 w1 w2 0) w2 _ _) := HX1.out.fr (G := fun _ => False) (.of_below hb2) (fun k hk hn => ⟨fun h => h, by rw [paint_old hk]; exact hn⟩)
          have H2 := skip_lift (B := B) (a := a) (sg := sg) (rg := rg) c1 hb2
          have hcb2 : paint c1 w1 w2 0 w.heap.size = 0 := by rw [paint_old (cell_lt d0)]; exact hc0
          generalize paint c1 w1 w2 0 = c2 at hp2 HX2 H2 hcb2
          have HP2 := Lib.hid hp2
          have f0 := hp2.c0
          have f1 := hp2.c1
          have f2 := hp2.c2
          clear hp2 HCK d0 d1 d2 d3 d4 d5 d6 hb2 HX1
          rw [hup] at f2
          have HA : Hid (∀ W, Below w2.heap.size w2 W → LkTo B col w a sg rg (t.recv ⟨kind, ns, nr, pp, t.peer, cpeer, data⟩) W) := fun W hb => by rw [hq]; exact H1.out _ _ (H2.out _ _ (HP2.out.skipTo hb))
          clear hq
          go_wp2_with fail
          go_quiet (fail)
          go_wp2
          go_ret
          exact ⟨rfl, HA.out _ (by first | exact bl_drewN (bl_refl _) _ | exact bl_drewN (bl_drewN (bl_refl _) _) _)⟩
        | false =>
          have hq : t.recv ⟨kind, ns, nr, pp, t.peer, cpeer, data⟩ = t.send ⟨7, 0, 0, false, 0, t.peer, []⟩ := by unfold Lk.recv; rw [if_neg (by rw [hcc]; decide), if_neg hk5, if_neg hk6, if_neg hk7, if_neg hno, if_neg (by rw [hup]; decide)]
          clear hcc hno
          obtain ⟨w1, c1, hw1, h1, H1, hc0, hx1, d0, d1, d2, d3, d4, d5, d6⟩ := ctl_box h ⟨kind, ns, nr, pp, t.peer, cpeer, data⟩ _ hx
          dsimp only at hw1 d0 d1 d2 d3 d4 d5 d6 hx1
          have HCK := check_any kind ns nr pp t.peer cpeer xo data.length xc w1
          rw [hck] at HCK
          have HP1 := Lib.hid h1
          have HX1 := Lib.hid hx1
          clear h h1 hx hx1
          go_enter Tryz.func33, Tryz.ntmps33
          go_wp2_with fail
          try simp only [hw1]
          go_wp2_with fail
          refine HCK.mono ?_
          rintro e w2 ⟨rfl, hb2⟩
          have k0 := below_cell hb2 d0
          have k1 := below_cell hb2 d1
          have k2 := below_cell hb2 d2
          have k3 := below_cell hb2 d3
          have k4 := below_cell hb2 d4
          have k5 := below_cell hb2 d5
          have k6 := below_cell hb2 d6
          have hp2 := HP1.out.skip (n := 0) hb2
          have HX2 : Hid (Pl (paint c1 w1 w2 0) w2 _ _) := HX1.out.fr (G := fun _ => False) (.of_below hb2) (fun k hk hn => ⟨fun h => h, by rw [paint_old hk]; exact hn⟩)
          have H2 := skip_lift (B := B) (a := a) (sg := sg) (rg := rg) c1 hb2
          have hcb2 : paint c1 w1 w2 0 w.heap.size = 0 := by rw [paint_old (cell_lt d0)]; exact hc0
          generalize paint c1 w1 w2 0 = c2 at hp2 HX2 H2 hcb2
          have HP2 := Lib.hid hp2
          have f0 := hp2.c0
          have f1 := hp2.c1
          have f2 := hp2.c2
          clear hp2 HCK d0 d1 d2 d3 d4 d5 d6 hb2 HX1
          rw [hup] at f2
          have HA := lsend_at B c2 w2 a sg rg _ _ _ HP2.out ⟨7, 0, 0, false, 0, t.peer, []⟩ _ (byt_nil _ _) (by omega)
          rw [← hq] at HA
          clear hq
          go_wp2_with fail
          go_quiet (fail)
          go_wp2_with fail
          refine (HA _ (by first | exact bl_drewN (bl_refl _) _ | exact bl_drewN (bl_drewN (bl_refl _) _) _)).mono ?_
          rintro e w5 ⟨⟨v, rfl⟩, h5⟩
          have h6 := H1.out _ _ (H2.out _ _ h5)
          clear h5 HA
          go_wp2
          go_ret
          exact ⟨rfl, h6⟩
    · have hmB : (cme == t.peer) = false := by simpa using hmp
      have hno : ¬ (cme = t.peer ∧ cpeer = (t.me : Int)) := fun h => hmp h.1
      cases hup : t.up with
      | true =>
        have hq : t.recv ⟨kind, ns, nr, pp, cme, cpeer, data⟩ = t := by unfold Lk.recv; rw [if_neg (by rw [hcc]; decide), if_neg hk5, if_neg hk6, if_neg hk7, if_neg hno, if_pos hup]
        clear hcc hno
        obtain ⟨w1, c1, hw1, h1, H1, hc0, hx1, d0, d1, d2, d3, d4, d5, d6⟩ := ctl_box h ⟨kind, ns, nr, pp, cme, cpeer, data⟩ _ hx
        dsimp only at hw1 d0 d1 d2 d3 d4 d5 d6 hx1
        have HCK := check_any kind ns nr pp cme cpeer xo data.length xc w1
        rw [hck] at HCK
        have HP1 := Lib.hid h1
        have HX1 := Lib.hid hx1
        clear h h1 hx hx1
        go_enter Tryz.func33, Tryz.ntmps33
        go_wp2_with fail
        try simp only [hw1]
        go_wp2_with fail
        refine HCK.mono ?_
        rintro e w2 ⟨rfl, hb2⟩
        have k0 := below_cell hb2 d0
        have k1 := below_cell hb2 d1
        have k2 := below_cell hb2 d2
        have k3 := below_cell hb2 d3
        have k4 := below_cell hb2 d4
        have k5 := below_cell hb2 d5
        have k6 := below_cell hb2 d6
        have hp2 := HP1.out.skip (n := 0) hb2
        have HX2 : Hid (Pl (paint c1 w1 w2 0) w2 _ _) := HX1.out.fr (G := fun _ => False) (.of_below hb2) (fun k hk hn => ⟨fun h => h, by rw [paint_old hk]; exact hn⟩)
        have H2 := skip_lift (B := B) (a := a) (sg := sg) (rg := rg) c1 hb2
        have hcb2 : paint c1 w1 w2 0 w.heap.size = 0 := by rw [paint_old (cell_lt d0)]; exact hc0
        generalize paint c1 w1 w2 0 = c2 at hp2 HX2 H2 hcb2
        have HP2 := Lib.hid hp2
        have f0 := hp2.c0
        have f1 := hp2.c1
        have f2 := hp2.c2
        clear hp2 HCK d0 d1 d2 d3 d4 d5 d6 hb2 HX1
        rw [hup] at f2
        have HA : Hid (∀ W, Below w2.heap.size w2 W → LkTo B col w a sg rg (t.recv ⟨kind, ns, nr, pp, cme, cpeer, data⟩) W) := fun W hb => by rw [hq]; exact H1.out _ _ (H2.out _ _ (HP2.out.skipTo hb))
        clear hq
        go_wp2_with fail
        go_quiet (fail)
        go_wp2
        go_ret
        exact ⟨rfl, HA.out _ (by first | exact bl_drewN (bl_refl _) _ | exact bl_drewN (bl_drewN (bl_refl _) _) _)⟩
      | false =>
        have hq : t.recv ⟨kind, ns, nr, pp, cme, cpeer, data⟩ = t.send ⟨7, 0, 0, false, 0, cme, []⟩ := by unfold Lk.recv; rw [if_neg (by rw [hcc]; decide), if_neg hk5, if_neg hk6, if_neg hk7, if_neg hno, if_neg (by rw [hup]; decide)]
        clear hcc hno
        obtain ⟨w1, c1, hw1, h1, H1, hc0, hx1, d0, d1, d2, d3, d4, d5, d6⟩ := ctl_box h ⟨kind, ns, nr, pp, cme, cpeer, data⟩ _ hx
        dsimp only at hw1 d0 d1 d2 d3 d4 d5 d6 hx1
        have HCK := check_any kind ns nr pp cme cpeer xo data.length xc w1
        rw [hck] at HCK
        have HP1 := Lib.hid h1
        have HX1 := Lib.hid hx1
        clear h h1 hx hx1
        go_enter Tryz.func33, Tryz.ntmps33
        go_wp2_with fail
        try simp only [hw1]
        go_wp2_with fail
        refine HCK.mono ?_
        rintro e w2 ⟨rfl, hb2⟩
        have k0 := below_cell hb2 d0
        have k1 := below_cell hb2 d1
        have k2 := below_cell hb2 d2
        have k3 := below_cell hb2 d3
        have k4 := below_cell hb2 d4
        have k5 := below_cell hb2 d5
        have k6 := below_cell hb2 d6
        have hp2 := HP1.out.skip (n := 0) hb2
        have HX2 : Hid (Pl (paint c1 w1 w2 0) w2 _ _) := HX1.out.fr (G := fun _ => False) (.of_below hb2) (fun k hk hn => ⟨fun h => h, by rw [paint_old hk]; exact hn⟩)
        have H2 := skip_lift (B := B) (a := a) (sg := sg) (rg := rg) c1 hb2
        have hcb2 : paint c1 w1 w2 0 w.heap.size = 0 := by rw [paint_old (cell_lt d0)]; exact hc0
        generalize paint c1 w1 w2 0 = c2 at hp2 HX2 H2 hcb2
        have HP2 := Lib.hid hp2
        have f0 := hp2.c0
        have f1 := hp2.c1
        have f2 := hp2.c2
        clear hp2 HCK d0 d1 d2 d3 d4 d5 d6 hb2 HX1
        rw [hup] at f2
        have HA := lsend_at B c2 w2 a sg rg _ _ _ HP2.out ⟨7, 0, 0, false, 0, cme, []⟩ _ (byt_nil _ _) (by omega)
        rw [← hq] at HA
        clear hq
        go_wp2_with fail
        go_quiet (fail)
        go_wp2_with fail
        refine (HA _ (by first | exact bl_drewN (bl_refl _) _ | exact bl_drewN (bl_drewN (bl_refl _) _) _)).mono ?_
        rintro e w5 ⟨⟨v, rfl⟩, h5⟩
        have h6 := H1.out _ _ (H2.out _ _ h5)
        clear h5 HA
        go_wp2
        go_ret
        exact ⟨rfl, h6⟩
  · have hq : t.recv ⟨kind, ns, nr, pp, cme, cpeer, data⟩ = t := by unfold Lk.recv; rw [if_pos (by rw [hcc]; exact hc)]
    clear hcc
    obtain ⟨w1, c1, hw1, h1, H1, hc0, hx1, d0, d1, d2, d3, d4, d5, d6⟩ := ctl_box h ⟨kind, ns, nr, pp, cme, cpeer, data⟩ _ hx
    dsimp only at hw1 d0 d1 d2 d3 d4 d5 d6 hx1
    have HCK := check_any kind ns nr pp cme cpeer xo data.length xc w1
    rw [hck] at HCK
    have HP1 := Lib.hid h1
    have HX1 := Lib.hid hx1
    clear h h1 hx hx1
    go_enter Tryz.func33, Tryz.ntmps33
    go_wp2_with fail
    try simp only [hw1]
    go_wp2_with fail
    refine HCK.mono ?_
    rintro e w2 ⟨rfl, hb2⟩
    have k0 := below_cell hb2 d0
    have k1 := below_cell hb2 d1
    have k2 := below_cell hb2 d2
    have k3 := below_cell hb2 d3
    have k4 := below_cell hb2 d4
    have k5 := below_cell hb2 d5
    have k6 := below_cell hb2 d6
    have hp2 := HP1.out.skip (n := 0) hb2
    have HX2 : Hid (Pl (paint c1 w1 w2 0) w2 _ _) := HX1.out.fr (G := fun _ => False) (.of_below hb2) (fun k hk hn => ⟨fun h => h, by rw [paint_old hk]; exact hn⟩)
    have H2 := skip_lift (B := B) (a := a) (sg := sg) (rg := rg) c1 hb2
    have hcb2 : paint c1 w1 w2 0 w.heap.size = 0 := by rw [paint_old (cell_lt d0)]; exact hc0
    generalize paint c1 w1 w2 0 = c2 at hp2 HX2 H2 hcb2
    have HP2 := Lib.hid hp2
    have f0 := hp2.c0
    have f1 := hp2.c1
    have f2 := hp2.c2
    clear hp2 HCK d0 d1 d2 d3 d4 d5 d6 hb2 HX1
    have HA : Hid (LkTo B col w a sg rg (t.recv ⟨kind, ns, nr, pp, cme, cpeer, data⟩) w2) := by rw [hq]; exact H1.out _ _ (H2.out _ _ HP2.out.to)
    clear hq
    go_wp2
    go_ret
    exact ⟨rfl, HA.out⟩

end Go.Proofs.YthmdibagcbbgoaaGreat

namespace Go.Proofs.YthmdibagcbbgoaaGreat
open Go.RowKit

structure LkOk (t : Lk) : Prop where
  me : t.me < 65536
  s : t.s.Ok
  r : t.r.Ok
def Grow (n m : Nat) (t t' : Lk) : Prop := LkOk t → LkOk t' ∧ t'.out.length ≤ t.out.length + n ∧ t'.inn.length ≤ t.inn.length + m
section
variable {n m n' m' : Nat} {t t' t2 : Lk}
theorem Grow.trans (h : Grow n m t t') (k : Grow n' m' t' t2) : Grow (n + n') (m + m') t t2 := fun ho => by
  obtain ⟨h1, h2, h3⟩ := h ho
  obtain ⟨k1, k2, k3⟩ := k h1
  exact ⟨k1, by omega, by omega⟩
theorem Grow.mono (h : Grow n m t t') (h1 : n ≤ n') (h2 : m ≤ m') : Grow n' m' t t' := fun ho => by
  obtain ⟨a, b, c⟩ := h ho
  exact ⟨a, by omega, by omega⟩
theorem Grow.refl (t : Lk) : Grow 0 0 t t := fun ho => ⟨ho, by omega, by omega⟩
end
theorem send_grow (t : Lk) (c : Cn) : Grow 1 0 t (t.send c) := fun ho => ⟨⟨ho.me, ho.s, ho.r⟩, by simp [Lk.send], by simp [Lk.send]⟩
theorem setup_grow (t : Lk) (p : Bool) : Grow 1 0 t (t.setup p) := fun ho => ⟨⟨ho.me, ho.s, ho.r⟩, by simp [Lk.setup, Lk.send], by simp [Lk.setup, Lk.send]⟩
theorem reset_grow (t : Lk) : Grow 0 0 t t.reset := fun ho => ⟨⟨ho.me, ⟨ho.s.size1, ho.s.size2, by simp [Lk.reset], by simp [Lk.reset], by simp [Lk.reset], by simp [Lk.reset], by simp [Lk.reset]⟩, new_ok ho.r.size1 ho.r.size2⟩, by simp [Lk.reset], by simp [Lk.reset]⟩
theorem peer_grow (t : Lk) (p : Int) : Grow 0 0 t { t with peer := p } := fun ho => ⟨⟨ho.me, ho.s, ho.r⟩, by simp, by simp⟩
theorem left_grow (t : Lk) (l : Nat) : Grow 0 0 t { t with left := l } := fun ho => ⟨⟨ho.me, ho.s, ho.r⟩, by simp, by simp⟩
theorem busy_grow (t : Lk) (l : Bool) : Grow 0 0 t { t with busy := l } := fun ho => ⟨⟨ho.me, ho.s, ho.r⟩, by simp, by simp⟩
theorem anew_grow (t : Lk) : Grow 1 0 t t.anew := by
  have h0 : Grow 0 0 t { t with me := (t.me + 1) % 65536, up := false, peer := -1 } := fun ho => ⟨⟨Nat.mod_lt _ (by omega), ho.s, ho.r⟩, by simp, by simp⟩
  exact ((h0.trans (reset_grow _)).trans (setup_grow _ false)).mono (by omega) (by omega)
theorem heard_grow (t : Lk) : Grow 0 0 t t.heard := fun ho => ⟨⟨ho.me, ho.s, ho.r⟩, by simp [Lk.heard], by simp [Lk.heard]⟩
theorem answer_grow (t : Lk) : Grow 1 0 t t.answer := send_grow _ _
theorem dat_grow (t : Lk) (ns : Int) (p : List Int) (b : Bool) : Grow 1 0 t (t.dat ns p b) := send_grow _ _
theorem goes_grow (t : Lk) : Grow 64 0 t t.goes := fun ho => by
  obtain ⟨h1, h2, h3⟩ := goes_went t
  obtain ⟨a1, _, _, _, _, _, _, _, _, _, a11, a12, _⟩ := h3
  exact ⟨⟨by rw [a1]; exact ho.me, h1 ho.s, by rw [a11]; exact ho.r⟩, h2, by rw [a12]; omega⟩
theorem ack_grow (t : Lk) (nr : Int) : Grow 0 0 t (t.ack nr) := fun ho => by
  unfold Lk.ack
  split <;> exact ⟨⟨ho.me, Snd.ack_ok ho.s nr, ho.r⟩, by simp, by simp⟩
theorem again_grow (t : Lk) (nr : Int) : Grow 1 0 t (t.again nr) := by
  unfold Lk.again
  split
  · exact dat_grow _ _ _ _
  · exact (Grow.refl t).mono (by omega) (by omega)
theorem ua_grow (t : Lk) (p m : Int) : Grow 1 0 t (t.ua p m) := by
  unfold Lk.ua
  split
  · split
    · exact (heard_grow t).mono (by omega) (by omega)
    · exact (((peer_grow t m).trans (reset_grow _)).trans (heard_grow _)).mono (by omega) (by omega)
  · exact (Grow.refl t).mono (by omega) (by omega)
theorem dm_grow (t : Lk) (p m : Int) : Grow 1 0 t (t.dm p m) := by
  unfold Lk.dm
  split
  · exact anew_grow t
  · exact (Grow.refl t).mono (by omega) (by omega)
theorem sabmed_grow (t : Lk) (m : Int) : Grow 0 0 t (t.sabmed m) := by
  unfold Lk.sabmed
  split
  · exact Grow.refl t
  · exact (((peer_grow t m).trans (reset_grow _)).trans (left_grow _ _)).mono (by omega) (by omega)
theorem sabme_grow (t : Lk) (m : Int) (p : Bool) : Grow 1 0 t (t.sabme m p) := ((sabmed_grow t m).trans (send_grow _ _)).mono (by omega) (by omega)
theorem rearm_grow (t : Lk) : Grow 0 0 t t.rearm := by
  unfold Lk.rearm
  split
  · exact left_grow _ _
  · exact Grow.refl t
theorem ready_grow (t : Lk) (k nr : Int) (p : Bool) : Grow 65 0 t (t.ready k nr p) := by
  have h := (((busy_grow t (k == 3)).trans (ack_grow _ nr)).trans (goes_grow _)).trans (rearm_grow _)
  unfold Lk.ready
  split
  · exact (h.trans (answer_grow _)).mono (by omega) (by omega)
  · exact h.mono (by omega) (by omega)
theorem askAll_grow : ∀ (l : List Int) (t : Lk), Grow l.length 0 t (t.askAll l)
  | [], t => Grow.refl t
  | n :: l, t => ((send_grow t ⟨4, 0, n, false, 0, t.peer, []⟩).trans (askAll_grow l (t.ask n))).mono (by simp; omega) (by omega)
theorem takes_grow (t : Lk) (ns : Int) (p : List Int) : Grow 128 64 t (t.takes ns p) := by
  unfold Lk.takes
  split
  · exact (Grow.refl t).mono (by omega) (by omega)
  · have h0 : Grow 0 64 t (t.taken ns p) := fun ho => by
      refine ⟨⟨ho.me, ho.s, (ho.r.take ns p).1⟩, by simp [Lk.taken], ?_⟩
      have := tells_le9 ho.r ns p
      simp [Lk.taken]
      omega
    have hw := wants_le (r := t.r) ns p
    exact (h0.trans (askAll_grow _ _)).mono (by omega) (by omega)
theorem comes_grow (t : Lk) (ns nr : Int) (p : Bool) (d : List Int) : Grow 193 64 t (t.comes ns nr p d) := by
  have h := (ack_grow t nr).trans (goes_grow _)
  have h2 : Grow 64 0 t (if p = true then (t.ack nr).goes.forget else (t.ack nr).goes) := by
    split
    · exact fun ho => by
        obtain ⟨a, b, c⟩ := h ho
        exact ⟨⟨a.me, a.s, forget_ok a.r⟩, by show (t.ack nr).goes.out.length ≤ _; omega, by show (t.ack nr).goes.inn.length ≤ _; omega⟩
    · exact h.mono (by omega) (by omega)
  exact ((h2.trans (takes_grow _ ns d)).trans (answer_grow _)).mono (by omega) (by omega)
theorem woke_grow (t : Lk) : Grow 0 0 t t.woke := by
  unfold Lk.woke
  split
  · exact Grow.refl t
  · exact heard_grow t
theorem fits_grow (t : Lk) (c : Cn) : Grow 193 64 t (t.fits c) := by
  unfold Lk.fits
  split
  · exact ((woke_grow t).trans (comes_grow _ _ _ _ _)).mono (by omega) (by omega)
  split
  · exact ((woke_grow t).trans (again_grow _ _)).mono (by omega) (by omega)
  · exact ((woke_grow t).trans (ready_grow _ _ _ _)).mono (by omega) (by omega)
theorem recv_grow (t : Lk) (c : Cn) : Grow 193 64 t (t.recv c) := by
  unfold Lk.recv
  split
  · exact (Grow.refl t).mono (by omega) (by omega)
  split
  · exact (sabme_grow _ _ _).mono (by omega) (by omega)
  split
  · exact (ua_grow _ _ _).mono (by omega) (by omega)
  split
  · exact (dm_grow _ _ _).mono (by omega) (by omega)
  split
  · exact fits_grow _ _
  split
  · exact (Grow.refl t).mono (by omega) (by omega)
  · exact (send_grow _ _).mono (by omega) (by omega)
def Lk.recvAll (t : Lk) (l : List Cn) : Lk := l.foldl Lk.recv t
theorem recvAll_grow : ∀ (l : List Cn) (t : Lk), Grow (193 * l.length) (64 * l.length) t (t.recvAll l)
  | [], t => Grow.refl t
  | c :: l, t => ((recv_grow t c).trans (recvAll_grow l (t.recv c))).mono (by simp; omega) (by simp; omega)
theorem push_grow (t : Lk) (p : List Int) : Grow 64 0 t (t.push p) := by
  unfold Lk.push
  split
  · have h0 : Grow 0 0 t { t with s := t.s.push p } := fun ho => ⟨⟨ho.me, Snd.push_ok ho.s p, ho.r⟩, by simp, by simp⟩
    exact (h0.trans (goes_grow _)).mono (by omega) (by omega)
  · exact (Grow.refl t).mono (by omega) (by omega)

end Go.Proofs.YthmdibagcbbgoaaGreat
