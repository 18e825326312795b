/- (*link.Link).fits. Written by program (gen_lnki.py). The contracts of control.Check, of its reference, and of what they call. Written by program (gen_ctl.py). Conditions: as they stand. -/
import Derived.BigQuiet
import Derived.Test.YthmdibagcbbgoaaM20
import Derived.Test.YthmdibagcbbgoaaM21
import Derived.WalkKit
import Derived.Lib.Hide
import Derived.Test.YthmdibagcbbgoaaM00
import Derived.Test.YthmdibagcbbgoaaProg
namespace Go.Proofs.Ythmdibagcbbgoaa
open Go.RowKit

def Lk.woke (t : Lk) : Lk := if t.up = true then t else t.heard
def Lk.fits (t : Lk) (c : Cn) : Lk := if c.kind = 1 then t.woke.comes c.ns c.nr c.p c.data else if c.kind = 4 then t.woke.again c.nr else t.woke.ready c.kind c.nr c.p
theorem woke_same (t : Lk) : t.woke.s = t.s ∧ t.woke.r = t.r ∧ t.woke.out = t.out ∧ t.woke.inn = t.inn := by
  unfold Lk.woke
  split <;> exact ⟨rfl, rfl, rfl, rfl⟩

set_option maxRecDepth 100000 in
set_option maxHeartbeats 4000000 in
theorem lfits_any (B : Nat) (col : Nat → Nat) (w : World) (a sg rg : Nat) (ov iv : Value) (t : Lk) (h : LkP B col w a sg rg ov iv t) (hok : t.s.Ok) (hokr : t.r.Ok) (c : Cn) (x : Value) (hx : Pl col w x c.data) (hm : t.out.length ≤ 80000) (hmi : t.inn.length ≤ 80000) :
    Calls Try.prog 37 #[.pointer (some ⟨a, 0, none⟩), .agg #[.int .i64 c.kind, .int .i64 c.ns, .int .i64 c.nr, .bool c.p, .int .i64 c.me, .int .i64 c.peer, x]] w fun e w' => (∃ v, e = .returned v) ∧ LkTo B col w a sg rg (t.fits c) w' := by
  obtain ⟨xo, xc, rfl⟩ : ∃ xo xc, x = .slice xo c.data.length xc := by
    obtain ⟨⟨_, ao, cap, h, _⟩, _⟩ := hx
    exact ⟨ao, cap, h⟩
  obtain ⟨kind, ns, nr, pp, cme, cpeer, data⟩ := c
  dsimp only at hx ⊢
  by_cases hk1 : kind = 1
  · subst hk1
    have hq : t.fits ⟨1, ns, nr, pp, cme, cpeer, data⟩ = t.woke.comes ns nr pp data := by unfold Lk.fits; rw [if_pos rfl]
    obtain ⟨w1, c1, hw1, h1, H1, hc0, hx1, d0, d1, d2, d3, d4, d5, d6⟩ := ctl_box h ⟨1, ns, nr, pp, cme, cpeer, data⟩ _ hx
    dsimp only at hw1 d0 d1 d2 d3 d4 d5 d6 hx1
    have e2 := h1.c2
    have HP1 := Lib.hid h1
    have HX1 := Lib.hid hx1
    clear h h1 hx hx1
    obtain ⟨s1, s2, s3, s4⟩ := woke_same t
    cases hup : t.up with
    | true =>
      have hwk : t.woke = t := by unfold Lk.woke; rw [if_pos hup]
      rw [hup] at e2
      have HPZ : Hid (LkP B c1 w1 a sg rg ov iv t.woke) := by rw [hwk]; exact HP1.out
      have HA := lcomes_any B c1 w1 a sg rg _ _ _ HPZ.out (by rw [s1]; exact hok) (by rw [s2]; exact hokr) ⟨1, ns, nr, pp, cme, cpeer, data⟩ _ HX1.out (by rw [s3]; exact hm) (by rw [s4]; exact hmi)
      dsimp only at HA
      rw [← hq] at HA
      clear hq hwk s1 s2 s3 s4
      go_enter Try.func37, Try.ntmps37
      go_wp2_with fail
      try simp only [hw1]
      go_wp2_with fail
      refine HA.mono ?_
      rintro e w5 ⟨⟨v, rfl⟩, h5⟩
      have h6 := H1.out _ _ h5
      clear h5 HA
      go_wp2
      go_end0
      exact ⟨⟨_, rfl⟩, h6⟩
    | false =>
      have hwk : t.woke = t.heard := by unfold Lk.woke; rw [if_neg (by rw [hup]; decide)]
      rw [hup] at e2
      have HD := lheard_any B c1 w1 a sg rg ov iv t HP1.out
      go_enter Try.func37, Try.ntmps37
      go_wp2_with fail
      try simp only [hw1]
      go_wp2_with fail
      refine HD.mono ?_
      rintro e w2 ⟨⟨v, rfl⟩, h2⟩
      rw [← hwk] at h2
      obtain ⟨c2, o2, i2, hp2, hc2, HF2, H2⟩ := h2.openf
      have k0 := HF2.out.cell d0 (by omega)
      have k1 := HF2.out.cell d1 (by omega)
      have k2 := HF2.out.cell d2 (by omega)
      have k3 := HF2.out.cell d3 (by omega)
      have k4 := HF2.out.cell d4 (by omega)
      have k5 := HF2.out.cell d5 (by omega)
      have k6 := HF2.out.cell d6 (by omega)
      have HX2 : Hid (Pl c2 w2 _ _) := HX1.out.fr HF2.out (fun k hk hn => ⟨hn, by have := hc2 k hk; omega⟩)
      have HPZ := Lib.hid hp2
      have HA := lcomes_any B c2 w2 a sg rg _ _ _ HPZ.out (by rw [s1]; exact hok) (by rw [s2]; exact hokr) ⟨1, ns, nr, pp, cme, cpeer, data⟩ _ HX2.out (by rw [s3]; exact hm) (by rw [s4]; exact hmi)
      dsimp only at HA
      rw [← hq] at HA
      clear hq hwk s1 s2 s3 s4 h2 hp2 hc2 HD d0 d1 d2 d3 d4 d5 d6 e2
      go_wp2_with fail
      refine HA.mono ?_
      rintro e w5 ⟨⟨v, rfl⟩, h5⟩
      have h6 := H1.out _ _ (H2.out _ _ h5)
      clear h5 HA
      go_wp2
      go_end0
      exact ⟨⟨_, rfl⟩, h6⟩
  · by_cases hk4 : kind = 4
    · subst hk4
      have hq : t.fits ⟨4, ns, nr, pp, cme, cpeer, data⟩ = t.woke.again nr := by unfold Lk.fits; rw [if_neg (by show ¬ (4 : Int) = 1; decide), if_pos rfl]
      obtain ⟨w1, c1, hw1, h1, H1, hc0, hx1, d0, d1, d2, d3, d4, d5, d6⟩ := ctl_box h ⟨4, ns, nr, pp, cme, cpeer, data⟩ _ hx
      dsimp only at hw1 d0 d1 d2 d3 d4 d5 d6 hx1
      have e2 := h1.c2
      have HP1 := Lib.hid h1
      have HX1 := Lib.hid hx1
      clear h h1 hx hx1
      obtain ⟨s1, s2, s3, s4⟩ := woke_same t
      cases hup : t.up with
      | true =>
        have hwk : t.woke = t := by unfold Lk.woke; rw [if_pos hup]
        rw [hup] at e2
        have HPZ : Hid (LkP B c1 w1 a sg rg ov iv t.woke) := by rw [hwk]; exact HP1.out
        have HA := lagain_any B c1 w1 a sg rg _ _ _ HPZ.out (by rw [s1]; exact hok) ⟨4, ns, nr, pp, cme, cpeer, data⟩ _ HX1.out (by rw [s3]; omega)
        dsimp only at HA
        rw [← hq] at HA
        clear hq hwk s1 s2 s3 s4
        go_enter Try.func37, Try.ntmps37
        go_wp2_with fail
        try simp only [hw1]
        go_wp2_with fail
        refine HA.mono ?_
        rintro e w5 ⟨⟨v, rfl⟩, h5⟩
        have h6 := H1.out _ _ h5
        clear h5 HA
        go_wp2
        go_end0
        exact ⟨⟨_, rfl⟩, h6⟩
      | false =>
        have hwk : t.woke = t.heard := by unfold Lk.woke; rw [if_neg (by rw [hup]; decide)]
        rw [hup] at e2
        have HD := lheard_any B c1 w1 a sg rg ov iv t HP1.out
        go_enter Try.func37, Try.ntmps37
        go_wp2_with fail
        try simp only [hw1]
        go_wp2_with fail
        refine HD.mono ?_
        rintro e w2 ⟨⟨v, rfl⟩, h2⟩
        rw [← hwk] at h2
        obtain ⟨c2, o2, i2, hp2, hc2, HF2, H2⟩ := h2.openf
        have k0 := HF2.out.cell d0 (by omega)
        have k1 := HF2.out.cell d1 (by omega)
        have k2 := HF2.out.cell d2 (by omega)
        have k3 := HF2.out.cell d3 (by omega)
        have k4 := HF2.out.cell d4 (by omega)
        have k5 := HF2.out.cell d5 (by omega)
        have k6 := HF2.out.cell d6 (by omega)
        have HX2 : Hid (Pl c2 w2 _ _) := HX1.out.fr HF2.out (fun k hk hn => ⟨hn, by have := hc2 k hk; omega⟩)
        have HPZ := Lib.hid hp2
        have HA := lagain_any B c2 w2 a sg rg _ _ _ HPZ.out (by rw [s1]; exact hok) ⟨4, ns, nr, pp, cme, cpeer, data⟩ _ HX2.out (by rw [s3]; omega)
        dsimp only at HA
        rw [← hq] at HA
        clear hq hwk s1 s2 s3 s4 h2 hp2 hc2 HD d0 d1 d2 d3 d4 d5 d6 e2
        go_wp2_with fail
        refine HA.mono ?_
        rintro e w5 ⟨⟨v, rfl⟩, h5⟩
        have h6 := H1.out _ _ (H2.out _ _ h5)
        clear h5 HA
        go_wp2
        go_end0
        exact ⟨⟨_, rfl⟩, h6⟩
    · have hq : t.fits ⟨kind, ns, nr, pp, cme, cpeer, data⟩ = t.woke.ready kind nr pp := by unfold Lk.fits; rw [if_neg hk1, if_neg hk4]
      obtain ⟨w1, c1, hw1, h1, H1, hc0, hx1, d0, d1, d2, d3, d4, d5, d6⟩ := ctl_box h ⟨kind, ns, nr, pp, cme, cpeer, data⟩ _ hx
      dsimp only at hw1 d0 d1 d2 d3 d4 d5 d6 hx1
      have e2 := h1.c2
      have HP1 := Lib.hid h1
      have HX1 := Lib.hid hx1
      clear h h1 hx hx1
      obtain ⟨s1, s2, s3, s4⟩ := woke_same t
      cases hup : t.up with
      | true =>
        have hwk : t.woke = t := by unfold Lk.woke; rw [if_pos hup]
        rw [hup] at e2
        have HPZ : Hid (LkP B c1 w1 a sg rg ov iv t.woke) := by rw [hwk]; exact HP1.out
        have HA := lready_any B c1 w1 a sg rg _ _ _ HPZ.out (by rw [s1]; exact hok) ⟨kind, ns, nr, pp, cme, cpeer, data⟩ _ HX1.out (by rw [s3]; exact hm)
        dsimp only at HA
        rw [← hq] at HA
        clear hq hwk s1 s2 s3 s4
        go_enter Try.func37, Try.ntmps37
        go_wp2_with fail
        try simp only [hw1]
        go_wp2_with fail
        refine HA.mono ?_
        rintro e w5 ⟨⟨v, rfl⟩, h5⟩
        have h6 := H1.out _ _ h5
        clear h5 HA
        go_wp2
        go_end0
        exact ⟨⟨_, rfl⟩, h6⟩
      | false =>
        have hwk : t.woke = t.heard := by unfold Lk.woke; rw [if_neg (by rw [hup]; decide)]
        rw [hup] at e2
        have HD := lheard_any B c1 w1 a sg rg ov iv t HP1.out
        go_enter Try.func37, Try.ntmps37
        go_wp2_with fail
        try simp only [hw1]
        go_wp2_with fail
        refine HD.mono ?_
        rintro e w2 ⟨⟨v, rfl⟩, h2⟩
        rw [← hwk] at h2
        obtain ⟨c2, o2, i2, hp2, hc2, HF2, H2⟩ := h2.openf
        have k0 := HF2.out.cell d0 (by omega)
        have k1 := HF2.out.cell d1 (by omega)
        have k2 := HF2.out.cell d2 (by omega)
        have k3 := HF2.out.cell d3 (by omega)
        have k4 := HF2.out.cell d4 (by omega)
        have k5 := HF2.out.cell d5 (by omega)
        have k6 := HF2.out.cell d6 (by omega)
        have HX2 : Hid (Pl c2 w2 _ _) := HX1.out.fr HF2.out (fun k hk hn => ⟨hn, by have := hc2 k hk; omega⟩)
        have HPZ := Lib.hid hp2
        have HA := lready_any B c2 w2 a sg rg _ _ _ HPZ.out (by rw [s1]; exact hok) ⟨kind, ns, nr, pp, cme, cpeer, data⟩ _ HX2.out (by rw [s3]; exact hm)
        dsimp only at HA
        rw [← hq] at HA
        clear hq hwk s1 s2 s3 s4 h2 hp2 hc2 HD d0 d1 d2 d3 d4 d5 d6 e2
        go_wp2_with fail
        refine HA.mono ?_
        rintro e w5 ⟨⟨v, rfl⟩, h5⟩
        have h6 := H1.out _ _ (H2.out _ _ h5)
        clear h5 HA
        go_wp2
        go_end0
        exact ⟨⟨_, rfl⟩, h6⟩

end Go.Proofs.Ythmdibagcbbgoaa

namespace Go.Proofs.Ythmdibagcbbgoaa
open Go.RowKit

/-- Is a number from 0 to another one? -/
def inB (n m : Int) : Bool := decide (0 ≤ n) && decide (n ≤ m)
theorem inB_yes {n m : Int} (h : 0 ≤ n ∧ n ≤ m) : inB n m = true := by simp [inB, h.1, h.2]
theorem inB_no {n m : Int} (h : ¬ (0 ≤ n ∧ n ≤ m)) : inB n m = false := by simp only [inB, Bool.and_eq_false_iff, decide_eq_false_iff_not]; omega
theorem inB_val (n m : Int) : inB n m = (decide (0 ≤ n) && decide (n ≤ m)) := rfl
attribute [irreducible] inB
/-- Why a control may not be. -/
def chkN (k ns nr me peer : Int) (n : Nat) : Int :=
  if k < 1 ∨ 7 < k then 1 else if ¬ (((0 ≤ ns ∧ ns ≤ 127) ∧ (0 ≤ nr ∧ nr ≤ 127)) ∧ ((0 ≤ me ∧ me ≤ 65535) ∧ (0 ≤ peer ∧ peer ≤ 65535))) then 1
  else if (k ≠ 1 ∧ (ns ≠ 0 ∨ 0 < n)) ∨ (4 < k ∧ nr ≠ 0) ∨ (k = 5 ∧ peer ≠ 0) ∨ (k = 1 ∧ n = 0) then 2 else if 121 < n then 3 else 0
/-- Are all fields zero that a kind has not? -/
def zeroB (k ns nr peer : Int) (n : Nat) : Bool := !decide ((k ≠ 1 ∧ (ns ≠ 0 ∨ 0 < n)) ∨ (4 < k ∧ nr ≠ 0) ∨ (k = 5 ∧ peer ≠ 0))

theorem results_tmp4 {fn : Func} {t u v x : Tmp} (h : fn.results = #[.tmp t, .tmp u, .tmp v, .tmp x]) (tmps : Array Value) (P : Program) (w : World) :
    (results fn tmps).run P w = .ok (.tuple #[tmps.getD t undef, tmps.getD u undef, tmps.getD v undef, tmps.getD x undef]) w := by
  simp [results, h]

theorem cin_any (n m : Int) (w : World) :
    Calls Try.prog 50 #[.int .i64 n, .int .i64 m] w fun e w' => e = .returned (.bool (inB n m)) ∧ w = w' := by
  have hv := Lib.hid (inB_val n m)
  by_cases h : 0 ≤ n
  · go_enter Try.func50, Try.ntmps50
    go_wp2
    go_ret
    exact ⟨ret_bool (by rw [hv.out, decide_eq_true h]; rfl), rfl⟩
  · go_enter Try.func50, Try.ntmps50
    go_wp2
    go_ret
    exact ⟨ret_bool (by rw [hv.out, decide_eq_false (by omega)]; rfl), rfl⟩

theorem numbered_1 (w : World) :
    Calls Try.prog 49 #[.int .i64 1] w fun e w' => e = .returned (.tuple #[.bool true, .bool true, .bool true, .bool true]) ∧ w = w' := by
  go_enter Try.func49, Try.ntmps49
  go_wp2
  try simp only [Exit.inBlock, Exit.then]
  refine bodyPost_ret (results_tmp4 rfl _ _ _) rfl ?_
  exact ⟨rfl, rfl⟩

theorem numbered_2 (w : World) :
    Calls Try.prog 49 #[.int .i64 2] w fun e w' => e = .returned (.tuple #[.bool false, .bool true, .bool true, .bool false]) ∧ w = w' := by
  go_enter Try.func49, Try.ntmps49
  go_wp2
  try simp only [Exit.inBlock, Exit.then]
  refine bodyPost_ret (results_tmp4 rfl _ _ _) rfl ?_
  exact ⟨rfl, rfl⟩

theorem numbered_3 (w : World) :
    Calls Try.prog 49 #[.int .i64 3] w fun e w' => e = .returned (.tuple #[.bool false, .bool true, .bool true, .bool false]) ∧ w = w' := by
  go_enter Try.func49, Try.ntmps49
  go_wp2
  try simp only [Exit.inBlock, Exit.then]
  refine bodyPost_ret (results_tmp4 rfl _ _ _) rfl ?_
  exact ⟨rfl, rfl⟩

theorem numbered_4 (w : World) :
    Calls Try.prog 49 #[.int .i64 4] w fun e w' => e = .returned (.tuple #[.bool false, .bool true, .bool true, .bool false]) ∧ w = w' := by
  go_enter Try.func49, Try.ntmps49
  go_wp2
  try simp only [Exit.inBlock, Exit.then]
  refine bodyPost_ret (results_tmp4 rfl _ _ _) rfl ?_
  exact ⟨rfl, rfl⟩

theorem numbered_5 (w : World) :
    Calls Try.prog 49 #[.int .i64 5] w fun e w' => e = .returned (.tuple #[.bool false, .bool false, .bool false, .bool false]) ∧ w = w' := by
  go_enter Try.func49, Try.ntmps49
  go_wp2
  try simp only [Exit.inBlock, Exit.then]
  refine bodyPost_ret (results_tmp4 rfl _ _ _) rfl ?_
  exact ⟨rfl, rfl⟩

theorem numbered_6 (w : World) :
    Calls Try.prog 49 #[.int .i64 6] w fun e w' => e = .returned (.tuple #[.bool false, .bool false, .bool true, .bool false]) ∧ w = w' := by
  go_enter Try.func49, Try.ntmps49
  go_wp2
  try simp only [Exit.inBlock, Exit.then]
  refine bodyPost_ret (results_tmp4 rfl _ _ _) rfl ?_
  exact ⟨rfl, rfl⟩

theorem numbered_7 (w : World) :
    Calls Try.prog 49 #[.int .i64 7] w fun e w' => e = .returned (.tuple #[.bool false, .bool false, .bool true, .bool false]) ∧ w = w' := by
  go_enter Try.func49, Try.ntmps49
  go_wp2
  try simp only [Exit.inBlock, Exit.then]
  refine bodyPost_ret (results_tmp4 rfl _ _ _) rfl ?_
  exact ⟨rfl, rfl⟩

theorem numbered_out (k : Int) (h : k < 1 ∨ 7 < k) (w : World) :
    Calls Try.prog 49 #[.int .i64 k] w fun e w' => e = .returned (.tuple #[.bool false, .bool false, .bool false, .bool false]) ∧ w = w' := by
  have h1 : k ≠ 1 := by omega
  have h2 : k ≠ 2 := by omega
  have h3 : k ≠ 3 := by omega
  have h4 : k ≠ 4 := by omega
  have h6 : k ≠ 6 := by omega
  have h7 : k ≠ 7 := by omega
  clear h
  go_enter Try.func49, Try.ntmps49
  go_wp2
  try simp only [Exit.inBlock, Exit.then]
  refine bodyPost_ret (results_tmp4 rfl _ _ _) rfl ?_
  exact ⟨rfl, rfl⟩

end Go.Proofs.Ythmdibagcbbgoaa
