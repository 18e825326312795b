/- portagelaw09's line: step, what a push, a tick, a new beginning does. Conditions: as they stand. -/
import Derived.Test.YthmdibagcbbgoaaM43
namespace Go.Proofs.Ythmdibagcbbgoaa
open Go.RowKit

theorem way_box9 (w : World) (k : Int) (b : Bool) : ∃ w1, w.alloc (.cells #[.int .i64 k, .bool b] 52) = w1 ∧ Below w.heap.size w w1 ∧ w1.cell? ⟨w.heap.size, 0, none⟩ = some (.int .i64 k) ∧ w1.cell? ⟨w.heap.size, 1, none⟩ = some (.bool b) := by
  refine ⟨_, rfl, bl_alloc (bl_refl w) _, ?_, ?_⟩
  · rw [cell_of_row _ _ _ _ _ _ (heap_alloc_new w _)]; rfl
  · rw [cell_of_row _ _ _ _ _ _ (heap_alloc_new w _)]; rfl
theorem LineAt.below {B : Nat} {w w' : World} {nb : Nat} {st : Nat → St} {ok : Bool} {L : Ln} (h : LineAt B w nb st ok L) (hb : Below w.heap.size w w') : LineAt B w' nb st ok L ∧ Below B w w' := by
  obtain ⟨col, cl, a, s, r, ov, iv, wv, uv, hL⟩ := h.ex
  exact ⟨⟨_, _, _, _, _, _, _, _, _, hL.below hb⟩, hb.mono hL.cols.1⟩
theorem StepTo.after {B n : Nat} {w w1 : World} {nb : Nat} {st : Nat → St} {e : Ending} {w' : World} (hb : Below B w w1) (h : StepTo B n w1 nb st e w') : StepTo B n w nb st e w' := ⟨h.ret, h.ex, hb.trans h.bl⟩

theorem line_set_end (a : Nat → Nat) (st : Nat → St) (wv uv : Nat → Value) (n : Nat → Nat) (ok : Bool) (j : Nat) (hj : j < 2) (v : Nat) : (lineCells a st wv uv n ok).setIfInBounds j (.pointer (some ⟨v, 0, none⟩)) = lineCells (upd a j v) st wv uv n ok := by
  rcases (show j = 0 ∨ j = 1 by omega) with rfl | rfl <;> rfl
/-- An end begins anew. -/
theorem LineP.renewed {B : Nat} {col : Nat → Nat → Nat} {cl : Nat → Nat} {w w' : World} {nb : Nat} {a s r : Nat → Nat} {ov iv wv uv : Nat → Value} {st : Nat → St} {ok : Bool} {L : Ln} {i : Nat} {c2 : Nat → Nat} {a2 s2 r2 : Nat} {o2 i2 : Value} {t : Lk}
    (h : LineP B col cl w nb a s r ov iv wv uv st ok L) (hi : i < 2) (hb : Below w.heap.size w w') (hp : LkP B c2 w' a2 s2 r2 o2 i2 t) (hc : ∀ k, k < w.heap.size → c2 k = 0) (v : Value) :
    LineAt B ((w'.setCell ⟨a i, 13, none⟩ v).setCell ⟨nb, i, none⟩ (.pointer (some ⟨a2, 0, none⟩))) nb st ok { L with e := upd L.e i t } ∧ Below B w ((w'.setCell ⟨a i, 13, none⟩ v).setCell ⟨nb, i, none⟩ (.pointer (some ⟨a2, 0, none⟩))) := by
  have ha : col i (a i) = 1 := (h.lk i hi).own
  have hal : a i < w.heap.size := ((h.lk i hi).cols.2 _ (by omega)).2
  have hnl : nb < w.heap.size := lt_of_get h.hb
  have hne : nb ≠ a i := fun e => by
    have := h.apart i nb hi (by rw [h.own]; omega)
    rw [e] at this; omega
  have hca : cl (a i) = 0 := by
    apply Classical.byContradiction
    intro hn
    have := h.apart i (a i) hi hn
    omega
  have hf2 : Fr (fun k => k = a i ∨ k = nb) w' ((w'.setCell ⟨a i, 13, none⟩ v).setCell ⟨nb, i, none⟩ (.pointer (some ⟨a2, 0, none⟩))) := ((fr_cell w' (a i) 13 v).mono fun k hk => .inl (.inl hk)).trans (fr_cell _ nb i _) fun k hk => .inl (.inr hk)
  have hf : Fr (fun k => k = a i ∨ k = nb) w ((w'.setCell ⟨a i, 13, none⟩ v).setCell ⟨nb, i, none⟩ (.pointer (some ⟨a2, 0, none⟩))) := (Fr.of_below (F := fun k => k = a i ∨ k = nb) hb).trans hf2 fun k hk => .inl hk
  have hb1 : (w'.setCell ⟨a i, 13, none⟩ v).heap[nb]? = some (.cells (lineCells a st wv uv L.n ok) 60 (0, 0)) := (fr_cell w' (a i) 13 v).get (bl_get hb h.hb) hne
  have hb2 := rc_set _ nb i _ _ (.pointer (some ⟨a2, 0, none⟩)) hb1
  rw [line_set_end _ _ _ _ _ _ _ hi] at hb2
  generalize (w'.setCell ⟨a i, 13, none⟩ v).setCell ⟨nb, i, none⟩ (.pointer (some ⟨a2, 0, none⟩)) = W at hf hf2 hb2 ⊢
  have hB := h.cols.1
  refine ⟨⟨⟨upd col i c2, cl, upd a i a2, upd s i s2, upd r i r2, upd ov i o2, upd iv i i2, wv, uv, ?_, ?_, hb2, h.cols.grow hf.size, h.own, ?_, ?_, ?_⟩⟩, fr_bl hf (fun k hk => ?_) h.cols.1⟩
  · intro j hj
    by_cases e : j = i
    · subst e
      simp only [upd_same]
      refine hp.fr hf2 fun k hk g => hk ?_
      rcases g with g | g
      · rw [g]; exact hc _ hal
      · rw [g]; exact hc _ hnl
    · simp only [upd_ne e]
      refine (h.lk j hj).fr hf fun k hk g => hk ?_
      rcases g with g | g
      · rw [g]; exact h.dis i j _ hi hj (Ne.symm e) (by omega)
      · rw [g]; exact h.apart j nb hj (by rw [h.own]; omega)
  · intro j j' k hj hj' hne' hk
    by_cases e : j = i
    · subst e
      rw [upd_same] at hk
      rw [upd_ne (Ne.symm hne')]
      apply Classical.byContradiction
      intro hn
      exact hk (hc k ((h.lk j' hj').cols.2 k hn).2)
    · rw [upd_ne e] at hk
      by_cases e' : j' = i
      · subst e'
        rw [upd_same]
        exact hc k ((h.lk j hj).cols.2 k hk).2
      · rw [upd_ne e']
        exact h.dis j j' k hj hj' hne' hk
  · intro j k hj hk
    by_cases e : j = i
    · subst e
      rw [upd_same]
      exact hc k (h.cols.2 k hk).2
    · rw [upd_ne e]
      exact h.apart j k hj hk
  · intro j hj
    refine (h.way j hj).fr hf (fun k hk => ⟨fun g => ?_, hk⟩) (fun k hk => ⟨fun g => ?_, Nat.lt_of_lt_of_le hk.1 hf.size, hk.2.1, fun j' hj' => ?_⟩)
    · rcases g with g | g
      · rw [g] at hk; omega
      · rw [g, h.own] at hk; omega
    · rcases g with g | g
      · rw [g] at hk; have := hk.2.2 i hi; omega
      · rw [g] at hk; have := hk.2.1; rw [h.own] at this; omega
    · by_cases e : j' = i
      · subst e
        rw [upd_same, hc k hk.1]
        omega
      · rw [upd_ne e]
        exact hk.2.2 j' hj'
  · intro j hj
    obtain ⟨g1, g2⟩ := h.inn j hj
    refine ⟨own_fr8 g1 hf fun k hk g => ?_, g2⟩
    have := g2 k hk
    rcases g with g | g
    · rw [g] at this; omega
    · rw [g, h.own] at this; omega
  · rcases hk with hk | hk
    · rw [hk]; exact ((h.lk i hi).cols.2 _ (by omega)).1
    · rw [hk]; exact (h.cols.2 nb (by rw [h.own]; omega)).1

set_option maxRecDepth 100000 in
set_option maxHeartbeats 4000000 in
theorem step_push0 {B n : Nat} {w : World} {nb : Nat} {st : Nat → St} {L : Ln} (h : LineAt B w nb st true L) (hg : Good n L) (hn : n ≤ 300) :
    Calls Try.prog 22 #[.pointer (some ⟨nb, 0, none⟩), .agg #[.int .i64 0, .bool false]] w fun e w' => StepTo B n w nb st e w' := by
  obtain ⟨w1, hw1, hb1, d0, d1⟩ := way_box9 w 0 false
  obtain ⟨h1, hb1'⟩ := h.below hb1
  have HP := line_push0 h1 (hg.ok 0 (by omega)) (by have := hg.out 0 (by omega); omega) (by have := hg.num 0 (by omega); omega)
  have HM := Lib.hid (hg.pushed (i := 0) (by omega))
  have HB1 := Lib.hid hb1'
  have HN := Lib.hid hn
  clear h h1 hb1 hb1' hg hn
  go_enter Try.func22, Try.ntmps22
  go_wp2_with fail
  try simp only [hw1]
  go_wp2_with fail
  refine HP.mono ?_
  rintro e w2 ⟨⟨b, rfl⟩, h2, hb2⟩
  have HC := collect_good h2 HM.out HN.out
  have HB2 : Hid (Below B w w2) := HB1.out.trans hb2
  clear h2 hb2 HP
  go_wp2_with fail
  refine HC.mono ?_
  rintro e w3 h3
  obtain ⟨⟨v, rfl⟩, hex, hbl⟩ := h3
  have HE : Hid (∀ v, StepTo B n w nb st (.returned v) w3) := fun v => ⟨⟨v, rfl⟩, hex, HB2.out.trans hbl⟩
  clear hex hbl HC
  go_wp2
  go_end0
  exact HE.out _

set_option maxRecDepth 100000 in
set_option maxHeartbeats 4000000 in
theorem step_tick0 {B n : Nat} {w : World} {nb : Nat} {st : Nat → St} {L : Ln} (h : LineAt B w nb st true L) (hg : Good n L) (hn : n ≤ 300) :
    Calls Try.prog 22 #[.pointer (some ⟨nb, 0, none⟩), .agg #[.int .i64 1, .bool false]] w fun e w' => StepTo B n w nb st e w' := by
  obtain ⟨w1, hw1, hb1, d0, d1⟩ := way_box9 w 1 false
  obtain ⟨h1, hb1'⟩ := h.below hb1
  obtain ⟨col, cl, a, s, r, ov, iv, wv, uv, hL⟩ := h1.ex
  have e0 : w1.cell? ⟨nb, 0, none⟩ = some (.pointer (some ⟨a 0, 0, none⟩)) := hL.cell 0 rfl
  have HP := ltick_any B _ w1 _ _ _ _ _ _ (hL.lk 0 (by omega)) (hg.ok 0 (by omega)).s (hg.ok 0 (by omega)).me (hg.clk 0 (by omega)) (by have := hg.out 0 (by omega); omega)
  have HA : Hid (∀ W, LkTo B (col 0) w1 (a 0) (s 0) (r 0) (L.e 0).tick W → LineAt B W nb st true { L with e := upd L.e 0 (L.e 0).tick } ∧ Below B w1 W) := fun W hW => by
    obtain ⟨⟨col', ov', iv', h3⟩, h4⟩ := hL.act (by omega) hW
    exact ⟨⟨_, _, _, _, _, _, _, _, _, h3⟩, h4⟩
  have HM := Lib.hid (hg.ticked hn (i := 0) (by omega))
  have HB1 := Lib.hid hb1'
  have HN := Lib.hid hn
  clear h h1 hb1 hb1' hg hn hL
  go_enter Try.func22, Try.ntmps22
  go_wp2_with fail
  try simp only [hw1]
  go_wp2_with fail
  refine HP.mono ?_
  rintro e w2 ⟨rfl, h2⟩
  obtain ⟨h3, hb2⟩ := HA.out _ h2
  have HC := collect_good h3 HM.out HN.out
  have HB2 : Hid (Below B w w2) := HB1.out.trans hb2
  clear h2 h3 hb2 HP
  go_wp2_with fail
  refine HC.mono ?_
  rintro e w3 h3
  obtain ⟨⟨v, rfl⟩, hex, hbl⟩ := h3
  have HE : Hid (∀ v, StepTo B n w nb st (.returned v) w3) := fun v => ⟨⟨v, rfl⟩, hex, HB2.out.trans hbl⟩
  clear hex hbl HC
  go_wp2
  go_end0
  exact HE.out _

set_option maxRecDepth 100000 in
set_option maxHeartbeats 4000000 in
theorem step_renew0 {B n : Nat} {w : World} {nb : Nat} {st : Nat → St} {L : Ln} (h : LineAt B w nb st true L) (hg : Good n L) (hn : n ≤ 300) (hs : (st 0).Ok) :
    Calls Try.prog 22 #[.pointer (some ⟨nb, 0, none⟩), .agg #[.int .i64 5, .bool false]] w fun e w' => StepTo B n w nb st e w' := by
  obtain ⟨w1, hw1, hb1, d0, d1⟩ := way_box9 w 5 false
  obtain ⟨h1, hb1'⟩ := h.below hb1
  obtain ⟨col, cl, a, s, r, ov, iv, wv, uv, hL⟩ := h1.ex
  have e0 : w1.cell? ⟨nb, 0, none⟩ = some (.pointer (some ⟨a 0, 0, none⟩)) := hL.cell 0 rfl
  have e3 : w1.cell? ⟨nb, 3, none⟩ = some (.int .i64 (st 0).size) := hL.cell 3 rfl
  have e4 : w1.cell? ⟨nb, 4, none⟩ = some (.int .i64 (st 0).timer) := hL.cell 4 rfl
  have e5 : w1.cell? ⟨nb, 5, none⟩ = some (.int .i64 (st 0).tries) := hL.cell 5 rfl
  have hme := hg.me 0 (by omega)
  obtain ⟨m, hm⟩ : ∃ m, (L.e 0).me + 1 = m := ⟨_, rfl⟩
  have hq : IntKind.i64.wrap (((L.e 0).me : Int) + 1) = (m : Int) := by rw [IntWalk.i64_in _ (by omega)]; omega
  have hm9 : (m : Int) ≤ 65535 := by omega
  have HMID := Lib.hid (hg.renewed hn (i := 0) (by omega) hs)
  rw [hm] at HMID
  have HME := lme_any B _ w1 _ _ _ _ _ _ (hL.lk 0 (by omega))
  have HNW := fun W : World => fun hb : Below w1.heap.size w1 W => lnew_ok m (st 0).size (st 0).timer (st 0).tries (by omega) hs.timer1 hs.timer2 hs.tries1 hs.tries2 hs.size1 hs.size2 B W (Nat.le_trans hL.cols.1 hb.size)
  have HL := Lib.hid hL
  have HB1 := Lib.hid hb1'
  have HN := Lib.hid hn
  clear h h1 hb1 hb1' hg hn hL hs hme hm
  go_enter Try.func22, Try.ntmps22
  go_wp2_with fail
  try simp only [hw1]
  go_wp2_with fail
  refine HME.mono ?_
  rintro e w2 ⟨rfl, rfl⟩
  go_wp2_with fail
  go_region_held3 (fun w' => w'.cell? ⟨nb, 0, none⟩ = some (.pointer (some ⟨a 0, 0, none⟩)) ∧ w'.cell? ⟨nb, 3, none⟩ = some (.int .i64 (st 0).size) ∧ w'.cell? ⟨nb, 4, none⟩ = some (.int .i64 (st 0).timer) ∧ w'.cell? ⟨nb, 5, none⟩ = some (.int .i64 (st 0).tries))
    (first | exact ⟨below_cell (bl_drew (bl_refl _)) e0, below_cell (bl_drew (bl_refl _)) e3, below_cell (bl_drew (bl_refl _)) e4, below_cell (bl_drew (bl_refl _)) e5⟩ | exact ⟨e0, e3, e4, e5⟩ | exact ⟨below_cell (bl_trans (bl_drew (bl_refl _)) hb3) e0, below_cell (bl_trans (bl_drew (bl_refl _)) hb3) e3, below_cell (bl_trans (bl_drew (bl_refl _)) hb3) e4, below_cell (bl_trans (bl_drew (bl_refl _)) hb3) e5⟩)
    (first | (go_at_call 40; refine (HNW _ (bl_drew (bl_refl _))).mono ?_; rintro e w3 ⟨a2, s2, r2, c2, o2, i2, rfl, hp2, hc2, hb3⟩))
  have hb3' := bl_trans (bl_drew (bl_refl w1)) hb3
  have q0 := below_cell hb3' e0
  have HO := lout_any B _ w3 _ _ _ _ _ _ ((HL.out.lk 0 (by omega)).skip (n := 0) hb3')
  have hR := HL.out.renewed (i := 0) (by omega) hb3' hp2 hc2 (.slice none 0 0)
  have hna : nb ≠ a 0 := fun e => by
    have h8 := HL.out.apart 0 nb (by omega) (by rw [HL.out.own]; omega)
    have h9 := (HL.out.lk 0 (by omega)).own
    rw [← e] at h9
    omega
  have q1 := (fr_cell w3 (a 0) 13 (.slice none 0 0)).cell q0 hna
  have z1 : (w3.setCell ⟨a 0, 13, none⟩ (.slice none 0 0)).frozen? ⟨nb, 0, none⟩ = false := rc_frozen ((fr_cell w3 (a 0) 13 (.slice none 0 0)).get (bl_get hb3' HL.out.hb) hna)
  have HC := collect_good hR.1 HMID.out HN.out
  have HB2 : Hid (Below B w _) := HB1.out.trans hR.2
  obtain ⟨W4, hW4⟩ : ∃ W4, w3.setCell ⟨a 0, 13, none⟩ (.slice none 0 0) = W4 := ⟨_, rfl⟩
  rw [hW4] at HC HB2 q1 z1
  clear hp2 hc2 hb3 hb3' hR HL HNW HME e0 e3 e4 e5
  go_wp2_with fail
  refine HO.mono ?_
  rintro e w4 ⟨rfl, rfl⟩
  simp only [hW4]
  go_wp2_with fail
  refine HC.mono ?_
  rintro e w5 h3
  obtain ⟨⟨v, rfl⟩, hex, hbl⟩ := h3
  have HE : Hid (∀ v, StepTo B n w nb st (.returned v) w5) := fun v => ⟨⟨v, rfl⟩, hex, HB2.out.trans hbl⟩
  clear hex hbl HC
  go_wp2
  go_end0
  exact HE.out _

set_option maxRecDepth 100000 in
set_option maxHeartbeats 4000000 in
theorem step_push1 {B n : Nat} {w : World} {nb : Nat} {st : Nat → St} {L : Ln} (h : LineAt B w nb st true L) (hg : Good n L) (hn : n ≤ 300) :
    Calls Try.prog 22 #[.pointer (some ⟨nb, 0, none⟩), .agg #[.int .i64 0, .bool true]] w fun e w' => StepTo B n w nb st e w' := by
  obtain ⟨w1, hw1, hb1, d0, d1⟩ := way_box9 w 0 true
  obtain ⟨h1, hb1'⟩ := h.below hb1
  have HP := line_push1 h1 (hg.ok 1 (by omega)) (by have := hg.out 1 (by omega); omega) (by have := hg.num 1 (by omega); omega)
  have HM := Lib.hid (hg.pushed (i := 1) (by omega))
  have HB1 := Lib.hid hb1'
  have HN := Lib.hid hn
  clear h h1 hb1 hb1' hg hn
  go_enter Try.func22, Try.ntmps22
  go_wp2_with fail
  try simp only [hw1]
  go_wp2_with fail
  refine HP.mono ?_
  rintro e w2 ⟨⟨b, rfl⟩, h2, hb2⟩
  have HC := collect_good h2 HM.out HN.out
  have HB2 : Hid (Below B w w2) := HB1.out.trans hb2
  clear h2 hb2 HP
  go_wp2_with fail
  refine HC.mono ?_
  rintro e w3 h3
  obtain ⟨⟨v, rfl⟩, hex, hbl⟩ := h3
  have HE : Hid (∀ v, StepTo B n w nb st (.returned v) w3) := fun v => ⟨⟨v, rfl⟩, hex, HB2.out.trans hbl⟩
  clear hex hbl HC
  go_wp2
  go_end0
  exact HE.out _

set_option maxRecDepth 100000 in
set_option maxHeartbeats 4000000 in
theorem step_tick1 {B n : Nat} {w : World} {nb : Nat} {st : Nat → St} {L : Ln} (h : LineAt B w nb st true L) (hg : Good n L) (hn : n ≤ 300) :
    Calls Try.prog 22 #[.pointer (some ⟨nb, 0, none⟩), .agg #[.int .i64 1, .bool true]] w fun e w' => StepTo B n w nb st e w' := by
  obtain ⟨w1, hw1, hb1, d0, d1⟩ := way_box9 w 1 true
  obtain ⟨h1, hb1'⟩ := h.below hb1
  obtain ⟨col, cl, a, s, r, ov, iv, wv, uv, hL⟩ := h1.ex
  have e0 : w1.cell? ⟨nb, 1, none⟩ = some (.pointer (some ⟨a 1, 0, none⟩)) := hL.cell 1 rfl
  have HP := ltick_any B _ w1 _ _ _ _ _ _ (hL.lk 1 (by omega)) (hg.ok 1 (by omega)).s (hg.ok 1 (by omega)).me (hg.clk 1 (by omega)) (by have := hg.out 1 (by omega); omega)
  have HA : Hid (∀ W, LkTo B (col 1) w1 (a 1) (s 1) (r 1) (L.e 1).tick W → LineAt B W nb st true { L with e := upd L.e 1 (L.e 1).tick } ∧ Below B w1 W) := fun W hW => by
    obtain ⟨⟨col', ov', iv', h3⟩, h4⟩ := hL.act (by omega) hW
    exact ⟨⟨_, _, _, _, _, _, _, _, _, h3⟩, h4⟩
  have HM := Lib.hid (hg.ticked hn (i := 1) (by omega))
  have HB1 := Lib.hid hb1'
  have HN := Lib.hid hn
  clear h h1 hb1 hb1' hg hn hL
  go_enter Try.func22, Try.ntmps22
  go_wp2_with fail
  try simp only [hw1]
  go_wp2_with fail
  refine HP.mono ?_
  rintro e w2 ⟨rfl, h2⟩
  obtain ⟨h3, hb2⟩ := HA.out _ h2
  have HC := collect_good h3 HM.out HN.out
  have HB2 : Hid (Below B w w2) := HB1.out.trans hb2
  clear h2 h3 hb2 HP
  go_wp2_with fail
  refine HC.mono ?_
  rintro e w3 h3
  obtain ⟨⟨v, rfl⟩, hex, hbl⟩ := h3
  have HE : Hid (∀ v, StepTo B n w nb st (.returned v) w3) := fun v => ⟨⟨v, rfl⟩, hex, HB2.out.trans hbl⟩
  clear hex hbl HC
  go_wp2
  go_end0
  exact HE.out _

set_option maxRecDepth 100000 in
set_option maxHeartbeats 4000000 in
theorem step_renew1 {B n : Nat} {w : World} {nb : Nat} {st : Nat → St} {L : Ln} (h : LineAt B w nb st true L) (hg : Good n L) (hn : n ≤ 300) (hs : (st 1).Ok) :
    Calls Try.prog 22 #[.pointer (some ⟨nb, 0, none⟩), .agg #[.int .i64 5, .bool true]] w fun e w' => StepTo B n w nb st e w' := by
  obtain ⟨w1, hw1, hb1, d0, d1⟩ := way_box9 w 5 true
  obtain ⟨h1, hb1'⟩ := h.below hb1
  obtain ⟨col, cl, a, s, r, ov, iv, wv, uv, hL⟩ := h1.ex
  have e0 : w1.cell? ⟨nb, 1, none⟩ = some (.pointer (some ⟨a 1, 0, none⟩)) := hL.cell 1 rfl
  have e3 : w1.cell? ⟨nb, 7, none⟩ = some (.int .i64 (st 1).size) := hL.cell 7 rfl
  have e4 : w1.cell? ⟨nb, 8, none⟩ = some (.int .i64 (st 1).timer) := hL.cell 8 rfl
  have e5 : w1.cell? ⟨nb, 9, none⟩ = some (.int .i64 (st 1).tries) := hL.cell 9 rfl
  have hme := hg.me 1 (by omega)
  obtain ⟨m, hm⟩ : ∃ m, (L.e 1).me + 1 = m := ⟨_, rfl⟩
  have hq : IntKind.i64.wrap (((L.e 1).me : Int) + 1) = (m : Int) := by rw [IntWalk.i64_in _ (by omega)]; omega
  have hm9 : (m : Int) ≤ 65535 := by omega
  have HMID := Lib.hid (hg.renewed hn (i := 1) (by omega) hs)
  rw [hm] at HMID
  have HME := lme_any B _ w1 _ _ _ _ _ _ (hL.lk 1 (by omega))
  have HNW := fun W : World => fun hb : Below w1.heap.size w1 W => lnew_ok m (st 1).size (st 1).timer (st 1).tries (by omega) hs.timer1 hs.timer2 hs.tries1 hs.tries2 hs.size1 hs.size2 B W (Nat.le_trans hL.cols.1 hb.size)
  have HL := Lib.hid hL
  have HB1 := Lib.hid hb1'
  have HN := Lib.hid hn
  clear h h1 hb1 hb1' hg hn hL hs hme hm
  go_enter Try.func22, Try.ntmps22
  go_wp2_with fail
  try simp only [hw1]
  go_wp2_with fail
  refine HME.mono ?_
  rintro e w2 ⟨rfl, rfl⟩
  go_wp2_with fail
  go_region_held3 (fun w' => w'.cell? ⟨nb, 1, none⟩ = some (.pointer (some ⟨a 1, 0, none⟩)) ∧ w'.cell? ⟨nb, 7, none⟩ = some (.int .i64 (st 1).size) ∧ w'.cell? ⟨nb, 8, none⟩ = some (.int .i64 (st 1).timer) ∧ w'.cell? ⟨nb, 9, none⟩ = some (.int .i64 (st 1).tries))
    (first | exact ⟨below_cell (bl_drew (bl_refl _)) e0, below_cell (bl_drew (bl_refl _)) e3, below_cell (bl_drew (bl_refl _)) e4, below_cell (bl_drew (bl_refl _)) e5⟩ | exact ⟨e0, e3, e4, e5⟩ | exact ⟨below_cell (bl_trans (bl_drew (bl_refl _)) hb3) e0, below_cell (bl_trans (bl_drew (bl_refl _)) hb3) e3, below_cell (bl_trans (bl_drew (bl_refl _)) hb3) e4, below_cell (bl_trans (bl_drew (bl_refl _)) hb3) e5⟩)
    (first | (go_at_call 40; refine (HNW _ (bl_drew (bl_refl _))).mono ?_; rintro e w3 ⟨a2, s2, r2, c2, o2, i2, rfl, hp2, hc2, hb3⟩))
  have hb3' := bl_trans (bl_drew (bl_refl w1)) hb3
  have q0 := below_cell hb3' e0
  have HO := lout_any B _ w3 _ _ _ _ _ _ ((HL.out.lk 1 (by omega)).skip (n := 0) hb3')
  have hR := HL.out.renewed (i := 1) (by omega) hb3' hp2 hc2 (.slice none 0 0)
  have hna : nb ≠ a 1 := fun e => by
    have h8 := HL.out.apart 1 nb (by omega) (by rw [HL.out.own]; omega)
    have h9 := (HL.out.lk 1 (by omega)).own
    rw [← e] at h9
    omega
  have q1 := (fr_cell w3 (a 1) 13 (.slice none 0 0)).cell q0 hna
  have z1 : (w3.setCell ⟨a 1, 13, none⟩ (.slice none 0 0)).frozen? ⟨nb, 1, none⟩ = false := rc_frozen ((fr_cell w3 (a 1) 13 (.slice none 0 0)).get (bl_get hb3' HL.out.hb) hna)
  have HC := collect_good hR.1 HMID.out HN.out
  have HB2 : Hid (Below B w _) := HB1.out.trans hR.2
  obtain ⟨W4, hW4⟩ : ∃ W4, w3.setCell ⟨a 1, 13, none⟩ (.slice none 0 0) = W4 := ⟨_, rfl⟩
  rw [hW4] at HC HB2 q1 z1
  clear hp2 hc2 hb3 hb3' hR HL HNW HME e0 e3 e4 e5
  go_wp2_with fail
  refine HO.mono ?_
  rintro e w4 ⟨rfl, rfl⟩
  simp only [hW4]
  go_wp2_with fail
  refine HC.mono ?_
  rintro e w5 h3
  obtain ⟨⟨v, rfl⟩, hex, hbl⟩ := h3
  have HE : Hid (∀ v, StepTo B n w nb st (.returned v) w5) := fun v => ⟨⟨v, rfl⟩, hex, HB2.out.trans hbl⟩
  clear hex hbl HC
  go_wp2
  go_end0
  exact HE.out _

end Go.Proofs.Ythmdibagcbbgoaa
