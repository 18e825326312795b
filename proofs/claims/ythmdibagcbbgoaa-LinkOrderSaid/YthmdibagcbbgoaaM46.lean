/- portagelaw09's line: step, a control comes, is lost, comes twice; nothing. Conditions: as they stand. -/
import Derived.Test.YthmdibagcbbgoaaM44
import Derived.Test.YthmdibagcbbgoaaM45
namespace Go.Proofs.Ythmdibagcbbgoaa
open Go.RowKit

theorem run_cut_ctls (W : World) (ao : Option Addr) (n cap : Nat) : (Instr.sliceAt 33 (.slice ao (n + 1) cap) (some (.int .i64 1)) none none).run Try.prog W = .ok (.slice (if cap = 1 then ao else ao.map (·.add 7)) n (cap - 1)) W := by
  obtain ⟨i1, gi, gz0, gz1, gz2⟩ := info_parts (infoCtl)
  have he : Try.prog.elem 33 = 24 := by simp [Program.elem, Try.underlying33]
  have ht' : Try.prog.underlying 33 = some (.slice (Try.prog.elem 33)) := by rw [he, Try.underlying33]
  rw [run_sliceAt_slice W _ _ _ _ _ ht', run_slice_l W _ ao _ cap ht' .i64 1 (by omega) (by omega)]
  simp [sizeOf, typeInfo, he, gi, gz1, sliced]

set_option maxRecDepth 100000 in
set_option maxHeartbeats 4000000 in
theorem step_lost0 {B n : Nat} {w : World} {nb : Nat} {st : Nat → St} {L : Ln} (h : LineAt B w nb st true L) (hg : Good n L) (hn : n ≤ 300) {c : Cn} {l : List Cn} (hw : L.way 0 = c :: l) :
    Calls Try.prog 22 #[.pointer (some ⟨nb, 0, none⟩), .agg #[.int .i64 3, .bool false]] w fun e w' => StepTo B n w nb st e w' := by
  obtain ⟨w1, hw1, hb1, d0, d1⟩ := way_box9 w 3 false
  obtain ⟨col, cl, a, s, r, ov, iv, wv, uv, hL0⟩ := h.ex
  have hL := hL0.below hb1
  have hc1 : cl w.heap.size = 0 := Classical.byContradiction fun hne => Nat.lt_irrefl _ (hL0.cols.2 _ hne).2
  have hj1 : ∀ j, j < 2 → col j w.heap.size = 0 := fun j hj => Classical.byContradiction fun hne => Nat.lt_irrefl _ ((hL0.lk j hj).cols.2 _ hne).2
  have hsz1 : w.heap.size < w1.heap.size := by rw [← hw1, World.size_alloc]; omega
  obtain ⟨g, off, cap, x, hv, hcs, hx⟩ := hL.head (by omega) hw
  obtain ⟨xo, xc, rfl⟩ : ∃ xo xc, x = .slice xo c.data.length xc := by
    obtain ⟨⟨⟨_, ao, cap, e, _⟩, _⟩, _⟩ := hx
    exact ⟨_, _, e⟩
  have e10 : w1.cell? ⟨nb, 10, none⟩ = some (wv 0) := hL.cell 10 rfl
  rw [hv] at e10
  have k0 : w1.cell? ⟨g, off, none⟩ = some (.int .i64 c.kind) := hcs 0 _ rfl
  have k1 : w1.cell? ⟨g, off + 1, none⟩ = some (.int .i64 c.ns) := hcs 1 _ rfl
  have k2 : w1.cell? ⟨g, off + 2, none⟩ = some (.int .i64 c.nr) := hcs 2 _ rfl
  have k3 : w1.cell? ⟨g, off + 3, none⟩ = some (.bool c.p) := hcs 3 _ rfl
  have k4 : w1.cell? ⟨g, off + 4, none⟩ = some (.int .i64 c.me) := hcs 4 _ rfl
  have k5 : w1.cell? ⟨g, off + 5, none⟩ = some (.int .i64 c.peer) := hcs 5 _ rfl
  have k6 : w1.cell? ⟨g, off + 6, none⟩ = some (.slice xo c.data.length xc) := hcs 6 _ rfl
  have hl0 : (0 : Int) < ((l.length + 1 : Nat) : Int) := by omega
  have hbox := heap_alloc_new w1 (.cells (c.agg (.slice xo c.data.length xc)) 24)
  have hb2 := bl_alloc (bl_refl w1) (.cells (c.agg (.slice xo c.data.length xc)) 24)
  have hH := hL.held (by omega) hw hx hv hb2 (Nat.le_refl _) hbox (bl_drew (bl_refl _)) d0 hsz1 hc1 hj1
  obtain ⟨q, hq⟩ : ∃ q, (if cap = 1 then (some ⟨g, off, none⟩ : Option Addr) else (some ⟨g, off, none⟩ : Option Addr).map (·.add 7)) = q := ⟨_, rfl⟩
  have hcut : ∀ W, (Instr.sliceAt 33 (.slice (some ⟨g, off, none⟩) (l.length + 1) cap) (some (.int .i64 1)) none none).run Try.prog W = .ok (.slice q l.length (cap - 1)) W := fun W => by
    rw [← hq]
    exact run_cut_ctls W _ _ _
  rw [hq] at hH
  have f10 := rc_frozen (j := 10) (bl_get (bl_drew (bl_refl _)) (bl_get hb2 hL.hb))
  have e10' := below_cell (bl_drew (bl_refl _)) (below_cell hb2 e10)
  have HMID : Hid (∀ k, k ≤ 2 → Mid n (L.come 0 c l k)) := fun k hk => hg.come hn (by omega) hw k hk
  have HOK : Hid (∀ k, k ≤ 1 → LkOk ((L.come 0 c l k).e 0) ∧ ((L.come 0 c l k).e 0).out.length ≤ 80000 ∧ ((L.come 0 c l k).e 0).inn.length ≤ 80000) := fun k hk => hg.comeOk (by omega) c l k hk
  have HN := Lib.hid hn
  have HHELD : Hid (_ ∧ _) := ⟨hH.1, (hb1.mono hL0.cols.1).trans hH.2⟩
  obtain ⟨z, hz⟩ : ∃ z, w1.heap.size = z := ⟨_, rfl⟩
  clear h hL0 hL hx hcs hg hn hH hbox hb2 hb1 hsz1 hc1 hj1 hq hw hv
  go_enter Try.func22, Try.ntmps22
  go_wp2_with fail
  try simp only [hw1]
  go_wp2_with fail
  obtain ⟨W2, hW2⟩ : ∃ W2, w1.alloc (.cells (c.agg (.slice xo c.data.length xc)) 24) = W2 := ⟨_, rfl⟩
  have hW2' : w1.alloc (.cells #[.int .i64 c.kind, .int .i64 c.ns, .int .i64 c.nr, .bool c.p, .int .i64 c.me, .int .i64 c.peer, .slice xo c.data.length xc] 24) = W2 := hW2
  rw [hW2] at e10' f10 HHELD
  simp only [hz] at HHELD
  simp only [hW2']
  clear hW2 hW2' k0 k1 k2 k3 k4 k5 k6
  refine wp_region_ord (n := 12) (S := fun W => W.cell? ⟨nb, 10, none⟩ = some (.slice (some ⟨g, off, none⟩) (l.length + 1) cap))
    [(0, true), (1, true), (2, true), (3, true), (4, true), (5, true), (6, true), (7, true), (8, true), (9, true), (10, true), (11, true), (12, false)]
    (by kernel_rfl) (fun _ _ d _ _ h => by cases d <;> exact h) (by kernel_rfl) e10' ?_
  iterate 12
    refine wpOrd_takeL (v := ?_) rfl (by rfl) ?_ ?_
    rotate_left
    focus (rintro w1 hS1; go_simp; try with_reducible rfl)
    simp only [Act.put, List.setIfInBounds_toArray, List.set_cons_zero, List.set_cons_succ]
  refine wpOrd_lastL rfl (by rfl) (fun K hK => ?_)
  go_simp
  refine hK.out _ _ ?_
  clear hK K
  refine wpOrd_nil ?_
  obtain ⟨W3, hW3⟩ : ∃ W3, (W2.setCell ⟨nb, 10, none⟩ (.slice q l.length (cap - 1))).drew = W3 := ⟨_, rfl⟩
  have hW3' : W2.drew.setCell ⟨nb, 10 + 0, none⟩ (.slice q l.length (cap - 1)) = W3 := hW3
  simp only [hW3'] at HHELD
  simp only [hW3]
  have HH : Hid (Held B W3 nb z w.heap.size 3 st c (L.come 0 c l 0)) := by rw [come_zero]; exact HHELD.out.1
  have HBL : Hid (Below B w W3) := HHELD.out.2
  clear HHELD hW3 hW3' e10' f10 e10 d0 d1 hcut hl0
  go_wp2_with fail
  go_loopw [6] (fun kv wr => ∃ k : Nat, kv = .int .i64 k ∧ k ≤ 0 ∧ Hid (Held B wr nb z w.heap.size 3 st c (L.come 0 c l k)) ∧ Hid (Below B w wr)) (fun kv _ => 10 - (intOf kv).toNat)
  case atStart => exact ⟨0, rfl, by omega, HH, HBL⟩
  case round =>
    clear HH HBL
    obtain ⟨k, rfl, hk, HH, HBL⟩ := hrel
    have kk := HH.out.kind
    obtain rfl : k = 0 := by omega
    · simp only [show ((0 : Nat) : Int) = 0 from rfl]
      have HC := collect_good HH.out.line (HMID.out 0 (by omega)) HN.out
      go_wp2_with fail
      refine HC.mono ?_
      rintro e w3 h3
      obtain ⟨⟨v, rfl⟩, hex, hbl⟩ := h3
      have HE : Hid (∀ v, StepTo B n w nb st (.returned v) w3) := fun v => ⟨⟨v, rfl⟩, hex, HBL.out.trans hbl⟩
      clear hex hbl HC HH
      go_wp2
      go_end0
      exact HE.out _

set_option maxRecDepth 100000 in
set_option maxHeartbeats 4000000 in
theorem step_once0 {B n : Nat} {w : World} {nb : Nat} {st : Nat → St} {L : Ln} (h : LineAt B w nb st true L) (hg : Good n L) (hn : n ≤ 300) {c : Cn} {l : List Cn} (hw : L.way 0 = c :: l) :
    Calls Try.prog 22 #[.pointer (some ⟨nb, 0, none⟩), .agg #[.int .i64 2, .bool false]] w fun e w' => StepTo B n w nb st e w' := by
  obtain ⟨w1, hw1, hb1, d0, d1⟩ := way_box9 w 2 false
  obtain ⟨col, cl, a, s, r, ov, iv, wv, uv, hL0⟩ := h.ex
  have hL := hL0.below hb1
  have hc1 : cl w.heap.size = 0 := Classical.byContradiction fun hne => Nat.lt_irrefl _ (hL0.cols.2 _ hne).2
  have hj1 : ∀ j, j < 2 → col j w.heap.size = 0 := fun j hj => Classical.byContradiction fun hne => Nat.lt_irrefl _ ((hL0.lk j hj).cols.2 _ hne).2
  have hsz1 : w.heap.size < w1.heap.size := by rw [← hw1, World.size_alloc]; omega
  obtain ⟨g, off, cap, x, hv, hcs, hx⟩ := hL.head (by omega) hw
  obtain ⟨xo, xc, rfl⟩ : ∃ xo xc, x = .slice xo c.data.length xc := by
    obtain ⟨⟨⟨_, ao, cap, e, _⟩, _⟩, _⟩ := hx
    exact ⟨_, _, e⟩
  have e10 : w1.cell? ⟨nb, 10, none⟩ = some (wv 0) := hL.cell 10 rfl
  rw [hv] at e10
  have k0 : w1.cell? ⟨g, off, none⟩ = some (.int .i64 c.kind) := hcs 0 _ rfl
  have k1 : w1.cell? ⟨g, off + 1, none⟩ = some (.int .i64 c.ns) := hcs 1 _ rfl
  have k2 : w1.cell? ⟨g, off + 2, none⟩ = some (.int .i64 c.nr) := hcs 2 _ rfl
  have k3 : w1.cell? ⟨g, off + 3, none⟩ = some (.bool c.p) := hcs 3 _ rfl
  have k4 : w1.cell? ⟨g, off + 4, none⟩ = some (.int .i64 c.me) := hcs 4 _ rfl
  have k5 : w1.cell? ⟨g, off + 5, none⟩ = some (.int .i64 c.peer) := hcs 5 _ rfl
  have k6 : w1.cell? ⟨g, off + 6, none⟩ = some (.slice xo c.data.length xc) := hcs 6 _ rfl
  have hl0 : (0 : Int) < ((l.length + 1 : Nat) : Int) := by omega
  have hbox := heap_alloc_new w1 (.cells (c.agg (.slice xo c.data.length xc)) 24)
  have hb2 := bl_alloc (bl_refl w1) (.cells (c.agg (.slice xo c.data.length xc)) 24)
  have hH := hL.held (by omega) hw hx hv hb2 (Nat.le_refl _) hbox (bl_drew (bl_refl _)) d0 hsz1 hc1 hj1
  obtain ⟨q, hq⟩ : ∃ q, (if cap = 1 then (some ⟨g, off, none⟩ : Option Addr) else (some ⟨g, off, none⟩ : Option Addr).map (·.add 7)) = q := ⟨_, rfl⟩
  have hcut : ∀ W, (Instr.sliceAt 33 (.slice (some ⟨g, off, none⟩) (l.length + 1) cap) (some (.int .i64 1)) none none).run Try.prog W = .ok (.slice q l.length (cap - 1)) W := fun W => by
    rw [← hq]
    exact run_cut_ctls W _ _ _
  rw [hq] at hH
  have f10 := rc_frozen (j := 10) (bl_get (bl_drew (bl_refl _)) (bl_get hb2 hL.hb))
  have e10' := below_cell (bl_drew (bl_refl _)) (below_cell hb2 e10)
  have HMID : Hid (∀ k, k ≤ 2 → Mid n (L.come 0 c l k)) := fun k hk => hg.come hn (by omega) hw k hk
  have HOK : Hid (∀ k, k ≤ 1 → LkOk ((L.come 0 c l k).e 0) ∧ ((L.come 0 c l k).e 0).out.length ≤ 80000 ∧ ((L.come 0 c l k).e 0).inn.length ≤ 80000) := fun k hk => hg.comeOk (by omega) c l k hk
  have HN := Lib.hid hn
  have HHELD : Hid (_ ∧ _) := ⟨hH.1, (hb1.mono hL0.cols.1).trans hH.2⟩
  obtain ⟨z, hz⟩ : ∃ z, w1.heap.size = z := ⟨_, rfl⟩
  clear h hL0 hL hx hcs hg hn hH hbox hb2 hb1 hsz1 hc1 hj1 hq hw hv
  go_enter Try.func22, Try.ntmps22
  go_wp2_with fail
  try simp only [hw1]
  go_wp2_with fail
  obtain ⟨W2, hW2⟩ : ∃ W2, w1.alloc (.cells (c.agg (.slice xo c.data.length xc)) 24) = W2 := ⟨_, rfl⟩
  have hW2' : w1.alloc (.cells #[.int .i64 c.kind, .int .i64 c.ns, .int .i64 c.nr, .bool c.p, .int .i64 c.me, .int .i64 c.peer, .slice xo c.data.length xc] 24) = W2 := hW2
  rw [hW2] at e10' f10 HHELD
  simp only [hz] at HHELD
  simp only [hW2']
  clear hW2 hW2' k0 k1 k2 k3 k4 k5 k6
  refine wp_region_ord (n := 12) (S := fun W => W.cell? ⟨nb, 10, none⟩ = some (.slice (some ⟨g, off, none⟩) (l.length + 1) cap))
    [(0, true), (1, true), (2, true), (3, true), (4, true), (5, true), (6, true), (7, true), (8, true), (9, true), (10, true), (11, true), (12, false)]
    (by kernel_rfl) (fun _ _ d _ _ h => by cases d <;> exact h) (by kernel_rfl) e10' ?_
  iterate 12
    refine wpOrd_takeL (v := ?_) rfl (by rfl) ?_ ?_
    rotate_left
    focus (rintro w1 hS1; go_simp; try with_reducible rfl)
    simp only [Act.put, List.setIfInBounds_toArray, List.set_cons_zero, List.set_cons_succ]
  refine wpOrd_lastL rfl (by rfl) (fun K hK => ?_)
  go_simp
  refine hK.out _ _ ?_
  clear hK K
  refine wpOrd_nil ?_
  obtain ⟨W3, hW3⟩ : ∃ W3, (W2.setCell ⟨nb, 10, none⟩ (.slice q l.length (cap - 1))).drew = W3 := ⟨_, rfl⟩
  have hW3' : W2.drew.setCell ⟨nb, 10 + 0, none⟩ (.slice q l.length (cap - 1)) = W3 := hW3
  simp only [hW3'] at HHELD
  simp only [hW3]
  have HH : Hid (Held B W3 nb z w.heap.size 2 st c (L.come 0 c l 0)) := by rw [come_zero]; exact HHELD.out.1
  have HBL : Hid (Below B w W3) := HHELD.out.2
  clear HHELD hW3 hW3' e10' f10 e10 d0 d1 hcut hl0
  go_wp2_with fail
  go_loopw [6] (fun kv wr => ∃ k : Nat, kv = .int .i64 k ∧ k ≤ 1 ∧ Hid (Held B wr nb z w.heap.size 2 st c (L.come 0 c l k)) ∧ Hid (Below B w wr)) (fun kv _ => 10 - (intOf kv).toNat)
  case atStart => exact ⟨0, rfl, by omega, HH, HBL⟩
  case round =>
    clear HH HBL
    obtain ⟨k, rfl, hk, HH, HBL⟩ := hrel
    have kk := HH.out.kind
    rcases (show k = 0 ∨ k = 1 by omega) with rfl | rfl
    · simp only [show ((0 : Nat) : Int) = 0 from rfl]
      obtain ⟨ai, x, q0, ⟨xo, xn, xc, rfl⟩, hbx, HR⟩ := HH.out.recv (i := 0) (by omega) (HOK.out 0 (by omega)).1 (HOK.out 0 (by omega)).2.1 (HOK.out 0 (by omega)).2.2
      have b0 : wr.cell? ⟨z, 0, none⟩ = some (.int .i64 c.kind) := by rw [cell_of_row _ _ _ _ _ _ hbx]; rfl
      have b1 : wr.cell? ⟨z, 1, none⟩ = some (.int .i64 c.ns) := by rw [cell_of_row _ _ _ _ _ _ hbx]; rfl
      have b2 : wr.cell? ⟨z, 2, none⟩ = some (.int .i64 c.nr) := by rw [cell_of_row _ _ _ _ _ _ hbx]; rfl
      have b3 : wr.cell? ⟨z, 3, none⟩ = some (.bool c.p) := by rw [cell_of_row _ _ _ _ _ _ hbx]; rfl
      have b4 : wr.cell? ⟨z, 4, none⟩ = some (.int .i64 c.me) := by rw [cell_of_row _ _ _ _ _ _ hbx]; rfl
      have b5 : wr.cell? ⟨z, 5, none⟩ = some (.int .i64 c.peer) := by rw [cell_of_row _ _ _ _ _ _ hbx]; rfl
      have b6 : wr.cell? ⟨z, 6, none⟩ = some (.slice xo xn xc) := by rw [cell_of_row _ _ _ _ _ _ hbx]; rfl
      clear hbx
      go_wp2_with fail
      go_region_held3 (fun w' => w'.cell? ⟨nb, 0, none⟩ = some (.pointer (some ⟨ai, 0, none⟩)) ∧ w'.cell? ⟨z, 0, none⟩ = some (.int .i64 c.kind) ∧ w'.cell? ⟨z, 1, none⟩ = some (.int .i64 c.ns) ∧ w'.cell? ⟨z, 2, none⟩ = some (.int .i64 c.nr) ∧ w'.cell? ⟨z, 3, none⟩ = some (.bool c.p) ∧ w'.cell? ⟨z, 4, none⟩ = some (.int .i64 c.me) ∧ w'.cell? ⟨z, 5, none⟩ = some (.int .i64 c.peer) ∧ w'.cell? ⟨z, 6, none⟩ = some (.slice xo xn xc))
        (first | exact ⟨below_cell (bl_drew (bl_refl _)) q0, below_cell (bl_drew (bl_refl _)) b0, below_cell (bl_drew (bl_refl _)) b1, below_cell (bl_drew (bl_refl _)) b2, below_cell (bl_drew (bl_refl _)) b3, below_cell (bl_drew (bl_refl _)) b4, below_cell (bl_drew (bl_refl _)) b5, below_cell (bl_drew (bl_refl _)) b6⟩ | exact ⟨q0, b0, b1, b2, b3, b4, b5, b6⟩ | exact ⟨(h4 0 _).1 q0, (h4 0 _).2 b0, (h4 1 _).2 b1, (h4 2 _).2 b2, (h4 3 _).2 b3, (h4 4 _).2 b4, (h4 5 _).2 b5, (h4 6 _).2 b6⟩)
        (first | (go_at_call 9; refine (HR _ (bl_drew (bl_refl _))).mono ?_; rintro e w3 ⟨rfl, h3, h4⟩))
      have HH3 : Hid (Held B w3 nb z w.heap.size 2 st c (L.come 0 c l 1)) := by rw [← come_succ]; exact h3.1
      have HBL3 : Hid (Below B w w3) := HBL.out.trans h3.2
      have kk3 := HH3.out.kind
      clear h3 h4 HR HH HBL q0 b0 b1 b2 b3 b4 b5 b6
      go_wp2_with fail
      go_roundw
      case rel => exact ⟨1, by go_num, by omega, HH3, HBL3⟩
      case measure => simp [intOf]
    · simp only [show ((1 : Nat) : Int) = 1 from rfl]
      have HC := collect_good HH.out.line (HMID.out 1 (by omega)) HN.out
      go_wp2_with fail
      refine HC.mono ?_
      rintro e w3 h3
      obtain ⟨⟨v, rfl⟩, hex, hbl⟩ := h3
      have HE : Hid (∀ v, StepTo B n w nb st (.returned v) w3) := fun v => ⟨⟨v, rfl⟩, hex, HBL.out.trans hbl⟩
      clear hex hbl HC HH
      go_wp2
      go_end0
      exact HE.out _

set_option maxRecDepth 100000 in
set_option maxHeartbeats 4000000 in
theorem step_twice0 {B n : Nat} {w : World} {nb : Nat} {st : Nat → St} {L : Ln} (h : LineAt B w nb st true L) (hg : Good n L) (hn : n ≤ 300) {c : Cn} {l : List Cn} (hw : L.way 0 = c :: l) :
    Calls Try.prog 22 #[.pointer (some ⟨nb, 0, none⟩), .agg #[.int .i64 4, .bool false]] w fun e w' => StepTo B n w nb st e w' := by
  obtain ⟨w1, hw1, hb1, d0, d1⟩ := way_box9 w 4 false
  obtain ⟨col, cl, a, s, r, ov, iv, wv, uv, hL0⟩ := h.ex
  have hL := hL0.below hb1
  have hc1 : cl w.heap.size = 0 := Classical.byContradiction fun hne => Nat.lt_irrefl _ (hL0.cols.2 _ hne).2
  have hj1 : ∀ j, j < 2 → col j w.heap.size = 0 := fun j hj => Classical.byContradiction fun hne => Nat.lt_irrefl _ ((hL0.lk j hj).cols.2 _ hne).2
  have hsz1 : w.heap.size < w1.heap.size := by rw [← hw1, World.size_alloc]; omega
  obtain ⟨g, off, cap, x, hv, hcs, hx⟩ := hL.head (by omega) hw
  obtain ⟨xo, xc, rfl⟩ : ∃ xo xc, x = .slice xo c.data.length xc := by
    obtain ⟨⟨⟨_, ao, cap, e, _⟩, _⟩, _⟩ := hx
    exact ⟨_, _, e⟩
  have e10 : w1.cell? ⟨nb, 10, none⟩ = some (wv 0) := hL.cell 10 rfl
  rw [hv] at e10
  have k0 : w1.cell? ⟨g, off, none⟩ = some (.int .i64 c.kind) := hcs 0 _ rfl
  have k1 : w1.cell? ⟨g, off + 1, none⟩ = some (.int .i64 c.ns) := hcs 1 _ rfl
  have k2 : w1.cell? ⟨g, off + 2, none⟩ = some (.int .i64 c.nr) := hcs 2 _ rfl
  have k3 : w1.cell? ⟨g, off + 3, none⟩ = some (.bool c.p) := hcs 3 _ rfl
  have k4 : w1.cell? ⟨g, off + 4, none⟩ = some (.int .i64 c.me) := hcs 4 _ rfl
  have k5 : w1.cell? ⟨g, off + 5, none⟩ = some (.int .i64 c.peer) := hcs 5 _ rfl
  have k6 : w1.cell? ⟨g, off + 6, none⟩ = some (.slice xo c.data.length xc) := hcs 6 _ rfl
  have hl0 : (0 : Int) < ((l.length + 1 : Nat) : Int) := by omega
  have hbox := heap_alloc_new w1 (.cells (c.agg (.slice xo c.data.length xc)) 24)
  have hb2 := bl_alloc (bl_refl w1) (.cells (c.agg (.slice xo c.data.length xc)) 24)
  have hH := hL.held (by omega) hw hx hv hb2 (Nat.le_refl _) hbox (bl_drew (bl_refl _)) d0 hsz1 hc1 hj1
  obtain ⟨q, hq⟩ : ∃ q, (if cap = 1 then (some ⟨g, off, none⟩ : Option Addr) else (some ⟨g, off, none⟩ : Option Addr).map (·.add 7)) = q := ⟨_, rfl⟩
  have hcut : ∀ W, (Instr.sliceAt 33 (.slice (some ⟨g, off, none⟩) (l.length + 1) cap) (some (.int .i64 1)) none none).run Try.prog W = .ok (.slice q l.length (cap - 1)) W := fun W => by
    rw [← hq]
    exact run_cut_ctls W _ _ _
  rw [hq] at hH
  have f10 := rc_frozen (j := 10) (bl_get (bl_drew (bl_refl _)) (bl_get hb2 hL.hb))
  have e10' := below_cell (bl_drew (bl_refl _)) (below_cell hb2 e10)
  have HMID : Hid (∀ k, k ≤ 2 → Mid n (L.come 0 c l k)) := fun k hk => hg.come hn (by omega) hw k hk
  have HOK : Hid (∀ k, k ≤ 1 → LkOk ((L.come 0 c l k).e 0) ∧ ((L.come 0 c l k).e 0).out.length ≤ 80000 ∧ ((L.come 0 c l k).e 0).inn.length ≤ 80000) := fun k hk => hg.comeOk (by omega) c l k hk
  have HN := Lib.hid hn
  have HHELD : Hid (_ ∧ _) := ⟨hH.1, (hb1.mono hL0.cols.1).trans hH.2⟩
  obtain ⟨z, hz⟩ : ∃ z, w1.heap.size = z := ⟨_, rfl⟩
  clear h hL0 hL hx hcs hg hn hH hbox hb2 hb1 hsz1 hc1 hj1 hq hw hv
  go_enter Try.func22, Try.ntmps22
  go_wp2_with fail
  try simp only [hw1]
  go_wp2_with fail
  obtain ⟨W2, hW2⟩ : ∃ W2, w1.alloc (.cells (c.agg (.slice xo c.data.length xc)) 24) = W2 := ⟨_, rfl⟩
  have hW2' : w1.alloc (.cells #[.int .i64 c.kind, .int .i64 c.ns, .int .i64 c.nr, .bool c.p, .int .i64 c.me, .int .i64 c.peer, .slice xo c.data.length xc] 24) = W2 := hW2
  rw [hW2] at e10' f10 HHELD
  simp only [hz] at HHELD
  simp only [hW2']
  clear hW2 hW2' k0 k1 k2 k3 k4 k5 k6
  refine wp_region_ord (n := 12) (S := fun W => W.cell? ⟨nb, 10, none⟩ = some (.slice (some ⟨g, off, none⟩) (l.length + 1) cap))
    [(0, true), (1, true), (2, true), (3, true), (4, true), (5, true), (6, true), (7, true), (8, true), (9, true), (10, true), (11, true), (12, false)]
    (by kernel_rfl) (fun _ _ d _ _ h => by cases d <;> exact h) (by kernel_rfl) e10' ?_
  iterate 12
    refine wpOrd_takeL (v := ?_) rfl (by rfl) ?_ ?_
    rotate_left
    focus (rintro w1 hS1; go_simp; try with_reducible rfl)
    simp only [Act.put, List.setIfInBounds_toArray, List.set_cons_zero, List.set_cons_succ]
  refine wpOrd_lastL rfl (by rfl) (fun K hK => ?_)
  go_simp
  refine hK.out _ _ ?_
  clear hK K
  refine wpOrd_nil ?_
  obtain ⟨W3, hW3⟩ : ∃ W3, (W2.setCell ⟨nb, 10, none⟩ (.slice q l.length (cap - 1))).drew = W3 := ⟨_, rfl⟩
  have hW3' : W2.drew.setCell ⟨nb, 10 + 0, none⟩ (.slice q l.length (cap - 1)) = W3 := hW3
  simp only [hW3'] at HHELD
  simp only [hW3]
  have HH : Hid (Held B W3 nb z w.heap.size 4 st c (L.come 0 c l 0)) := by rw [come_zero]; exact HHELD.out.1
  have HBL : Hid (Below B w W3) := HHELD.out.2
  clear HHELD hW3 hW3' e10' f10 e10 d0 d1 hcut hl0
  go_wp2_with fail
  go_loopw [6] (fun kv wr => ∃ k : Nat, kv = .int .i64 k ∧ k ≤ 2 ∧ Hid (Held B wr nb z w.heap.size 4 st c (L.come 0 c l k)) ∧ Hid (Below B w wr)) (fun kv _ => 10 - (intOf kv).toNat)
  case atStart => exact ⟨0, rfl, by omega, HH, HBL⟩
  case round =>
    clear HH HBL
    obtain ⟨k, rfl, hk, HH, HBL⟩ := hrel
    have kk := HH.out.kind
    rcases (show k = 0 ∨ k = 1 ∨ k = 2 by omega) with rfl | rfl | rfl
    · simp only [show ((0 : Nat) : Int) = 0 from rfl]
      obtain ⟨ai, x, q0, ⟨xo, xn, xc, rfl⟩, hbx, HR⟩ := HH.out.recv (i := 0) (by omega) (HOK.out 0 (by omega)).1 (HOK.out 0 (by omega)).2.1 (HOK.out 0 (by omega)).2.2
      have b0 : wr.cell? ⟨z, 0, none⟩ = some (.int .i64 c.kind) := by rw [cell_of_row _ _ _ _ _ _ hbx]; rfl
      have b1 : wr.cell? ⟨z, 1, none⟩ = some (.int .i64 c.ns) := by rw [cell_of_row _ _ _ _ _ _ hbx]; rfl
      have b2 : wr.cell? ⟨z, 2, none⟩ = some (.int .i64 c.nr) := by rw [cell_of_row _ _ _ _ _ _ hbx]; rfl
      have b3 : wr.cell? ⟨z, 3, none⟩ = some (.bool c.p) := by rw [cell_of_row _ _ _ _ _ _ hbx]; rfl
      have b4 : wr.cell? ⟨z, 4, none⟩ = some (.int .i64 c.me) := by rw [cell_of_row _ _ _ _ _ _ hbx]; rfl
      have b5 : wr.cell? ⟨z, 5, none⟩ = some (.int .i64 c.peer) := by rw [cell_of_row _ _ _ _ _ _ hbx]; rfl
      have b6 : wr.cell? ⟨z, 6, none⟩ = some (.slice xo xn xc) := by rw [cell_of_row _ _ _ _ _ _ hbx]; rfl
      clear hbx
      go_wp2_with fail
      go_region_held3 (fun w' => w'.cell? ⟨nb, 0, none⟩ = some (.pointer (some ⟨ai, 0, none⟩)) ∧ w'.cell? ⟨z, 0, none⟩ = some (.int .i64 c.kind) ∧ w'.cell? ⟨z, 1, none⟩ = some (.int .i64 c.ns) ∧ w'.cell? ⟨z, 2, none⟩ = some (.int .i64 c.nr) ∧ w'.cell? ⟨z, 3, none⟩ = some (.bool c.p) ∧ w'.cell? ⟨z, 4, none⟩ = some (.int .i64 c.me) ∧ w'.cell? ⟨z, 5, none⟩ = some (.int .i64 c.peer) ∧ w'.cell? ⟨z, 6, none⟩ = some (.slice xo xn xc))
        (first | exact ⟨below_cell (bl_drew (bl_refl _)) q0, below_cell (bl_drew (bl_refl _)) b0, below_cell (bl_drew (bl_refl _)) b1, below_cell (bl_drew (bl_refl _)) b2, below_cell (bl_drew (bl_refl _)) b3, below_cell (bl_drew (bl_refl _)) b4, below_cell (bl_drew (bl_refl _)) b5, below_cell (bl_drew (bl_refl _)) b6⟩ | exact ⟨q0, b0, b1, b2, b3, b4, b5, b6⟩ | exact ⟨(h4 0 _).1 q0, (h4 0 _).2 b0, (h4 1 _).2 b1, (h4 2 _).2 b2, (h4 3 _).2 b3, (h4 4 _).2 b4, (h4 5 _).2 b5, (h4 6 _).2 b6⟩)
        (first | (go_at_call 9; refine (HR _ (bl_drew (bl_refl _))).mono ?_; rintro e w3 ⟨rfl, h3, h4⟩))
      have HH3 : Hid (Held B w3 nb z w.heap.size 4 st c (L.come 0 c l 1)) := by rw [← come_succ]; exact h3.1
      have HBL3 : Hid (Below B w w3) := HBL.out.trans h3.2
      have kk3 := HH3.out.kind
      clear h3 h4 HR HH HBL q0 b0 b1 b2 b3 b4 b5 b6
      go_wp2_with fail
      go_roundw
      case rel => exact ⟨1, by go_num, by omega, HH3, HBL3⟩
      case measure => simp [intOf]
    · simp only [show ((1 : Nat) : Int) = 1 from rfl]
      obtain ⟨ai, x, q0, ⟨xo, xn, xc, rfl⟩, hbx, HR⟩ := HH.out.recv (i := 0) (by omega) (HOK.out 1 (by omega)).1 (HOK.out 1 (by omega)).2.1 (HOK.out 1 (by omega)).2.2
      have b0 : wr.cell? ⟨z, 0, none⟩ = some (.int .i64 c.kind) := by rw [cell_of_row _ _ _ _ _ _ hbx]; rfl
      have b1 : wr.cell? ⟨z, 1, none⟩ = some (.int .i64 c.ns) := by rw [cell_of_row _ _ _ _ _ _ hbx]; rfl
      have b2 : wr.cell? ⟨z, 2, none⟩ = some (.int .i64 c.nr) := by rw [cell_of_row _ _ _ _ _ _ hbx]; rfl
      have b3 : wr.cell? ⟨z, 3, none⟩ = some (.bool c.p) := by rw [cell_of_row _ _ _ _ _ _ hbx]; rfl
      have b4 : wr.cell? ⟨z, 4, none⟩ = some (.int .i64 c.me) := by rw [cell_of_row _ _ _ _ _ _ hbx]; rfl
      have b5 : wr.cell? ⟨z, 5, none⟩ = some (.int .i64 c.peer) := by rw [cell_of_row _ _ _ _ _ _ hbx]; rfl
      have b6 : wr.cell? ⟨z, 6, none⟩ = some (.slice xo xn xc) := by rw [cell_of_row _ _ _ _ _ _ hbx]; rfl
      clear hbx
      go_wp2_with fail
      go_region_held3 (fun w' => w'.cell? ⟨nb, 0, none⟩ = some (.pointer (some ⟨ai, 0, none⟩)) ∧ w'.cell? ⟨z, 0, none⟩ = some (.int .i64 c.kind) ∧ w'.cell? ⟨z, 1, none⟩ = some (.int .i64 c.ns) ∧ w'.cell? ⟨z, 2, none⟩ = some (.int .i64 c.nr) ∧ w'.cell? ⟨z, 3, none⟩ = some (.bool c.p) ∧ w'.cell? ⟨z, 4, none⟩ = some (.int .i64 c.me) ∧ w'.cell? ⟨z, 5, none⟩ = some (.int .i64 c.peer) ∧ w'.cell? ⟨z, 6, none⟩ = some (.slice xo xn xc))
        (first | exact ⟨below_cell (bl_drew (bl_refl _)) q0, below_cell (bl_drew (bl_refl _)) b0, below_cell (bl_drew (bl_refl _)) b1, below_cell (bl_drew (bl_refl _)) b2, below_cell (bl_drew (bl_refl _)) b3, below_cell (bl_drew (bl_refl _)) b4, below_cell (bl_drew (bl_refl _)) b5, below_cell (bl_drew (bl_refl _)) b6⟩ | exact ⟨q0, b0, b1, b2, b3, b4, b5, b6⟩ | exact ⟨(h4 0 _).1 q0, (h4 0 _).2 b0, (h4 1 _).2 b1, (h4 2 _).2 b2, (h4 3 _).2 b3, (h4 4 _).2 b4, (h4 5 _).2 b5, (h4 6 _).2 b6⟩)
        (first | (go_at_call 9; refine (HR _ (bl_drew (bl_refl _))).mono ?_; rintro e w3 ⟨rfl, h3, h4⟩))
      have HH3 : Hid (Held B w3 nb z w.heap.size 4 st c (L.come 0 c l 2)) := by rw [← come_succ]; exact h3.1
      have HBL3 : Hid (Below B w w3) := HBL.out.trans h3.2
      have kk3 := HH3.out.kind
      clear h3 h4 HR HH HBL q0 b0 b1 b2 b3 b4 b5 b6
      go_wp2_with fail
      go_roundw
      case rel => exact ⟨2, by go_num, by omega, HH3, HBL3⟩
      case measure => simp [intOf]
    · simp only [show ((2 : Nat) : Int) = 2 from rfl]
      have HC := collect_good HH.out.line (HMID.out 2 (by omega)) HN.out
      go_wp2_with fail
      refine HC.mono ?_
      rintro e w3 h3
      obtain ⟨⟨v, rfl⟩, hex, hbl⟩ := h3
      have HE : Hid (∀ v, StepTo B n w nb st (.returned v) w3) := fun v => ⟨⟨v, rfl⟩, hex, HBL.out.trans hbl⟩
      clear hex hbl HC HH
      go_wp2
      go_end0
      exact HE.out _

set_option maxRecDepth 100000 in
set_option maxHeartbeats 4000000 in
theorem step_none2_0 {B n : Nat} {w : World} {nb : Nat} {st : Nat → St} {L : Ln} (h : LineAt B w nb st true L) (hg : Good n L) (hn : n ≤ 300) (hw : L.way 0 = []) :
    Calls Try.prog 22 #[.pointer (some ⟨nb, 0, none⟩), .agg #[.int .i64 2, .bool false]] w fun e w' => StepTo B n w nb st e w' := by
  obtain ⟨w1, hw1, hb1, d0, d1⟩ := way_box9 w 2 false
  obtain ⟨h1, hb1'⟩ := h.below hb1
  obtain ⟨col, cl, a, s, r, ov, iv, wv, uv, hL⟩ := h1.ex
  have e10 : w1.cell? ⟨nb, 10, none⟩ = some (wv 0) := hL.cell 10 rfl
  obtain ⟨ao, cap, hv⟩ : ∃ ao cap, wv 0 = .slice ao 0 cap := by
    obtain ⟨cs, hR, _⟩ := hL.way 0 (by omega)
    rw [hw] at hR
    obtain ⟨ao, cap, e, _⟩ := hR.form
    exact ⟨ao, cap, e⟩
  rw [hv] at e10
  have HC := collect_good h1 hg.mid hn
  have HB1 := Lib.hid hb1'
  clear h h1 hb1 hb1' hg hn hL hw
  go_enter Try.func22, Try.ntmps22
  go_wp2_with fail
  try simp only [hw1]
  go_wp2_with fail
  refine HC.mono ?_
  rintro e w3 h3
  obtain ⟨⟨v, rfl⟩, hex, hbl⟩ := h3
  have HE : Hid (∀ v, StepTo B n w nb st (.returned v) w3) := fun v => ⟨⟨v, rfl⟩, hex, HB1.out.trans hbl⟩
  clear hex hbl HC
  go_wp2
  go_end0
  exact HE.out _

set_option maxRecDepth 100000 in
set_option maxHeartbeats 4000000 in
theorem step_none3_0 {B n : Nat} {w : World} {nb : Nat} {st : Nat → St} {L : Ln} (h : LineAt B w nb st true L) (hg : Good n L) (hn : n ≤ 300) (hw : L.way 0 = []) :
    Calls Try.prog 22 #[.pointer (some ⟨nb, 0, none⟩), .agg #[.int .i64 3, .bool false]] w fun e w' => StepTo B n w nb st e w' := by
  obtain ⟨w1, hw1, hb1, d0, d1⟩ := way_box9 w 3 false
  obtain ⟨h1, hb1'⟩ := h.below hb1
  obtain ⟨col, cl, a, s, r, ov, iv, wv, uv, hL⟩ := h1.ex
  have e10 : w1.cell? ⟨nb, 10, none⟩ = some (wv 0) := hL.cell 10 rfl
  obtain ⟨ao, cap, hv⟩ : ∃ ao cap, wv 0 = .slice ao 0 cap := by
    obtain ⟨cs, hR, _⟩ := hL.way 0 (by omega)
    rw [hw] at hR
    obtain ⟨ao, cap, e, _⟩ := hR.form
    exact ⟨ao, cap, e⟩
  rw [hv] at e10
  have HC := collect_good h1 hg.mid hn
  have HB1 := Lib.hid hb1'
  clear h h1 hb1 hb1' hg hn hL hw
  go_enter Try.func22, Try.ntmps22
  go_wp2_with fail
  try simp only [hw1]
  go_wp2_with fail
  refine HC.mono ?_
  rintro e w3 h3
  obtain ⟨⟨v, rfl⟩, hex, hbl⟩ := h3
  have HE : Hid (∀ v, StepTo B n w nb st (.returned v) w3) := fun v => ⟨⟨v, rfl⟩, hex, HB1.out.trans hbl⟩
  clear hex hbl HC
  go_wp2
  go_end0
  exact HE.out _

set_option maxRecDepth 100000 in
set_option maxHeartbeats 4000000 in
theorem step_none4_0 {B n : Nat} {w : World} {nb : Nat} {st : Nat → St} {L : Ln} (h : LineAt B w nb st true L) (hg : Good n L) (hn : n ≤ 300) (hw : L.way 0 = []) :
    Calls Try.prog 22 #[.pointer (some ⟨nb, 0, none⟩), .agg #[.int .i64 4, .bool false]] w fun e w' => StepTo B n w nb st e w' := by
  obtain ⟨w1, hw1, hb1, d0, d1⟩ := way_box9 w 4 false
  obtain ⟨h1, hb1'⟩ := h.below hb1
  obtain ⟨col, cl, a, s, r, ov, iv, wv, uv, hL⟩ := h1.ex
  have e10 : w1.cell? ⟨nb, 10, none⟩ = some (wv 0) := hL.cell 10 rfl
  obtain ⟨ao, cap, hv⟩ : ∃ ao cap, wv 0 = .slice ao 0 cap := by
    obtain ⟨cs, hR, _⟩ := hL.way 0 (by omega)
    rw [hw] at hR
    obtain ⟨ao, cap, e, _⟩ := hR.form
    exact ⟨ao, cap, e⟩
  rw [hv] at e10
  have HC := collect_good h1 hg.mid hn
  have HB1 := Lib.hid hb1'
  clear h h1 hb1 hb1' hg hn hL hw
  go_enter Try.func22, Try.ntmps22
  go_wp2_with fail
  try simp only [hw1]
  go_wp2_with fail
  refine HC.mono ?_
  rintro e w3 h3
  obtain ⟨⟨v, rfl⟩, hex, hbl⟩ := h3
  have HE : Hid (∀ v, StepTo B n w nb st (.returned v) w3) := fun v => ⟨⟨v, rfl⟩, hex, HB1.out.trans hbl⟩
  clear hex hbl HC
  go_wp2
  go_end0
  exact HE.out _

set_option maxRecDepth 100000 in
set_option maxHeartbeats 4000000 in
theorem step_other0 {B n : Nat} {w : World} {nb : Nat} {st : Nat → St} {L : Ln} (h : LineAt B w nb st true L) (hg : Good n L) (hn : n ≤ 300) (k : Int) (hk : k < 0 ∨ 5 < k) :
    Calls Try.prog 22 #[.pointer (some ⟨nb, 0, none⟩), .agg #[.int .i64 k, .bool false]] w fun e w' => StepTo B n w nb st e w' := by
  obtain ⟨w1, hw1, hb1, d0, d1⟩ := way_box9 w k false
  obtain ⟨h1, hb1'⟩ := h.below hb1
  have HC := collect_good h1 hg.mid hn
  have HB1 := Lib.hid hb1'
  have k0 : ¬ k = 0 := by omega
  have k1 : ¬ k = 1 := by omega
  have k2 : ¬ k = 2 := by omega
  have k3 : ¬ k = 3 := by omega
  have k4 : ¬ k = 4 := by omega
  have k5 : ¬ k = 5 := by omega
  clear h h1 hb1 hb1' hg hn hk
  go_enter Try.func22, Try.ntmps22
  go_wp2_with fail
  try simp only [hw1]
  go_wp2_with fail
  refine HC.mono ?_
  rintro e w3 h3
  obtain ⟨⟨v, rfl⟩, hex, hbl⟩ := h3
  have HE : Hid (∀ v, StepTo B n w nb st (.returned v) w3) := fun v => ⟨⟨v, rfl⟩, hex, HB1.out.trans hbl⟩
  clear hex hbl HC
  go_wp2
  go_end0
  exact HE.out _

set_option maxRecDepth 100000 in
set_option maxHeartbeats 4000000 in
theorem step_lost1 {B n : Nat} {w : World} {nb : Nat} {st : Nat → St} {L : Ln} (h : LineAt B w nb st true L) (hg : Good n L) (hn : n ≤ 300) {c : Cn} {l : List Cn} (hw : L.way 1 = c :: l) :
    Calls Try.prog 22 #[.pointer (some ⟨nb, 0, none⟩), .agg #[.int .i64 3, .bool true]] w fun e w' => StepTo B n w nb st e w' := by
  obtain ⟨w1, hw1, hb1, d0, d1⟩ := way_box9 w 3 true
  obtain ⟨col, cl, a, s, r, ov, iv, wv, uv, hL0⟩ := h.ex
  have hL := hL0.below hb1
  have hc1 : cl w.heap.size = 0 := Classical.byContradiction fun hne => Nat.lt_irrefl _ (hL0.cols.2 _ hne).2
  have hj1 : ∀ j, j < 2 → col j w.heap.size = 0 := fun j hj => Classical.byContradiction fun hne => Nat.lt_irrefl _ ((hL0.lk j hj).cols.2 _ hne).2
  have hsz1 : w.heap.size < w1.heap.size := by rw [← hw1, World.size_alloc]; omega
  obtain ⟨g, off, cap, x, hv, hcs, hx⟩ := hL.head (by omega) hw
  obtain ⟨xo, xc, rfl⟩ : ∃ xo xc, x = .slice xo c.data.length xc := by
    obtain ⟨⟨⟨_, ao, cap, e, _⟩, _⟩, _⟩ := hx
    exact ⟨_, _, e⟩
  have e10 : w1.cell? ⟨nb, 11, none⟩ = some (wv 1) := hL.cell 11 rfl
  rw [hv] at e10
  have k0 : w1.cell? ⟨g, off, none⟩ = some (.int .i64 c.kind) := hcs 0 _ rfl
  have k1 : w1.cell? ⟨g, off + 1, none⟩ = some (.int .i64 c.ns) := hcs 1 _ rfl
  have k2 : w1.cell? ⟨g, off + 2, none⟩ = some (.int .i64 c.nr) := hcs 2 _ rfl
  have k3 : w1.cell? ⟨g, off + 3, none⟩ = some (.bool c.p) := hcs 3 _ rfl
  have k4 : w1.cell? ⟨g, off + 4, none⟩ = some (.int .i64 c.me) := hcs 4 _ rfl
  have k5 : w1.cell? ⟨g, off + 5, none⟩ = some (.int .i64 c.peer) := hcs 5 _ rfl
  have k6 : w1.cell? ⟨g, off + 6, none⟩ = some (.slice xo c.data.length xc) := hcs 6 _ rfl
  have hl0 : (0 : Int) < ((l.length + 1 : Nat) : Int) := by omega
  have hbox := heap_alloc_new w1 (.cells (c.agg (.slice xo c.data.length xc)) 24)
  have hb2 := bl_alloc (bl_refl w1) (.cells (c.agg (.slice xo c.data.length xc)) 24)
  have hH := hL.held (by omega) hw hx hv hb2 (Nat.le_refl _) hbox (bl_drew (bl_refl _)) d0 hsz1 hc1 hj1
  obtain ⟨q, hq⟩ : ∃ q, (if cap = 1 then (some ⟨g, off, none⟩ : Option Addr) else (some ⟨g, off, none⟩ : Option Addr).map (·.add 7)) = q := ⟨_, rfl⟩
  have hcut : ∀ W, (Instr.sliceAt 33 (.slice (some ⟨g, off, none⟩) (l.length + 1) cap) (some (.int .i64 1)) none none).run Try.prog W = .ok (.slice q l.length (cap - 1)) W := fun W => by
    rw [← hq]
    exact run_cut_ctls W _ _ _
  rw [hq] at hH
  have f10 := rc_frozen (j := 11) (bl_get (bl_drew (bl_refl _)) (bl_get hb2 hL.hb))
  have e10' := below_cell (bl_drew (bl_refl _)) (below_cell hb2 e10)
  have HMID : Hid (∀ k, k ≤ 2 → Mid n (L.come 1 c l k)) := fun k hk => hg.come hn (by omega) hw k hk
  have HOK : Hid (∀ k, k ≤ 1 → LkOk ((L.come 1 c l k).e 1) ∧ ((L.come 1 c l k).e 1).out.length ≤ 80000 ∧ ((L.come 1 c l k).e 1).inn.length ≤ 80000) := fun k hk => hg.comeOk (by omega) c l k hk
  have HN := Lib.hid hn
  have HHELD : Hid (_ ∧ _) := ⟨hH.1, (hb1.mono hL0.cols.1).trans hH.2⟩
  obtain ⟨z, hz⟩ : ∃ z, w1.heap.size = z := ⟨_, rfl⟩
  clear h hL0 hL hx hcs hg hn hH hbox hb2 hb1 hsz1 hc1 hj1 hq hw hv
  go_enter Try.func22, Try.ntmps22
  go_wp2_with fail
  try simp only [hw1]
  go_wp2_with fail
  obtain ⟨W2, hW2⟩ : ∃ W2, w1.alloc (.cells (c.agg (.slice xo c.data.length xc)) 24) = W2 := ⟨_, rfl⟩
  have hW2' : w1.alloc (.cells #[.int .i64 c.kind, .int .i64 c.ns, .int .i64 c.nr, .bool c.p, .int .i64 c.me, .int .i64 c.peer, .slice xo c.data.length xc] 24) = W2 := hW2
  rw [hW2] at e10' f10 HHELD
  simp only [hz] at HHELD
  simp only [hW2']
  clear hW2 hW2' k0 k1 k2 k3 k4 k5 k6
  refine wp_region_ord (n := 12) (S := fun W => W.cell? ⟨nb, 11, none⟩ = some (.slice (some ⟨g, off, none⟩) (l.length + 1) cap))
    [(0, true), (1, true), (2, true), (3, true), (4, true), (5, true), (6, true), (7, true), (8, true), (9, true), (10, true), (11, true), (12, false)]
    (by kernel_rfl) (fun _ _ d _ _ h => by cases d <;> exact h) (by kernel_rfl) e10' ?_
  iterate 12
    refine wpOrd_takeL (v := ?_) rfl (by rfl) ?_ ?_
    rotate_left
    focus (rintro w1 hS1; go_simp; try with_reducible rfl)
    simp only [Act.put, List.setIfInBounds_toArray, List.set_cons_zero, List.set_cons_succ]
  refine wpOrd_lastL rfl (by rfl) (fun K hK => ?_)
  go_simp
  refine hK.out _ _ ?_
  clear hK K
  refine wpOrd_nil ?_
  obtain ⟨W3, hW3⟩ : ∃ W3, (W2.setCell ⟨nb, 11, none⟩ (.slice q l.length (cap - 1))).drew = W3 := ⟨_, rfl⟩
  have hW3' : W2.drew.setCell ⟨nb, 10 + 1, none⟩ (.slice q l.length (cap - 1)) = W3 := hW3
  simp only [hW3'] at HHELD
  simp only [hW3]
  have HH : Hid (Held B W3 nb z w.heap.size 3 st c (L.come 1 c l 0)) := by rw [come_zero]; exact HHELD.out.1
  have HBL : Hid (Below B w W3) := HHELD.out.2
  clear HHELD hW3 hW3' e10' f10 e10 d0 d1 hcut hl0
  go_wp2_with fail
  go_loopw [6] (fun kv wr => ∃ k : Nat, kv = .int .i64 k ∧ k ≤ 0 ∧ Hid (Held B wr nb z w.heap.size 3 st c (L.come 1 c l k)) ∧ Hid (Below B w wr)) (fun kv _ => 10 - (intOf kv).toNat)
  case atStart => exact ⟨0, rfl, by omega, HH, HBL⟩
  case round =>
    clear HH HBL
    obtain ⟨k, rfl, hk, HH, HBL⟩ := hrel
    have kk := HH.out.kind
    obtain rfl : k = 0 := by omega
    · simp only [show ((0 : Nat) : Int) = 0 from rfl]
      have HC := collect_good HH.out.line (HMID.out 0 (by omega)) HN.out
      go_wp2_with fail
      refine HC.mono ?_
      rintro e w3 h3
      obtain ⟨⟨v, rfl⟩, hex, hbl⟩ := h3
      have HE : Hid (∀ v, StepTo B n w nb st (.returned v) w3) := fun v => ⟨⟨v, rfl⟩, hex, HBL.out.trans hbl⟩
      clear hex hbl HC HH
      go_wp2
      go_end0
      exact HE.out _

set_option maxRecDepth 100000 in
set_option maxHeartbeats 4000000 in
theorem step_once1 {B n : Nat} {w : World} {nb : Nat} {st : Nat → St} {L : Ln} (h : LineAt B w nb st true L) (hg : Good n L) (hn : n ≤ 300) {c : Cn} {l : List Cn} (hw : L.way 1 = c :: l) :
    Calls Try.prog 22 #[.pointer (some ⟨nb, 0, none⟩), .agg #[.int .i64 2, .bool true]] w fun e w' => StepTo B n w nb st e w' := by
  obtain ⟨w1, hw1, hb1, d0, d1⟩ := way_box9 w 2 true
  obtain ⟨col, cl, a, s, r, ov, iv, wv, uv, hL0⟩ := h.ex
  have hL := hL0.below hb1
  have hc1 : cl w.heap.size = 0 := Classical.byContradiction fun hne => Nat.lt_irrefl _ (hL0.cols.2 _ hne).2
  have hj1 : ∀ j, j < 2 → col j w.heap.size = 0 := fun j hj => Classical.byContradiction fun hne => Nat.lt_irrefl _ ((hL0.lk j hj).cols.2 _ hne).2
  have hsz1 : w.heap.size < w1.heap.size := by rw [← hw1, World.size_alloc]; omega
  obtain ⟨g, off, cap, x, hv, hcs, hx⟩ := hL.head (by omega) hw
  obtain ⟨xo, xc, rfl⟩ : ∃ xo xc, x = .slice xo c.data.length xc := by
    obtain ⟨⟨⟨_, ao, cap, e, _⟩, _⟩, _⟩ := hx
    exact ⟨_, _, e⟩
  have e10 : w1.cell? ⟨nb, 11, none⟩ = some (wv 1) := hL.cell 11 rfl
  rw [hv] at e10
  have k0 : w1.cell? ⟨g, off, none⟩ = some (.int .i64 c.kind) := hcs 0 _ rfl
  have k1 : w1.cell? ⟨g, off + 1, none⟩ = some (.int .i64 c.ns) := hcs 1 _ rfl
  have k2 : w1.cell? ⟨g, off + 2, none⟩ = some (.int .i64 c.nr) := hcs 2 _ rfl
  have k3 : w1.cell? ⟨g, off + 3, none⟩ = some (.bool c.p) := hcs 3 _ rfl
  have k4 : w1.cell? ⟨g, off + 4, none⟩ = some (.int .i64 c.me) := hcs 4 _ rfl
  have k5 : w1.cell? ⟨g, off + 5, none⟩ = some (.int .i64 c.peer) := hcs 5 _ rfl
  have k6 : w1.cell? ⟨g, off + 6, none⟩ = some (.slice xo c.data.length xc) := hcs 6 _ rfl
  have hl0 : (0 : Int) < ((l.length + 1 : Nat) : Int) := by omega
  have hbox := heap_alloc_new w1 (.cells (c.agg (.slice xo c.data.length xc)) 24)
  have hb2 := bl_alloc (bl_refl w1) (.cells (c.agg (.slice xo c.data.length xc)) 24)
  have hH := hL.held (by omega) hw hx hv hb2 (Nat.le_refl _) hbox (bl_drew (bl_refl _)) d0 hsz1 hc1 hj1
  obtain ⟨q, hq⟩ : ∃ q, (if cap = 1 then (some ⟨g, off, none⟩ : Option Addr) else (some ⟨g, off, none⟩ : Option Addr).map (·.add 7)) = q := ⟨_, rfl⟩
  have hcut : ∀ W, (Instr.sliceAt 33 (.slice (some ⟨g, off, none⟩) (l.length + 1) cap) (some (.int .i64 1)) none none).run Try.prog W = .ok (.slice q l.length (cap - 1)) W := fun W => by
    rw [← hq]
    exact run_cut_ctls W _ _ _
  rw [hq] at hH
  have f10 := rc_frozen (j := 11) (bl_get (bl_drew (bl_refl _)) (bl_get hb2 hL.hb))
  have e10' := below_cell (bl_drew (bl_refl _)) (below_cell hb2 e10)
  have HMID : Hid (∀ k, k ≤ 2 → Mid n (L.come 1 c l k)) := fun k hk => hg.come hn (by omega) hw k hk
  have HOK : Hid (∀ k, k ≤ 1 → LkOk ((L.come 1 c l k).e 1) ∧ ((L.come 1 c l k).e 1).out.length ≤ 80000 ∧ ((L.come 1 c l k).e 1).inn.length ≤ 80000) := fun k hk => hg.comeOk (by omega) c l k hk
  have HN := Lib.hid hn
  have HHELD : Hid (_ ∧ _) := ⟨hH.1, (hb1.mono hL0.cols.1).trans hH.2⟩
  obtain ⟨z, hz⟩ : ∃ z, w1.heap.size = z := ⟨_, rfl⟩
  clear h hL0 hL hx hcs hg hn hH hbox hb2 hb1 hsz1 hc1 hj1 hq hw hv
  go_enter Try.func22, Try.ntmps22
  go_wp2_with fail
  try simp only [hw1]
  go_wp2_with fail
  obtain ⟨W2, hW2⟩ : ∃ W2, w1.alloc (.cells (c.agg (.slice xo c.data.length xc)) 24) = W2 := ⟨_, rfl⟩
  have hW2' : w1.alloc (.cells #[.int .i64 c.kind, .int .i64 c.ns, .int .i64 c.nr, .bool c.p, .int .i64 c.me, .int .i64 c.peer, .slice xo c.data.length xc] 24) = W2 := hW2
  rw [hW2] at e10' f10 HHELD
  simp only [hz] at HHELD
  simp only [hW2']
  clear hW2 hW2' k0 k1 k2 k3 k4 k5 k6
  refine wp_region_ord (n := 12) (S := fun W => W.cell? ⟨nb, 11, none⟩ = some (.slice (some ⟨g, off, none⟩) (l.length + 1) cap))
    [(0, true), (1, true), (2, true), (3, true), (4, true), (5, true), (6, true), (7, true), (8, true), (9, true), (10, true), (11, true), (12, false)]
    (by kernel_rfl) (fun _ _ d _ _ h => by cases d <;> exact h) (by kernel_rfl) e10' ?_
  iterate 12
    refine wpOrd_takeL (v := ?_) rfl (by rfl) ?_ ?_
    rotate_left
    focus (rintro w1 hS1; go_simp; try with_reducible rfl)
    simp only [Act.put, List.setIfInBounds_toArray, List.set_cons_zero, List.set_cons_succ]
  refine wpOrd_lastL rfl (by rfl) (fun K hK => ?_)
  go_simp
  refine hK.out _ _ ?_
  clear hK K
  refine wpOrd_nil ?_
  obtain ⟨W3, hW3⟩ : ∃ W3, (W2.setCell ⟨nb, 11, none⟩ (.slice q l.length (cap - 1))).drew = W3 := ⟨_, rfl⟩
  have hW3' : W2.drew.setCell ⟨nb, 10 + 1, none⟩ (.slice q l.length (cap - 1)) = W3 := hW3
  simp only [hW3'] at HHELD
  simp only [hW3]
  have HH : Hid (Held B W3 nb z w.heap.size 2 st c (L.come 1 c l 0)) := by rw [come_zero]; exact HHELD.out.1
  have HBL : Hid (Below B w W3) := HHELD.out.2
  clear HHELD hW3 hW3' e10' f10 e10 d0 d1 hcut hl0
  go_wp2_with fail
  go_loopw [6] (fun kv wr => ∃ k : Nat, kv = .int .i64 k ∧ k ≤ 1 ∧ Hid (Held B wr nb z w.heap.size 2 st c (L.come 1 c l k)) ∧ Hid (Below B w wr)) (fun kv _ => 10 - (intOf kv).toNat)
  case atStart => exact ⟨0, rfl, by omega, HH, HBL⟩
  case round =>
    clear HH HBL
    obtain ⟨k, rfl, hk, HH, HBL⟩ := hrel
    have kk := HH.out.kind
    rcases (show k = 0 ∨ k = 1 by omega) with rfl | rfl
    · simp only [show ((0 : Nat) : Int) = 0 from rfl]
      obtain ⟨ai, x, q0, ⟨xo, xn, xc, rfl⟩, hbx, HR⟩ := HH.out.recv (i := 1) (by omega) (HOK.out 0 (by omega)).1 (HOK.out 0 (by omega)).2.1 (HOK.out 0 (by omega)).2.2
      have b0 : wr.cell? ⟨z, 0, none⟩ = some (.int .i64 c.kind) := by rw [cell_of_row _ _ _ _ _ _ hbx]; rfl
      have b1 : wr.cell? ⟨z, 1, none⟩ = some (.int .i64 c.ns) := by rw [cell_of_row _ _ _ _ _ _ hbx]; rfl
      have b2 : wr.cell? ⟨z, 2, none⟩ = some (.int .i64 c.nr) := by rw [cell_of_row _ _ _ _ _ _ hbx]; rfl
      have b3 : wr.cell? ⟨z, 3, none⟩ = some (.bool c.p) := by rw [cell_of_row _ _ _ _ _ _ hbx]; rfl
      have b4 : wr.cell? ⟨z, 4, none⟩ = some (.int .i64 c.me) := by rw [cell_of_row _ _ _ _ _ _ hbx]; rfl
      have b5 : wr.cell? ⟨z, 5, none⟩ = some (.int .i64 c.peer) := by rw [cell_of_row _ _ _ _ _ _ hbx]; rfl
      have b6 : wr.cell? ⟨z, 6, none⟩ = some (.slice xo xn xc) := by rw [cell_of_row _ _ _ _ _ _ hbx]; rfl
      clear hbx
      go_wp2_with fail
      go_region_held3 (fun w' => w'.cell? ⟨nb, 1, none⟩ = some (.pointer (some ⟨ai, 0, none⟩)) ∧ w'.cell? ⟨z, 0, none⟩ = some (.int .i64 c.kind) ∧ w'.cell? ⟨z, 1, none⟩ = some (.int .i64 c.ns) ∧ w'.cell? ⟨z, 2, none⟩ = some (.int .i64 c.nr) ∧ w'.cell? ⟨z, 3, none⟩ = some (.bool c.p) ∧ w'.cell? ⟨z, 4, none⟩ = some (.int .i64 c.me) ∧ w'.cell? ⟨z, 5, none⟩ = some (.int .i64 c.peer) ∧ w'.cell? ⟨z, 6, none⟩ = some (.slice xo xn xc))
        (first | exact ⟨below_cell (bl_drew (bl_refl _)) q0, below_cell (bl_drew (bl_refl _)) b0, below_cell (bl_drew (bl_refl _)) b1, below_cell (bl_drew (bl_refl _)) b2, below_cell (bl_drew (bl_refl _)) b3, below_cell (bl_drew (bl_refl _)) b4, below_cell (bl_drew (bl_refl _)) b5, below_cell (bl_drew (bl_refl _)) b6⟩ | exact ⟨q0, b0, b1, b2, b3, b4, b5, b6⟩ | exact ⟨(h4 1 _).1 q0, (h4 0 _).2 b0, (h4 1 _).2 b1, (h4 2 _).2 b2, (h4 3 _).2 b3, (h4 4 _).2 b4, (h4 5 _).2 b5, (h4 6 _).2 b6⟩)
        (first | (go_at_call 9; refine (HR _ (bl_drew (bl_refl _))).mono ?_; rintro e w3 ⟨rfl, h3, h4⟩))
      have HH3 : Hid (Held B w3 nb z w.heap.size 2 st c (L.come 1 c l 1)) := by rw [← come_succ]; exact h3.1
      have HBL3 : Hid (Below B w w3) := HBL.out.trans h3.2
      have kk3 := HH3.out.kind
      clear h3 h4 HR HH HBL q0 b0 b1 b2 b3 b4 b5 b6
      go_wp2_with fail
      go_roundw
      case rel => exact ⟨1, by go_num, by omega, HH3, HBL3⟩
      case measure => simp [intOf]
    · simp only [show ((1 : Nat) : Int) = 1 from rfl]
      have HC := collect_good HH.out.line (HMID.out 1 (by omega)) HN.out
      go_wp2_with fail
      refine HC.mono ?_
      rintro e w3 h3
      obtain ⟨⟨v, rfl⟩, hex, hbl⟩ := h3
      have HE : Hid (∀ v, StepTo B n w nb st (.returned v) w3) := fun v => ⟨⟨v, rfl⟩, hex, HBL.out.trans hbl⟩
      clear hex hbl HC HH
      go_wp2
      go_end0
      exact HE.out _

set_option maxRecDepth 100000 in
set_option maxHeartbeats 4000000 in
theorem step_twice1 {B n : Nat} {w : World} {nb : Nat} {st : Nat → St} {L : Ln} (h : LineAt B w nb st true L) (hg : Good n L) (hn : n ≤ 300) {c : Cn} {l : List Cn} (hw : L.way 1 = c :: l) :
    Calls Try.prog 22 #[.pointer (some ⟨nb, 0, none⟩), .agg #[.int .i64 4, .bool true]] w fun e w' => StepTo B n w nb st e w' := by
  obtain ⟨w1, hw1, hb1, d0, d1⟩ := way_box9 w 4 true
  obtain ⟨col, cl, a, s, r, ov, iv, wv, uv, hL0⟩ := h.ex
  have hL := hL0.below hb1
  have hc1 : cl w.heap.size = 0 := Classical.byContradiction fun hne => Nat.lt_irrefl _ (hL0.cols.2 _ hne).2
  have hj1 : ∀ j, j < 2 → col j w.heap.size = 0 := fun j hj => Classical.byContradiction fun hne => Nat.lt_irrefl _ ((hL0.lk j hj).cols.2 _ hne).2
  have hsz1 : w.heap.size < w1.heap.size := by rw [← hw1, World.size_alloc]; omega
  obtain ⟨g, off, cap, x, hv, hcs, hx⟩ := hL.head (by omega) hw
  obtain ⟨xo, xc, rfl⟩ : ∃ xo xc, x = .slice xo c.data.length xc := by
    obtain ⟨⟨⟨_, ao, cap, e, _⟩, _⟩, _⟩ := hx
    exact ⟨_, _, e⟩
  have e10 : w1.cell? ⟨nb, 11, none⟩ = some (wv 1) := hL.cell 11 rfl
  rw [hv] at e10
  have k0 : w1.cell? ⟨g, off, none⟩ = some (.int .i64 c.kind) := hcs 0 _ rfl
  have k1 : w1.cell? ⟨g, off + 1, none⟩ = some (.int .i64 c.ns) := hcs 1 _ rfl
  have k2 : w1.cell? ⟨g, off + 2, none⟩ = some (.int .i64 c.nr) := hcs 2 _ rfl
  have k3 : w1.cell? ⟨g, off + 3, none⟩ = some (.bool c.p) := hcs 3 _ rfl
  have k4 : w1.cell? ⟨g, off + 4, none⟩ = some (.int .i64 c.me) := hcs 4 _ rfl
  have k5 : w1.cell? ⟨g, off + 5, none⟩ = some (.int .i64 c.peer) := hcs 5 _ rfl
  have k6 : w1.cell? ⟨g, off + 6, none⟩ = some (.slice xo c.data.length xc) := hcs 6 _ rfl
  have hl0 : (0 : Int) < ((l.length + 1 : Nat) : Int) := by omega
  have hbox := heap_alloc_new w1 (.cells (c.agg (.slice xo c.data.length xc)) 24)
  have hb2 := bl_alloc (bl_refl w1) (.cells (c.agg (.slice xo c.data.length xc)) 24)
  have hH := hL.held (by omega) hw hx hv hb2 (Nat.le_refl _) hbox (bl_drew (bl_refl _)) d0 hsz1 hc1 hj1
  obtain ⟨q, hq⟩ : ∃ q, (if cap = 1 then (some ⟨g, off, none⟩ : Option Addr) else (some ⟨g, off, none⟩ : Option Addr).map (·.add 7)) = q := ⟨_, rfl⟩
  have hcut : ∀ W, (Instr.sliceAt 33 (.slice (some ⟨g, off, none⟩) (l.length + 1) cap) (some (.int .i64 1)) none none).run Try.prog W = .ok (.slice q l.length (cap - 1)) W := fun W => by
    rw [← hq]
    exact run_cut_ctls W _ _ _
  rw [hq] at hH
  have f10 := rc_frozen (j := 11) (bl_get (bl_drew (bl_refl _)) (bl_get hb2 hL.hb))
  have e10' := below_cell (bl_drew (bl_refl _)) (below_cell hb2 e10)
  have HMID : Hid (∀ k, k ≤ 2 → Mid n (L.come 1 c l k)) := fun k hk => hg.come hn (by omega) hw k hk
  have HOK : Hid (∀ k, k ≤ 1 → LkOk ((L.come 1 c l k).e 1) ∧ ((L.come 1 c l k).e 1).out.length ≤ 80000 ∧ ((L.come 1 c l k).e 1).inn.length ≤ 80000) := fun k hk => hg.comeOk (by omega) c l k hk
  have HN := Lib.hid hn
  have HHELD : Hid (_ ∧ _) := ⟨hH.1, (hb1.mono hL0.cols.1).trans hH.2⟩
  obtain ⟨z, hz⟩ : ∃ z, w1.heap.size = z := ⟨_, rfl⟩
  clear h hL0 hL hx hcs hg hn hH hbox hb2 hb1 hsz1 hc1 hj1 hq hw hv
  go_enter Try.func22, Try.ntmps22
  go_wp2_with fail
  try simp only [hw1]
  go_wp2_with fail
  obtain ⟨W2, hW2⟩ : ∃ W2, w1.alloc (.cells (c.agg (.slice xo c.data.length xc)) 24) = W2 := ⟨_, rfl⟩
  have hW2' : w1.alloc (.cells #[.int .i64 c.kind, .int .i64 c.ns, .int .i64 c.nr, .bool c.p, .int .i64 c.me, .int .i64 c.peer, .slice xo c.data.length xc] 24) = W2 := hW2
  rw [hW2] at e10' f10 HHELD
  simp only [hz] at HHELD
  simp only [hW2']
  clear hW2 hW2' k0 k1 k2 k3 k4 k5 k6
  refine wp_region_ord (n := 12) (S := fun W => W.cell? ⟨nb, 11, none⟩ = some (.slice (some ⟨g, off, none⟩) (l.length + 1) cap))
    [(0, true), (1, true), (2, true), (3, true), (4, true), (5, true), (6, true), (7, true), (8, true), (9, true), (10, true), (11, true), (12, false)]
    (by kernel_rfl) (fun _ _ d _ _ h => by cases d <;> exact h) (by kernel_rfl) e10' ?_
  iterate 12
    refine wpOrd_takeL (v := ?_) rfl (by rfl) ?_ ?_
    rotate_left
    focus (rintro w1 hS1; go_simp; try with_reducible rfl)
    simp only [Act.put, List.setIfInBounds_toArray, List.set_cons_zero, List.set_cons_succ]
  refine wpOrd_lastL rfl (by rfl) (fun K hK => ?_)
  go_simp
  refine hK.out _ _ ?_
  clear hK K
  refine wpOrd_nil ?_
  obtain ⟨W3, hW3⟩ : ∃ W3, (W2.setCell ⟨nb, 11, none⟩ (.slice q l.length (cap - 1))).drew = W3 := ⟨_, rfl⟩
  have hW3' : W2.drew.setCell ⟨nb, 10 + 1, none⟩ (.slice q l.length (cap - 1)) = W3 := hW3
  simp only [hW3'] at HHELD
  simp only [hW3]
  have HH : Hid (Held B W3 nb z w.heap.size 4 st c (L.come 1 c l 0)) := by rw [come_zero]; exact HHELD.out.1
  have HBL : Hid (Below B w W3) := HHELD.out.2
  clear HHELD hW3 hW3' e10' f10 e10 d0 d1 hcut hl0
  go_wp2_with fail
  go_loopw [6] (fun kv wr => ∃ k : Nat, kv = .int .i64 k ∧ k ≤ 2 ∧ Hid (Held B wr nb z w.heap.size 4 st c (L.come 1 c l k)) ∧ Hid (Below B w wr)) (fun kv _ => 10 - (intOf kv).toNat)
  case atStart => exact ⟨0, rfl, by omega, HH, HBL⟩
  case round =>
    clear HH HBL
    obtain ⟨k, rfl, hk, HH, HBL⟩ := hrel
    have kk := HH.out.kind
    rcases (show k = 0 ∨ k = 1 ∨ k = 2 by omega) with rfl | rfl | rfl
    · simp only [show ((0 : Nat) : Int) = 0 from rfl]
      obtain ⟨ai, x, q0, ⟨xo, xn, xc, rfl⟩, hbx, HR⟩ := HH.out.recv (i := 1) (by omega) (HOK.out 0 (by omega)).1 (HOK.out 0 (by omega)).2.1 (HOK.out 0 (by omega)).2.2
      have b0 : wr.cell? ⟨z, 0, none⟩ = some (.int .i64 c.kind) := by rw [cell_of_row _ _ _ _ _ _ hbx]; rfl
      have b1 : wr.cell? ⟨z, 1, none⟩ = some (.int .i64 c.ns) := by rw [cell_of_row _ _ _ _ _ _ hbx]; rfl
      have b2 : wr.cell? ⟨z, 2, none⟩ = some (.int .i64 c.nr) := by rw [cell_of_row _ _ _ _ _ _ hbx]; rfl
      have b3 : wr.cell? ⟨z, 3, none⟩ = some (.bool c.p) := by rw [cell_of_row _ _ _ _ _ _ hbx]; rfl
      have b4 : wr.cell? ⟨z, 4, none⟩ = some (.int .i64 c.me) := by rw [cell_of_row _ _ _ _ _ _ hbx]; rfl
      have b5 : wr.cell? ⟨z, 5, none⟩ = some (.int .i64 c.peer) := by rw [cell_of_row _ _ _ _ _ _ hbx]; rfl
      have b6 : wr.cell? ⟨z, 6, none⟩ = some (.slice xo xn xc) := by rw [cell_of_row _ _ _ _ _ _ hbx]; rfl
      clear hbx
      go_wp2_with fail
      go_region_held3 (fun w' => w'.cell? ⟨nb, 1, none⟩ = some (.pointer (some ⟨ai, 0, none⟩)) ∧ w'.cell? ⟨z, 0, none⟩ = some (.int .i64 c.kind) ∧ w'.cell? ⟨z, 1, none⟩ = some (.int .i64 c.ns) ∧ w'.cell? ⟨z, 2, none⟩ = some (.int .i64 c.nr) ∧ w'.cell? ⟨z, 3, none⟩ = some (.bool c.p) ∧ w'.cell? ⟨z, 4, none⟩ = some (.int .i64 c.me) ∧ w'.cell? ⟨z, 5, none⟩ = some (.int .i64 c.peer) ∧ w'.cell? ⟨z, 6, none⟩ = some (.slice xo xn xc))
        (first | exact ⟨below_cell (bl_drew (bl_refl _)) q0, below_cell (bl_drew (bl_refl _)) b0, below_cell (bl_drew (bl_refl _)) b1, below_cell (bl_drew (bl_refl _)) b2, below_cell (bl_drew (bl_refl _)) b3, below_cell (bl_drew (bl_refl _)) b4, below_cell (bl_drew (bl_refl _)) b5, below_cell (bl_drew (bl_refl _)) b6⟩ | exact ⟨q0, b0, b1, b2, b3, b4, b5, b6⟩ | exact ⟨(h4 1 _).1 q0, (h4 0 _).2 b0, (h4 1 _).2 b1, (h4 2 _).2 b2, (h4 3 _).2 b3, (h4 4 _).2 b4, (h4 5 _).2 b5, (h4 6 _).2 b6⟩)
        (first | (go_at_call 9; refine (HR _ (bl_drew (bl_refl _))).mono ?_; rintro e w3 ⟨rfl, h3, h4⟩))
      have HH3 : Hid (Held B w3 nb z w.heap.size 4 st c (L.come 1 c l 1)) := by rw [← come_succ]; exact h3.1
      have HBL3 : Hid (Below B w w3) := HBL.out.trans h3.2
      have kk3 := HH3.out.kind
      clear h3 h4 HR HH HBL q0 b0 b1 b2 b3 b4 b5 b6
      go_wp2_with fail
      go_roundw
      case rel => exact ⟨1, by go_num, by omega, HH3, HBL3⟩
      case measure => simp [intOf]
    · simp only [show ((1 : Nat) : Int) = 1 from rfl]
      obtain ⟨ai, x, q0, ⟨xo, xn, xc, rfl⟩, hbx, HR⟩ := HH.out.recv (i := 1) (by omega) (HOK.out 1 (by omega)).1 (HOK.out 1 (by omega)).2.1 (HOK.out 1 (by omega)).2.2
      have b0 : wr.cell? ⟨z, 0, none⟩ = some (.int .i64 c.kind) := by rw [cell_of_row _ _ _ _ _ _ hbx]; rfl
      have b1 : wr.cell? ⟨z, 1, none⟩ = some (.int .i64 c.ns) := by rw [cell_of_row _ _ _ _ _ _ hbx]; rfl
      have b2 : wr.cell? ⟨z, 2, none⟩ = some (.int .i64 c.nr) := by rw [cell_of_row _ _ _ _ _ _ hbx]; rfl
      have b3 : wr.cell? ⟨z, 3, none⟩ = some (.bool c.p) := by rw [cell_of_row _ _ _ _ _ _ hbx]; rfl
      have b4 : wr.cell? ⟨z, 4, none⟩ = some (.int .i64 c.me) := by rw [cell_of_row _ _ _ _ _ _ hbx]; rfl
      have b5 : wr.cell? ⟨z, 5, none⟩ = some (.int .i64 c.peer) := by rw [cell_of_row _ _ _ _ _ _ hbx]; rfl
      have b6 : wr.cell? ⟨z, 6, none⟩ = some (.slice xo xn xc) := by rw [cell_of_row _ _ _ _ _ _ hbx]; rfl
      clear hbx
      go_wp2_with fail
      go_region_held3 (fun w' => w'.cell? ⟨nb, 1, none⟩ = some (.pointer (some ⟨ai, 0, none⟩)) ∧ w'.cell? ⟨z, 0, none⟩ = some (.int .i64 c.kind) ∧ w'.cell? ⟨z, 1, none⟩ = some (.int .i64 c.ns) ∧ w'.cell? ⟨z, 2, none⟩ = some (.int .i64 c.nr) ∧ w'.cell? ⟨z, 3, none⟩ = some (.bool c.p) ∧ w'.cell? ⟨z, 4, none⟩ = some (.int .i64 c.me) ∧ w'.cell? ⟨z, 5, none⟩ = some (.int .i64 c.peer) ∧ w'.cell? ⟨z, 6, none⟩ = some (.slice xo xn xc))
        (first | exact ⟨below_cell (bl_drew (bl_refl _)) q0, below_cell (bl_drew (bl_refl _)) b0, below_cell (bl_drew (bl_refl _)) b1, below_cell (bl_drew (bl_refl _)) b2, below_cell (bl_drew (bl_refl _)) b3, below_cell (bl_drew (bl_refl _)) b4, below_cell (bl_drew (bl_refl _)) b5, below_cell (bl_drew (bl_refl _)) b6⟩ | exact ⟨q0, b0, b1, b2, b3, b4, b5, b6⟩ | exact ⟨(h4 1 _).1 q0, (h4 0 _).2 b0, (h4 1 _).2 b1, (h4 2 _).2 b2, (h4 3 _).2 b3, (h4 4 _).2 b4, (h4 5 _).2 b5, (h4 6 _).2 b6⟩)
        (first | (go_at_call 9; refine (HR _ (bl_drew (bl_refl _))).mono ?_; rintro e w3 ⟨rfl, h3, h4⟩))
      have HH3 : Hid (Held B w3 nb z w.heap.size 4 st c (L.come 1 c l 2)) := by rw [← come_succ]; exact h3.1
      have HBL3 : Hid (Below B w w3) := HBL.out.trans h3.2
      have kk3 := HH3.out.kind
      clear h3 h4 HR HH HBL q0 b0 b1 b2 b3 b4 b5 b6
      go_wp2_with fail
      go_roundw
      case rel => exact ⟨2, by go_num, by omega, HH3, HBL3⟩
      case measure => simp [intOf]
    · simp only [show ((2 : Nat) : Int) = 2 from rfl]
      have HC := collect_good HH.out.line (HMID.out 2 (by omega)) HN.out
      go_wp2_with fail
      refine HC.mono ?_
      rintro e w3 h3
      obtain ⟨⟨v, rfl⟩, hex, hbl⟩ := h3
      have HE : Hid (∀ v, StepTo B n w nb st (.returned v) w3) := fun v => ⟨⟨v, rfl⟩, hex, HBL.out.trans hbl⟩
      clear hex hbl HC HH
      go_wp2
      go_end0
      exact HE.out _

set_option maxRecDepth 100000 in
set_option maxHeartbeats 4000000 in
theorem step_none2_1 {B n : Nat} {w : World} {nb : Nat} {st : Nat → St} {L : Ln} (h : LineAt B w nb st true L) (hg : Good n L) (hn : n ≤ 300) (hw : L.way 1 = []) :
    Calls Try.prog 22 #[.pointer (some ⟨nb, 0, none⟩), .agg #[.int .i64 2, .bool true]] w fun e w' => StepTo B n w nb st e w' := by
  obtain ⟨w1, hw1, hb1, d0, d1⟩ := way_box9 w 2 true
  obtain ⟨h1, hb1'⟩ := h.below hb1
  obtain ⟨col, cl, a, s, r, ov, iv, wv, uv, hL⟩ := h1.ex
  have e10 : w1.cell? ⟨nb, 11, none⟩ = some (wv 1) := hL.cell 11 rfl
  obtain ⟨ao, cap, hv⟩ : ∃ ao cap, wv 1 = .slice ao 0 cap := by
    obtain ⟨cs, hR, _⟩ := hL.way 1 (by omega)
    rw [hw] at hR
    obtain ⟨ao, cap, e, _⟩ := hR.form
    exact ⟨ao, cap, e⟩
  rw [hv] at e10
  have HC := collect_good h1 hg.mid hn
  have HB1 := Lib.hid hb1'
  clear h h1 hb1 hb1' hg hn hL hw
  go_enter Try.func22, Try.ntmps22
  go_wp2_with fail
  try simp only [hw1]
  go_wp2_with fail
  refine HC.mono ?_
  rintro e w3 h3
  obtain ⟨⟨v, rfl⟩, hex, hbl⟩ := h3
  have HE : Hid (∀ v, StepTo B n w nb st (.returned v) w3) := fun v => ⟨⟨v, rfl⟩, hex, HB1.out.trans hbl⟩
  clear hex hbl HC
  go_wp2
  go_end0
  exact HE.out _

set_option maxRecDepth 100000 in
set_option maxHeartbeats 4000000 in
theorem step_none3_1 {B n : Nat} {w : World} {nb : Nat} {st : Nat → St} {L : Ln} (h : LineAt B w nb st true L) (hg : Good n L) (hn : n ≤ 300) (hw : L.way 1 = []) :
    Calls Try.prog 22 #[.pointer (some ⟨nb, 0, none⟩), .agg #[.int .i64 3, .bool true]] w fun e w' => StepTo B n w nb st e w' := by
  obtain ⟨w1, hw1, hb1, d0, d1⟩ := way_box9 w 3 true
  obtain ⟨h1, hb1'⟩ := h.below hb1
  obtain ⟨col, cl, a, s, r, ov, iv, wv, uv, hL⟩ := h1.ex
  have e10 : w1.cell? ⟨nb, 11, none⟩ = some (wv 1) := hL.cell 11 rfl
  obtain ⟨ao, cap, hv⟩ : ∃ ao cap, wv 1 = .slice ao 0 cap := by
    obtain ⟨cs, hR, _⟩ := hL.way 1 (by omega)
    rw [hw] at hR
    obtain ⟨ao, cap, e, _⟩ := hR.form
    exact ⟨ao, cap, e⟩
  rw [hv] at e10
  have HC := collect_good h1 hg.mid hn
  have HB1 := Lib.hid hb1'
  clear h h1 hb1 hb1' hg hn hL hw
  go_enter Try.func22, Try.ntmps22
  go_wp2_with fail
  try simp only [hw1]
  go_wp2_with fail
  refine HC.mono ?_
  rintro e w3 h3
  obtain ⟨⟨v, rfl⟩, hex, hbl⟩ := h3
  have HE : Hid (∀ v, StepTo B n w nb st (.returned v) w3) := fun v => ⟨⟨v, rfl⟩, hex, HB1.out.trans hbl⟩
  clear hex hbl HC
  go_wp2
  go_end0
  exact HE.out _

set_option maxRecDepth 100000 in
set_option maxHeartbeats 4000000 in
theorem step_none4_1 {B n : Nat} {w : World} {nb : Nat} {st : Nat → St} {L : Ln} (h : LineAt B w nb st true L) (hg : Good n L) (hn : n ≤ 300) (hw : L.way 1 = []) :
    Calls Try.prog 22 #[.pointer (some ⟨nb, 0, none⟩), .agg #[.int .i64 4, .bool true]] w fun e w' => StepTo B n w nb st e w' := by
  obtain ⟨w1, hw1, hb1, d0, d1⟩ := way_box9 w 4 true
  obtain ⟨h1, hb1'⟩ := h.below hb1
  obtain ⟨col, cl, a, s, r, ov, iv, wv, uv, hL⟩ := h1.ex
  have e10 : w1.cell? ⟨nb, 11, none⟩ = some (wv 1) := hL.cell 11 rfl
  obtain ⟨ao, cap, hv⟩ : ∃ ao cap, wv 1 = .slice ao 0 cap := by
    obtain ⟨cs, hR, _⟩ := hL.way 1 (by omega)
    rw [hw] at hR
    obtain ⟨ao, cap, e, _⟩ := hR.form
    exact ⟨ao, cap, e⟩
  rw [hv] at e10
  have HC := collect_good h1 hg.mid hn
  have HB1 := Lib.hid hb1'
  clear h h1 hb1 hb1' hg hn hL hw
  go_enter Try.func22, Try.ntmps22
  go_wp2_with fail
  try simp only [hw1]
  go_wp2_with fail
  refine HC.mono ?_
  rintro e w3 h3
  obtain ⟨⟨v, rfl⟩, hex, hbl⟩ := h3
  have HE : Hid (∀ v, StepTo B n w nb st (.returned v) w3) := fun v => ⟨⟨v, rfl⟩, hex, HB1.out.trans hbl⟩
  clear hex hbl HC
  go_wp2
  go_end0
  exact HE.out _

set_option maxRecDepth 100000 in
set_option maxHeartbeats 4000000 in
theorem step_other1 {B n : Nat} {w : World} {nb : Nat} {st : Nat → St} {L : Ln} (h : LineAt B w nb st true L) (hg : Good n L) (hn : n ≤ 300) (k : Int) (hk : k < 0 ∨ 5 < k) :
    Calls Try.prog 22 #[.pointer (some ⟨nb, 0, none⟩), .agg #[.int .i64 k, .bool true]] w fun e w' => StepTo B n w nb st e w' := by
  obtain ⟨w1, hw1, hb1, d0, d1⟩ := way_box9 w k true
  obtain ⟨h1, hb1'⟩ := h.below hb1
  have HC := collect_good h1 hg.mid hn
  have HB1 := Lib.hid hb1'
  have k0 : ¬ k = 0 := by omega
  have k1 : ¬ k = 1 := by omega
  have k2 : ¬ k = 2 := by omega
  have k3 : ¬ k = 3 := by omega
  have k4 : ¬ k = 4 := by omega
  have k5 : ¬ k = 5 := by omega
  clear h h1 hb1 hb1' hg hn hk
  go_enter Try.func22, Try.ntmps22
  go_wp2_with fail
  try simp only [hw1]
  go_wp2_with fail
  refine HC.mono ?_
  rintro e w3 h3
  obtain ⟨⟨v, rfl⟩, hex, hbl⟩ := h3
  have HE : Hid (∀ v, StepTo B n w nb st (.returned v) w3) := fun v => ⟨⟨v, rfl⟩, hex, HB1.out.trans hbl⟩
  clear hex hbl HC
  go_wp2
  go_end0
  exact HE.out _

end Go.Proofs.Ythmdibagcbbgoaa
