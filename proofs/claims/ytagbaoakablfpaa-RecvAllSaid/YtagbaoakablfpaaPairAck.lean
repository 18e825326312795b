/- portagelaw08's pair.step, kind 4: the receiver's number is acknowledged; the kinds at which nothing happens. Conditions: as they stand. -/
import Derived.Test.YtagbaoakablfpaaPairAgain
namespace Go.Proofs.Ytagbaoakablfpaa
open Go.RowKit

theorem held_ack {c : Nat → Nat} {w w' : World} {pb : Nat} {x y : Value} {G : Nat → Prop} (h0 : w.cell? ⟨pb, 0, none⟩ = some x) (h1 : w.cell? ⟨pb, 1, none⟩ = some y) (hf : Fr G w w') (hG : ∀ k, G k → c k = 2) (hc : c pb = 1) :
    w'.cell? ⟨pb, 0, none⟩ = some x ∧ w'.cell? ⟨pb, 1, none⟩ = some y := ⟨hf.cell h0 (fun e => by have := hG _ e; omega), hf.cell h1 (fun e => by have := hG _ e; omega)⟩

set_option maxRecDepth 100000 in
set_option maxHeartbeats 2000000 in
theorem step_ack (B : Nat) (col : Nat → Nat) (w : World) (pb sg rg : Nat) (pv wv tv : Value) (t : PSt) (h : PairAt B col w pb sg rg pv wv tv t) (hok : t.s.Ok) (n : Int) :
    Calls Try.prog 17 #[.pointer (some ⟨pb, 0, none⟩), .agg #[.int .i64 4, .int .i64 n]] w fun e w' => After B w pb sg rg { t with s := t.s.ack t.r.waits } e w' := by
  obtain ⟨w1, c1, hw1, h1, hBB, d0, d1, hc0⟩ := way_box h 4 n
  obtain ⟨e0, e1, e2, e3, e4⟩ := h1.cells
  have H1 := Lib.hid h1
  have HBB := Lib.hid hBB
  have HW := fun W : World => fun hb : Below w1.heap.size w1 W => rcwaits_any _ _ rg t.r W (h1.rcv.below hb)
  have HA := fun W : World => fun hb : Below w1.heap.size w1 W => sack_any _ sg t.s hok t.r.waits W (h1.snd.below hb)
  have ho := Lib.hid h1.own
  clear h h1 hBB e2 e3 e4 d1
  go_enter Try.func17, Try.ntmps17
  go_wp2_with fail
  try simp only [hw1]
  go_region_held3 (fun w' => w'.cell? ⟨pb, 0, none⟩ = some (.pointer (some ⟨sg, 0, none⟩)) ∧ w'.cell? ⟨pb, 1, none⟩ = some (.pointer (some ⟨rg, 0, none⟩)))
    (first | exact ⟨e0, e1⟩ | exact held_ack e0 e1 ((Fr.of_below (bl_drew (bl_refl w1))).trans hF4 (fun k hk => .inl hk)) (fun k hk => hk) ho.out)
    (first | (go_at_call 14; refine (HW _ (by first | assumption | exact bl_drew (bl_refl _))).mono ?_; rintro e w3 ⟨rfl, rfl⟩) | (go_at_call 33; refine (HA _ (by first | assumption | exact bl_drew (bl_refl _))).mono ?_; rintro e w4 ⟨rfl, hs4, hF4⟩))
  have hf4 : Fr (fun k => c1 k = 2) w1 w4 := (Fr.of_below (bl_drew (bl_refl w1))).trans hF4 (fun k hk => .inl hk)
  have h4 := H1.out.sent (n := 0) hf4 hs4 (fun k hk => .inl hk)
  have hb4 : Below B w w4 := HBB.out.trans (H1.out.cols.bl (by omega) hf4)
  clear hF4 hf4 hs4
  go_wp2
  go_end0
  exact ⟨⟨_, rfl⟩, ⟨_, _, _, _, h4⟩, hb4⟩

set_option maxRecDepth 100000 in
set_option maxHeartbeats 2000000 in
theorem step_none (B : Nat) (col : Nat → Nat) (w : World) (pb sg rg : Nat) (pv wv tv : Value) (t : PSt) (h : PairAt B col w pb sg rg pv wv tv t) (k n : Int) (hk : k ≠ 0 ∧ k ≠ 1 ∧ k ≠ 2 ∧ k ≠ 3 ∧ k ≠ 4) :
    Calls Try.prog 17 #[.pointer (some ⟨pb, 0, none⟩), .agg #[.int .i64 k, .int .i64 n]] w fun e w' => After B w pb sg rg t e w' := by
  obtain ⟨w1, c1, hw1, h1, hBB, d0, d1, hc0⟩ := way_box h k n
  obtain ⟨k0, k1, k2, k3, k4⟩ := hk
  have H1 := Lib.hid h1
  have HBB := Lib.hid hBB
  clear h h1 hBB d1
  go_enter Try.func17, Try.ntmps17
  go_wp2_with fail
  try simp only [hw1]
  go_wp2
  go_end0
  exact ⟨⟨_, rfl⟩, ⟨_, _, _, _, H1.out⟩, HBB.out⟩

set_option maxRecDepth 100000 in
set_option maxHeartbeats 2000000 in
theorem step_come0 (B : Nat) (col : Nat → Nat) (w : World) (pb sg rg : Nat) (pv wv tv : Value) (t : PSt) (h : PairAt B col w pb sg rg pv wv tv t) (n : Int) (hw : t.way = []) :
    Calls Try.prog 17 #[.pointer (some ⟨pb, 0, none⟩), .agg #[.int .i64 2, .int .i64 n]] w fun e w' => After B w pb sg rg t e w' := by
  obtain ⟨w1, c1, hw1, h1, hBB, d0, d1, hc0⟩ := way_box h 2 n
  obtain ⟨e0, e1, e2, e3, e4⟩ := h1.cells
  have H1 := Lib.hid h1
  have HBB := Lib.hid hBB
  obtain ⟨cs, v2, v3, v4⟩ := h1.way
  obtain ⟨wo, wc, hwv⟩ := rc_form v2
  rw [hw] at hwv
  subst hwv
  clear h h1 hBB d1 v2 v3 v4 e0 e1 e2 e4
  go_enter Try.func17, Try.ntmps17
  go_wp2_with fail
  try simp only [hw1]
  go_wp2
  go_end0
  exact ⟨⟨_, rfl⟩, ⟨_, _, _, _, H1.out⟩, HBB.out⟩

set_option maxRecDepth 100000 in
set_option maxHeartbeats 2000000 in
theorem step_again0 (B : Nat) (col : Nat → Nat) (w : World) (pb sg rg : Nat) (pv wv tv : Value) (t : PSt) (h : PairAt B col w pb sg rg pv wv tv t) (hok2 : t.s.Ok) (n : Int) (hu : t.s.unders = []) :
    Calls Try.prog 17 #[.pointer (some ⟨pb, 0, none⟩), .agg #[.int .i64 3, .int .i64 n]] w fun e w' => After B w pb sg rg t e w' := by
  obtain ⟨w1, c1, hw1, h1, hBB, d0, d1, hc0⟩ := way_box h 3 n
  obtain ⟨e0, e1, e2, e3, e4⟩ := h1.cells
  have HU := sunder_any _ sg t.s hok2 w1 h1.snd
  have H1 := Lib.hid h1
  have HBB := Lib.hid hBB
  clear h h1 hBB e1 e2 e3 e4 d1
  go_enter Try.func17, Try.ntmps17
  go_wp2_with fail
  try simp only [hw1]
  go_wp2_with fail
  refine HU.mono ?_
  rintro e W3 ⟨u, rfl, hu3, hb3⟩
  obtain ⟨uo, uc, rfl⟩ : ∃ uo uc, u = .slice uo 0 uc := by
    obtain ⟨⟨_, ao, cap, h, _⟩, _⟩ := hu3
    exact ⟨ao, cap, by rw [h, hu]; rfl⟩
  have h3 := H1.out.skip (n := 0) hb3
  have HB3 : Hid (Below B w W3) := HBB.out.trans (hb3.mono H1.out.cols.1)
  clear hu3 hb3 HU
  go_wp2
  go_end0
  exact ⟨⟨_, rfl⟩, ⟨_, _, _, _, h3⟩, HB3.out⟩

end Go.Proofs.Ytagbaoakablfpaa
