/- The contract of sender.Send. Conditions: as they stand. -/
import Derived.WalkKit
import Derived.Lib.Hide
import Derived.IntWalk
import Derived.BigQuiet
import Derived.Deep.QuietTactic
import Derived.Deep.RegionHeld3
import Derived.Deep.DrawnRows
import Derived.Test.YtagbaoakablfpaaSndPush2
import Derived.Test.YtagbaoakablfpaaWin
namespace Go.Proofs.Ytagbaoakablfpaa
open Go.RowKit
attribute [local go_sem ↓] Go.wp_at_zero Go.wp_at_succ

set_option maxRecDepth 100000 in
set_option maxHeartbeats 1000000 in
theorem send_no (a size base under n : Nat) (ao : Option Addr) (cap : Nat) (w : World) (hb : w.heap[a]? = some (.cells #[.int .i64 size, .int .i64 base, .slice ao n cap, .int .i64 under] 73 (0, 0))) (h : under = n ∨ under = size) :
    Calls Try.prog 32 #[.pointer (some ⟨a, 0, none⟩)] w fun e w' => e = .returned (.tuple #[.int .i64 0, .slice none 0 0, .bool false]) ∧ Below w.heap.size w w' := by
  obtain ⟨c0, c1, c2, c3⟩ := cells_of4 hb
  by_cases h1 : under = n
  · have g1 : ((under : Int) == (n : Int)) = true := by simp; omega
    clear h h1 hb
    go_enter Try.func32, Try.ntmps32
    go_wp2_with fail
    go_quiet (fail)
    go_wp2
    go_ret3
    exact ⟨rfl, bl_drewN (bl_refl w) _⟩
  · have g1 : ((under : Int) == (n : Int)) = false := by simp; omega
    have g2 : ((under : Int) == (size : Int)) = true := by have := h.resolve_left h1; simp; omega
    clear h h1 hb
    go_enter Try.func32, Try.ntmps32
    go_wp2_with fail
    go_quiet (fail)
    go_wp2
    go_ret3
    exact ⟨rfl, bl_drewN (bl_refl w) _⟩

theorem send_num {base under : Nat} (hb : base < 128) (hu : under ≤ 64) : IntKind.i64.wrap (IntKind.i64.wrap ((base : Int) + ((under : Int) + 1)) - 1) % 128 = (((base + under) % 128 : Nat) : Int) := by
  rw [IntWalk.i64_in ((base : Int) + ((under : Int) + 1)) (by omega), IntWalk.i64_in _ (by omega)]
  omega
theorem held_13 {w w' : World} {g : Nat} {a b c d : Value} {t : TypeId} (hb : w.heap[g]? = some (.cells #[a, b, c, d] t (0, 0))) (h : Below w.heap.size w w') : Below w.heap.size w w' ∧ w'.cell? ⟨g, 1, none⟩ = some b ∧ w'.cell? ⟨g, 3, none⟩ = some d :=
  ⟨h, (cells_of4 (bl_get h hb)).2.1, (cells_of4 (bl_get h hb)).2.2.2⟩

set_option maxRecDepth 100000 in
set_option maxHeartbeats 1000000 in
theorem send_yes (a size base under n : Nat) (g off cap : Nat) (x : Value) (p : List Int) (w : World) (hb : w.heap[a]? = some (.cells #[.int .i64 size, .int .i64 base, .slice (some ⟨g, off, none⟩) n cap, .int .i64 under] 73 (0, 0)))
    (h1 : under < n) (h2 : under < size) (hx : w.cell? ⟨g, off + under, none⟩ = some x) (hxr : Rd (fun k => k ≠ a) (Value.int .u8) w x p) (hn : n ≤ 64) (hbs : base < 128) (hpl : p.length ≤ 121) :
    Calls Try.prog 32 #[.pointer (some ⟨a, 0, none⟩)] w fun e w' => ∃ (u : Value) (W : World), e = .returned (.tuple #[.int .i64 ((base + under) % 128 : Nat), u, .bool true]) ∧
      Fr (fun k => k = a) w W ∧ W.heap[a]? = some (.cells #[.int .i64 size, .int .i64 base, .slice (some ⟨g, off, none⟩) n cap, .int .i64 (under + 1 : Nat)] 73 (0, 0)) ∧ Below W.heap.size W w' ∧
      w'.ownsRow W.heap.size 5 1 u p.length (p.map (Value.int .u8)) := by
  obtain ⟨i0, hi, hz0, hz1, hz2⟩ := info_parts infoByte'
  obtain ⟨c0, c1, c2, c3⟩ := cells_of4 hb
  have f3 := frozen_of' (j := 3) hb
  have g1 : ((under : Int) == (n : Int)) = false := by simp; omega
  have g2 : ((under : Int) == (size : Int)) = false := by simp; omega
  have e1 : (0 : Int) ≤ (under : Int) := by omega
  have e2 : (under : Int) < (n : Int) := by omega
  obtain ⟨xo, xc, rfl⟩ : ∃ xo xc, x = .slice xo p.length xc := by
    obtain ⟨⟨_, xo, xc, h, _⟩, _⟩ := hxr
    exact ⟨xo, xc, h⟩
  go_enter Try.func32, Try.ntmps32
  go_wp2_with fail
  go_quiet (fail)
  have hB1 := bl_drewN (bl_refl w) nq
  generalize w.drewN nq = w1 at hB1 ⊢
  have hb1 := bl_get hB1 hb
  have hx1 := below_cell hB1 hx
  clear c0 c1 c2 c3 f3
  obtain ⟨c0, c1, c2, c3⟩ := cells_of4 hb1
  go_wp2
  go_quiet (fail)
  have hB2 := bl_trans hB1 (bl_drewN (bl_refl w1) nq)
  generalize w1.drewN nq = w2 at hB2 ⊢
  have hb2 := bl_get hB2 hb
  clear c0 c1 c2 c3 hb1 hx1 hB1
  obtain ⟨c0, c1, c2, c3⟩ := cells_of4 hb2
  have f3 := frozen_of' (j := 3) hb2
  go_wp2
  have hF := fr_cell w2 a 3 (.int .i64 ((under : Int) + 1))
  have hbW := heap_set_box' _ a 3 _ _ (.int .i64 ((under : Int) + 1)) hb2
  have hF2 : Fr (fun k => k = a) w (w2.setCell ⟨a, 3, none⟩ (.int .i64 ((under : Int) + 1))) := (Fr.of_below hB2).trans hF (fun i hi => .inl hi)
  have hxW := hxr.fr hF2 (fun k hk => hk)
  generalize w2.setCell ⟨a, 3, none⟩ (.int .i64 ((under : Int) + 1)) = W at hbW hF2 hxW ⊢
  clear c0 c1 c2 c3 f3 hF hb2 hB2 hx hxr
  have hbW : W.heap[a]? = some (.cells #[.int .i64 size, .int .i64 base, .slice (some ⟨g, off, none⟩) n cap, .int .i64 ((under : Int) + 1)] 73 (0, 0)) := hbW
  go_region_held3 (fun w' => Below W.heap.size W w' ∧ w'.cell? ⟨a, 1, none⟩ = some (.int .i64 base) ∧ w'.cell? ⟨a, 3, none⟩ = some (.int .i64 ((under : Int) + 1)))
    (exact held_13 hbW (by first | assumption | exact bl_drew (bl_refl _) | exact bl_alloc (bl_drew (bl_refl _)) _ | exact bl_alloc (by assumption) _))
    (first
      | (go_at_call 37; refine (reduce_any _ _).mono ?_; rintro e w' ⟨rfl, rfl⟩)
      | (refine step_of_wp (by rfl) (wp_append_r _ (.tmp 59) (.tmp 60) _ rfl W.heap.size 5 i0 (.int .u8 0) 1 Try.underlying32 hi hz0 hz1 hz2 (by rfl) _ _ _ (by rfl) (owns_empty W.drew 5 (Nat.le_refl _)) (Value.int .u8) _ p (by rfl) (hxW.1.below (bl_alloc (bl_drew (bl_refl _)) _)) (by intros; rfl) (by simp [maxLen]; omega) (by simp; omega) (by simp) ?_); intro u W2 hO2 hg2; have hB2 : Below W.heap.size W W2 := bl_grown (bl_alloc (bl_drew (bl_refl _)) _) hg2 (by intro k hk; cases hk; exact Nat.le_refl _)))
  all_goals
    go_wp2
    go_ret3
    refine ⟨u, W, ?_, hF2, hbW, hB2, by simpa using hO2⟩
    rw [← send_num hbs (show under ≤ 64 by omega)]
    rfl

/-- What is sent. -/
def Snd.can (s : Snd) : Bool := decide (s.under < s.ps.length) && decide (s.under < s.size)
def Snd.send (s : Snd) : Snd := if s.can then { s with under := s.under + 1 } else s
def Snd.sendN (s : Snd) : Nat := if s.can then (s.base + s.under) % 128 else 0
def Snd.sendP (s : Snd) : List Int := if s.can then s.ps.getD s.under [] else []
theorem Snd.send_ok {s : Snd} (h : s.Ok) : s.send.Ok := by
  unfold Snd.send
  split
  · rename_i hc
    simp only [Snd.can, Bool.and_eq_true, decide_eq_true_eq] at hc
    exact ⟨h.size1, h.size2, h.base, by simp; omega, by simp; omega, h.len, h.pay⟩
  · exact h

theorem ssend_any (F : Nat → Prop) (a : Nat) (s : Snd) (hok : s.Ok) (w : World) (hs : SndAt F w a s) :
    Calls Try.prog 32 #[.pointer (some ⟨a, 0, none⟩)] w fun e w' => ∃ u, e = .returned (.tuple #[.int .i64 s.sendN, u, .bool s.can]) ∧
      Byt (fun k => w.heap.size ≤ k) w' u s.sendP ∧ SndAt F w' a s.send ∧ Fr (fun k => k = a) w w' := by
  obtain ⟨h1, h2, av, vs, D, hb, hA, hl, hav, hD, hp⟩ := hs
  obtain ⟨ao, cap, rfl, hcap, hcm, hnil⟩ := hA.form
  cases hc : s.can with
  | false =>
    have h : s.under = vs.length ∨ s.under = s.size := by
      have := hok.under1
      have := hok.under2
      simp only [Snd.can, Bool.and_eq_false_iff, decide_eq_false_iff_not] at hc
      omega
    refine (send_no a s.size s.base s.under vs.length ao cap w hb h).mono ?_
    rintro e w' ⟨rfl, hB⟩
    have e1 : s.sendN = 0 := by simp [Snd.sendN, hc]
    have e2 : s.sendP = [] := by simp [Snd.sendP, hc]
    have e3 : s.send = s := by simp [Snd.send, hc]
    rw [e1, e2, e3]
    exact ⟨_, rfl, ⟨⟨Reads.nil _ _, fun k hk => by simp [Value.ownBlock] at hk⟩, fun n hn => by simp at hn⟩, SndAt.below ⟨h1, h2, _, vs, D, hb, hA, hl, hav, hD, hp⟩ hB, .of_below hB⟩
  | true =>
    have hc' := hc
    simp only [Snd.can, Bool.and_eq_true, decide_eq_true_eq] at hc'
    obtain ⟨x, hx⟩ := get_some (xs := vs) (k := s.under) (by omega)
    obtain ⟨q, hq⟩ := get_some (xs := s.ps) (k := s.under) hc'.1
    obtain ⟨g, off, rfl, hcell⟩ := hA.at_ hx
    have hbq := hp _ x q hx hq
    have hpay := hok.pay q (List.mem_of_getElem? hq)
    refine (send_yes a s.size s.base s.under vs.length g off cap x q w hb (by omega) hc'.2 hcell (hbq.1.mono (fun k hk => (hD k hk).2)) (by have := hok.len; omega) hok.base hpay.2).mono ?_
    rintro e w' ⟨u, W, rfl, hF, hbW, hBW, hO⟩
    have e1 : s.sendN = (s.base + s.under) % 128 := by simp [Snd.sendN, hc]
    have e2 : s.sendP = q := by simp [Snd.sendP, hc, hq]
    have e3 : s.send = { s with under := s.under + 1 } := by simp [Snd.send, hc]
    rw [e1, e2, e3]
    have hs1 := hF.size
    refine ⟨u, rfl, ⟨(Rd.of_owns hO (by unfold maxLen; omega)).mono (fun k hk => by omega), hbq.2⟩, SndAt.below (w := W) ⟨fun k hk => by have := h1 k hk; omega, h2, _, vs, D, hbW, hA.fr hF (fun k hk => (hav k hk).2.1), hl, hav, hD, fun i x p hx hp' => (hp i x p hx hp').fr hF (fun k hk => (hD k hk).2)⟩ hBW, hF.then_below hBW⟩

end Go.Proofs.Ytagbaoakablfpaa
