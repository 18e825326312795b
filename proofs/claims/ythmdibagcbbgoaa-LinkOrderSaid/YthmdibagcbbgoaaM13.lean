/- The contract of sender.Send. A region that draws its order, walked in one order that the prover names: a head (what yields one value in every world that meets S is taken where it stands; what writes is carried out where it alone may come up, S standing behind it), then a tail that is forced. No program in sight. Conditions: as they stand. -/
import Derived.WalkKit
import Derived.Lib.Hide
import Derived.IntWalk
import Derived.BigQuiet
import Derived.Deep.QuietTactic
import Derived.Deep.RegionHeld3
import Derived.Deep.DrawnRows
import Derived.Test.YthmdibagcbbgoaaM12
import Derived.Test.YthmdibagcbbgoaaM04
import Derived.Test.YthmdibagcbbgoaaM02
namespace Go.Proofs.Ythmdibagcbbgoaa
open Go.RowKit
attribute [local go_sem ↓] Go.wp_at_zero Go.wp_at_succ

set_option maxRecDepth 100000 in
set_option maxHeartbeats 1000000 in
theorem send_no (a size base under n : Nat) (ao : Option Addr) (cap : Nat) (w : World) (hb : w.heap[a]? = some (.cells #[.int .i64 size, .int .i64 base, .slice ao n cap, .int .i64 under] 86 (0, 0))) (h : under = n ∨ under = size) :
    Calls Try.prog 44 #[.pointer (some ⟨a, 0, none⟩)] w fun e w' => e = .returned (.tuple #[.int .i64 0, .slice none 0 0, .bool false]) ∧ Below w.heap.size w w' := by
  obtain ⟨c0, c1, c2, c3⟩ := cells_of4 hb
  by_cases h1 : under = n
  · have g1 : ((under : Int) == (n : Int)) = true := by simp; omega
    clear h h1 hb
    go_enter Try.func44, Try.ntmps44
    go_wp2_with fail
    go_quiet (fail)
    go_wp2
    go_ret3
    exact ⟨rfl, bl_drewN (bl_refl w) _⟩
  · have g1 : ((under : Int) == (n : Int)) = false := by simp; omega
    have g2 : ((under : Int) == (size : Int)) = true := by have := h.resolve_left h1; simp; omega
    clear h h1 hb
    go_enter Try.func44, Try.ntmps44
    go_wp2_with fail
    go_quiet (fail)
    go_wp2
    go_ret3
    exact ⟨rfl, bl_drewN (bl_refl w) _⟩

theorem send_num {base under : Nat} (hb : base < 128) (hu : under ≤ 64) : IntKind.i64.wrap (IntKind.i64.wrap ((base : Int) + ((under : Int) + 1)) - 1) % 128 = (((base + under) % 128 : Nat) : Int) := by
  rw [IntWalk.i64_in ((base : Int) + ((under : Int) + 1)) (by omega), IntWalk.i64_in _ (by omega)]
  omega
theorem held_13 {w w' : World} {g : Nat} {a b c d : Value} {t : TypeId} (hb : w.heap[g]? = some (.cells #[a, b, c, d] t (0, 0))) (h : Below w.heap.size w w') : Below w.heap.size w w' ∧ w'.cell? ⟨g, 1, none⟩ = some b ∧ w'.cell? ⟨g, 3, none⟩ = some d :=
  ⟨h, (cells_of4 (bl_get h hb)).2.1, (cells_of4 (bl_get h hb)).2.2.2⟩

set_option maxRecDepth 100000 in
set_option maxHeartbeats 1000000 in
theorem send_yes (a size base under n : Nat) (g off cap : Nat) (x : Value) (p : List Int) (w : World) (hb : w.heap[a]? = some (.cells #[.int .i64 size, .int .i64 base, .slice (some ⟨g, off, none⟩) n cap, .int .i64 under] 86 (0, 0)))
    (h1 : under < n) (h2 : under < size) (hx : w.cell? ⟨g, off + under, none⟩ = some x) (hxr : Rd (fun k => k ≠ a) (Value.int .u8) w x p) (hn : n ≤ 64) (hbs : base < 128) (hpl : p.length ≤ 121) :
    Calls Try.prog 44 #[.pointer (some ⟨a, 0, none⟩)] w fun e w' => ∃ (u : Value) (W : World), e = .returned (.tuple #[.int .i64 ((base + under) % 128 : Nat), u, .bool true]) ∧
      Fr (fun k => k = a) w W ∧ W.heap[a]? = some (.cells #[.int .i64 size, .int .i64 base, .slice (some ⟨g, off, none⟩) n cap, .int .i64 (under + 1 : Nat)] 86 (0, 0)) ∧ Below W.heap.size W w' ∧
      w'.ownsRow W.heap.size 5 1 u p.length (p.map (Value.int .u8)) := by
  obtain ⟨i0, hi, hz0, hz1, hz2⟩ := info_parts infoByte'
  obtain ⟨c0, c1, c2, c3⟩ := cells_of4 hb
  have f3 := frozen_of' (j := 3) hb
  have g1 : ((under : Int) == (n : Int)) = false := by simp; omega
  have g2 : ((under : Int) == (size : Int)) = false := by simp; omega
  have e1 : (0 : Int) ≤ (under : Int) := by omega
  have e2 : (under : Int) < (n : Int) := by omega
  obtain ⟨xo, xc, rfl⟩ : ∃ xo xc, x = .slice xo p.length xc := by
    obtain ⟨⟨_, xo, xc, h, _⟩, _⟩ := hxr
    exact ⟨xo, xc, h⟩
  go_enter Try.func44, Try.ntmps44
  go_wp2_with fail
  go_quiet (fail)
  have hB1 := bl_drewN (bl_refl w) nq
  generalize w.drewN nq = w1 at hB1 ⊢
  have hb1 := bl_get hB1 hb
  have hx1 := below_cell hB1 hx
  clear c0 c1 c2 c3 f3
  obtain ⟨c0, c1, c2, c3⟩ := cells_of4 hb1
  go_wp2
  go_quiet (fail)
  have hB2 := bl_trans hB1 (bl_drewN (bl_refl w1) nq)
  generalize w1.drewN nq = w2 at hB2 ⊢
  have hb2 := bl_get hB2 hb
  clear c0 c1 c2 c3 hb1 hx1 hB1
  obtain ⟨c0, c1, c2, c3⟩ := cells_of4 hb2
  have f3 := frozen_of' (j := 3) hb2
  go_wp2
  have hF := fr_cell w2 a 3 (.int .i64 ((under : Int) + 1))
  have hbW := heap_set_box' _ a 3 _ _ (.int .i64 ((under : Int) + 1)) hb2
  have hF2 : Fr (fun k => k = a) w (w2.setCell ⟨a, 3, none⟩ (.int .i64 ((under : Int) + 1))) := (Fr.of_below hB2).trans hF (fun i hi => .inl hi)
  have hxW := hxr.fr hF2 (fun k hk => hk)
  generalize w2.setCell ⟨a, 3, none⟩ (.int .i64 ((under : Int) + 1)) = W at hbW hF2 hxW ⊢
  clear c0 c1 c2 c3 f3 hF hb2 hB2 hx hxr
  have hbW : W.heap[a]? = some (.cells #[.int .i64 size, .int .i64 base, .slice (some ⟨g, off, none⟩) n cap, .int .i64 ((under : Int) + 1)] 86 (0, 0)) := hbW
  go_region_held3 (fun w' => Below W.heap.size W w' ∧ w'.cell? ⟨a, 1, none⟩ = some (.int .i64 base) ∧ w'.cell? ⟨a, 3, none⟩ = some (.int .i64 ((under : Int) + 1)))
    (exact held_13 hbW (by first | assumption | exact bl_drew (bl_refl _) | exact bl_alloc (bl_drew (bl_refl _)) _ | exact bl_alloc (by assumption) _))
    (first
      | (go_at_call 61; refine (reduce_any _ _).mono ?_; rintro e w' ⟨rfl, rfl⟩)
      | (refine step_of_wp (by rfl) (wp_append_r _ (.tmp 59) (.tmp 60) _ rfl W.heap.size 5 i0 (.int .u8 0) 1 Try.underlying22 hi hz0 hz1 hz2 (by rfl) _ _ _ (by rfl) (owns_empty W.drew 5 (Nat.le_refl _)) (Value.int .u8) _ p (by rfl) (hxW.1.below (bl_alloc (bl_drew (bl_refl _)) _)) (by intros; rfl) (by simp [maxLen]; omega) (by simp; omega) (by simp) ?_); intro u W2 hO2 hg2; have hB2 : Below W.heap.size W W2 := bl_grown (bl_alloc (bl_drew (bl_refl _)) _) hg2 (by intro k hk; cases hk; exact Nat.le_refl _)))
  all_goals
    go_wp2
    go_ret3
    refine ⟨u, W, ?_, hF2, hbW, hB2, by simpa using hO2⟩
    rw [← send_num hbs (show under ≤ 64 by omega)]
    rfl

/-- What is sent. -/
def Snd.can (s : Snd) : Bool := decide (s.under < s.ps.length) && decide (s.under < s.size)
def Snd.send (s : Snd) : Snd := if s.can then { s with under := s.under + 1 } else s
def Snd.sendN (s : Snd) : Nat := if s.can then (s.base + s.under) % 128 else 0
def Snd.sendP (s : Snd) : List Int := if s.can then s.ps.getD s.under [] else []
theorem Snd.send_ok {s : Snd} (h : s.Ok) : s.send.Ok := by
  unfold Snd.send
  split
  · rename_i hc
    simp only [Snd.can, Bool.and_eq_true, decide_eq_true_eq] at hc
    exact ⟨h.size1, h.size2, h.base, by simp; omega, by simp; omega, h.len, h.pay⟩
  · exact h

theorem ssend_any (F : Nat → Prop) (a : Nat) (s : Snd) (hok : s.Ok) (w : World) (hs : SndAt F w a s) :
    Calls Try.prog 44 #[.pointer (some ⟨a, 0, none⟩)] w fun e w' => ∃ u, e = .returned (.tuple #[.int .i64 s.sendN, u, .bool s.can]) ∧
      Byt (fun k => w.heap.size ≤ k) w' u s.sendP ∧ SndAt F w' a s.send ∧ Fr (fun k => k = a) w w' := by
  obtain ⟨h1, h2, av, vs, D, hb, hA, hl, hav, hD, hp⟩ := hs
  obtain ⟨ao, cap, rfl, hcap, hcm, hnil⟩ := hA.form
  cases hc : s.can with
  | false =>
    have h : s.under = vs.length ∨ s.under = s.size := by
      have := hok.under1
      have := hok.under2
      simp only [Snd.can, Bool.and_eq_false_iff, decide_eq_false_iff_not] at hc
      omega
    refine (send_no a s.size s.base s.under vs.length ao cap w hb h).mono ?_
    rintro e w' ⟨rfl, hB⟩
    have e1 : s.sendN = 0 := by simp [Snd.sendN, hc]
    have e2 : s.sendP = [] := by simp [Snd.sendP, hc]
    have e3 : s.send = s := by simp [Snd.send, hc]
    rw [e1, e2, e3]
    exact ⟨_, rfl, ⟨⟨Reads.nil _ _, fun k hk => by simp [Value.ownBlock] at hk⟩, fun n hn => by simp at hn⟩, SndAt.below ⟨h1, h2, _, vs, D, hb, hA, hl, hav, hD, hp⟩ hB, .of_below hB⟩
  | true =>
    have hc' := hc
    simp only [Snd.can, Bool.and_eq_true, decide_eq_true_eq] at hc'
    obtain ⟨x, hx⟩ := get_some (xs := vs) (k := s.under) (by omega)
    obtain ⟨q, hq⟩ := get_some (xs := s.ps) (k := s.under) hc'.1
    obtain ⟨g, off, rfl, hcell⟩ := hA.at_ hx
    have hbq := hp _ x q hx hq
    have hpay := hok.pay q (List.mem_of_getElem? hq)
    refine (send_yes a s.size s.base s.under vs.length g off cap x q w hb (by omega) hc'.2 hcell (hbq.1.mono (fun k hk => (hD k hk).2)) (by have := hok.len; omega) hok.base hpay.2).mono ?_
    rintro e w' ⟨u, W, rfl, hF, hbW, hBW, hO⟩
    have e1 : s.sendN = (s.base + s.under) % 128 := by simp [Snd.sendN, hc]
    have e2 : s.sendP = q := by simp [Snd.sendP, hc, hq]
    have e3 : s.send = { s with under := s.under + 1 } := by simp [Snd.send, hc]
    rw [e1, e2, e3]
    have hs1 := hF.size
    refine ⟨u, rfl, ⟨(Rd.of_owns hO (by unfold maxLen; omega)).mono (fun k hk => by omega), hbq.2⟩, SndAt.below (w := W) ⟨fun k hk => by have := h1 k hk; omega, h2, _, vs, D, hbW, hA.fr hF (fun k hk => (hav k hk).2.1), hl, hav, hD, fun i x p hx hp' => (hp i x p hx hp').fr hF (fun k hk => (hD k hk).2)⟩ hBW, hF.then_below hBW⟩

end Go.Proofs.Ythmdibagcbbgoaa

namespace Go.Proofs.Ythmdibagcbbgoaa
open Go.RowKit

section
variable {P : Program} {ops : Array Oper} {Q : Exit → Act → World → Prop} {md : Region.Mode} {S : World → Prop} {tl fr : List Nat}

/-- Whatever order is picked from here on; S holds behind every operation but those of the tail. -/
def wpAnyT (P : Program) (md : Region.Mode) (ops : Array Oper) (Q : Exit → Act → World → Prop) (S : World → Prop) (tl : List Nat) : Nat → Array Bool → Act → World → Prop
  | 0, listed, a, w => Region.ready md ops listed = [] ∧ Q .normal a w
  | fuel + 1, listed, a, w =>
    (Region.ready md ops listed = [] → Q .normal a w) ∧
    ∀ i ∈ Region.ready md ops listed, wpOp P ops Q i (fun a' w' => (i ∈ tl ∨ (S w → S w')) ∧ wpAnyT P md ops Q S tl fuel (listed.setIfInBounds i true) a' w') a w
theorem wpAny_of_T : ∀ (fuel : Nat) (listed : Array Bool) (a : Act) (w : World), wpAnyT P md ops Q S tl fuel listed a w → wpAny P md ops Q fuel listed a w
  | 0, _, _, _, h => h
  | fuel + 1, _, _, _, h => ⟨h.1, fun i hi => wpOp_mono (fun a' w' h' => wpAny_of_T fuel _ a' w' h'.2) (h.2 i hi)⟩

/-- No operation of the tail may come up while one of the head has not. -/
structure TailInv (md : Region.Mode) (ops : Array Oper) (tl : List Nat) (listed : Array Bool) : Prop where
  size : listed.size = ops.size
  closed : ∀ j oj, ops[j]? = some oj → listed.getD j false = true → ∀ e ∈ oj.after, Region.binds md e = true → listed.getD e.on false = true
  tail : ∀ t ∈ tl, listed.getD t false = false
def sinkT (md : Region.Mode) (ops : Array Oper) (tl fr : List Nat) : Bool :=
  (List.range ops.size).all fun i => if tl.contains i then (tl.head? == some i) || tl.any fun t => Region.waitsFor md ops i t
    else fr.contains i || (List.range ops.size).any fun j => Region.waitsFor md ops j i && ((tl.head? == some j) || (decide (i < j) && (!tl.contains j && !fr.contains j)))

theorem TailInv.set {i : Nat} {listed : Array Bool} (inv : TailInv md ops tl listed) (hi : i ∈ Region.ready md ops listed) (hin : i ∉ tl) : TailInv md ops tl (listed.setIfInBounds i true) := by
  obtain ⟨_, oi, hoi, hall⟩ := mem_ready.1 hi
  refine ⟨by simp [inv.size], fun j oj hj hl e he hb => ?_, fun t ht => by rw [getD_set_ne false (fun h => hin (by rw [h]; exact ht))]; exact inv.tail t ht⟩
  by_cases hij : i = j
  · subst hij
    have : oj = oi := Option.some.inj (hj.symm.trans hoi)
    subst this
    exact getD_set_true (hall e he hb)
  · rw [getD_set_ne false hij] at hl
    exact getD_set_true (inv.closed j oj hj hl e he hb)

theorem tail_not_ready {listed : Array Bool} (hs : sinkT md ops tl fr = true) (inv : TailInv md ops tl listed) :
    ∀ (d i : Nat), ops.size - i = d → i < ops.size → i ∉ tl → i ∉ fr → listed.getD i true = false → ∀ t ∈ tl, t ∉ Region.ready md ops listed := by
  intro d
  induction d using Nat.strongRecOn with
  | _ d ih =>
    intro i hd hi hit hif hun t ht hr
    obtain ⟨_, ot, hot, hall⟩ := mem_ready.1 hr
    have htlt : t < ops.size := (Array.getElem?_eq_some_iff.1 hot).1
    have h1 := List.all_eq_true.1 hs t (List.mem_range.2 htlt)
    rw [if_pos (by simpa using ht)] at h1
    simp only [Bool.or_eq_true, beq_iff_eq, List.any_eq_true] at h1
    rcases h1 with h1 | ⟨t', ht', hw⟩
    · have h2 := List.all_eq_true.1 hs i (List.mem_range.2 hi)
      rw [if_neg (by simpa using hit), show fr.contains i = false by simpa using hif, Bool.false_or] at h2
      obtain ⟨j, hj, hj2⟩ := List.any_eq_true.1 h2
      simp only [Bool.and_eq_true, Bool.or_eq_true, beq_iff_eq, decide_eq_true_eq, Bool.not_eq_true'] at hj2
      obtain ⟨oj, hoj, e, he, hb, hon⟩ := Region.waitsFor_spec hj2.1
      rcases hj2.2 with h3 | ⟨h3, h4, h6⟩
      · have hjt : j = t := Option.some.inj (h3.symm.trans h1)
        subst hjt
        have : oj = ot := Option.some.inj (hoj.symm.trans hot)
        subst this
        have h5 := hall e he hb
        rw [hon, getD_both hun] at h5
        cases h5
      · cases hl : listed.getD j false with
        | true =>
          have h5 := inv.closed j oj hoj hl e he hb
          rw [hon, getD_both hun] at h5
          cases h5
        | false =>
          have hjs : j < listed.size := by rw [inv.size]; exact List.mem_range.1 hj
          exact ih (ops.size - j) (by omega) j rfl (List.mem_range.1 hj) (by simpa using h4) (by simpa using h6) (getD_in hjs hl) t ht hr
    · obtain ⟨o', ho', e, he, hb, hon⟩ := Region.waitsFor_spec hw
      have : o' = ot := Option.some.inj (ho'.symm.trans hot)
      subst this
      have h5 := hall e he hb
      rw [hon, inv.tail t' ht'] at h5
      cases h5

theorem wpAnyT_first {i : Nat} {oi : Oper} {v : Value} (hi : ops[i]? = some oi) (hsel : Region.noSelect ops = true) (hs : sinkT md ops tl fr = true) (hin : i ∉ tl) (hif : i ∉ fr)
    (hQ : ∀ c a d v w, Q (.panic c) (a.put d v) w → Q (.panic c) a w) :
    ∀ (fuel : Nat) (listed : Array Bool) (a : Act) (w : World), TailInv md ops tl listed →
      (∀ j oj, ops[j]? = some oj → j ≠ i → listed.getD j true = false → (∀ e ∈ oj.after, Region.binds md e = true → e.on ≠ i) → oi.apart ops oj = true) →
      i ∈ Region.ready md ops listed → YieldsIf P ops S oi v a → S w →
      wpAnyT P md ops Q S tl fuel (listed.setIfInBounds i true) (a.put oi.dst v) w → wpAnyT P md ops Q S tl (fuel + 1) listed a w := by
  intro fuel
  induction fuel with
  | zero =>
    intro listed a w _ _ hr hy hS H
    refine ⟨fun h => (by rw [h] at hr; cases hr), fun j hj => ?_⟩
    by_cases hji : j = i
    · subst hji; exact hy.wpOp hi hS ⟨.inr id, H⟩
    · have := ready_mono hj hji
      rw [H.1] at this
      cases this
  | succ fuel ih =>
    intro listed a w inv hfree hr hy hS H
    have hun := (mem_ready.1 hr).1
    refine ⟨fun h => (by rw [h] at hr; cases hr), fun j hj => ?_⟩
    have hjn : j ∉ tl := fun ht => tail_not_ready hs inv _ i rfl (Array.getElem?_eq_some_iff.1 hi).1 hin hif hun j ht hj
    by_cases hji : j = i
    · subst hji; exact hy.wpOp hi hS ⟨.inr id, H⟩
    · have h1 := H.2 j (ready_mono hj hji)
      obtain ⟨hjun, oj, hoj, hall⟩ := mem_ready.1 hj
      have hnot : ∀ e ∈ oj.after, Region.binds md e = true → e.on ≠ i := fun e he hb heq => by
        have h1 := hall e he hb
        rw [heq, getD_both hun] at h1
        cases h1
      have h2 := wpOp_putIf hoj (hfree j oj hoj hji hjun hnot) (fun cs b => Region.noSelect_spec hsel i oi cs b hi) (fun cs b => Region.noSelect_spec hsel j oj cs b hoj) (fun c a w => hQ c a _ _ w) hy h1
      have hfree' : ∀ k ok, ops[k]? = some ok → k ≠ i → (listed.setIfInBounds j true).getD k true = false →
          (∀ e ∈ ok.after, Region.binds md e = true → e.on ≠ i) → oi.apart ops ok = true := fun k ok hk hki hun hno => by
        refine hfree k ok hk hki ?_ hno
        by_cases hjk : j = k
        · subst hjk; exact hjun
        · rw [getD_set_ne true hjk] at hun; exact hun
      refine wpOp_mono (fun a' w' h3 => ?_) h2
      have hS' : S w' := h3.2.1.resolve_left hjn hS
      refine ⟨.inr fun _ => hS', ih (listed.setIfInBounds j true) a' w' (inv.set hj hjn) hfree' (ready_mono hr (Ne.symm hji)) h3.1 hS' ?_⟩
      rw [Array.setIfInBounds_comm _ _ hji]
      exact h3.2.2

/-- What yields one value in whatever world may be taken first, whatever the tail does. -/
theorem wpAnyT_free {i : Nat} {oi : Oper} {v : Value} (hi : ops[i]? = some oi) (hsel : Region.noSelect ops = true)
    (hQ : ∀ c a d v w, Q (.panic c) (a.put d v) w → Q (.panic c) a w) :
    ∀ (fuel : Nat) (listed : Array Bool) (a : Act) (w : World),
      (∀ j oj, ops[j]? = some oj → j ≠ i → listed.getD j true = false → (∀ e ∈ oj.after, Region.binds md e = true → e.on ≠ i) → oi.apart ops oj = true) →
      i ∈ Region.ready md ops listed → YieldsIf P ops (fun _ => True) oi v a →
      wpAnyT P md ops Q S tl fuel (listed.setIfInBounds i true) (a.put oi.dst v) w → wpAnyT P md ops Q S tl (fuel + 1) listed a w := by
  intro fuel
  induction fuel with
  | zero =>
    intro listed a w _ hr hy H
    refine ⟨fun h => (by rw [h] at hr; cases hr), fun j hj => ?_⟩
    by_cases hji : j = i
    · subst hji; exact hy.wpOp hi trivial ⟨.inr id, H⟩
    · have := ready_mono hj hji
      rw [H.1] at this
      cases this
  | succ fuel ih =>
    intro listed a w hfree hr hy H
    refine ⟨fun h => (by rw [h] at hr; cases hr), fun j hj => ?_⟩
    by_cases hji : j = i
    · subst hji; exact hy.wpOp hi trivial ⟨.inr id, H⟩
    · have h1 := H.2 j (ready_mono hj hji)
      obtain ⟨hjun, oj, hoj, hall⟩ := mem_ready.1 hj
      have hnot : ∀ e ∈ oj.after, Region.binds md e = true → e.on ≠ i := fun e he hb heq => by
        have h1 := hall e he hb
        rw [heq, getD_both (mem_ready.1 hr).1] at h1
        cases h1
      have h2 := wpOp_putIf hoj (hfree j oj hoj hji hjun hnot) (fun cs b => Region.noSelect_spec hsel i oi cs b hi) (fun cs b => Region.noSelect_spec hsel j oj cs b hoj) (fun c a w => hQ c a _ _ w) hy h1
      have hfree' : ∀ k ok, ops[k]? = some ok → k ≠ i → (listed.setIfInBounds j true).getD k true = false →
          (∀ e ∈ ok.after, Region.binds md e = true → e.on ≠ i) → oi.apart ops ok = true := fun k ok hk hki hun hno => by
        refine hfree k ok hk hki ?_ hno
        by_cases hjk : j = k
        · subst hjk; exact hjun
        · rw [getD_set_ne true hjk] at hun; exact hun
      refine wpOp_mono (fun a' w' h3 => ⟨h3.2.1, ih (listed.setIfInBounds j true) a' w' hfree' (ready_mono hr (Ne.symm hji)) h3.1 ?_⟩) h2
      rw [Array.setIfInBounds_comm _ _ hji]
      exact h3.2.2

/-- The tail's order named: number and 'does it yield in whatever world?'. -/
def tailB (md : Region.Mode) (ops : Array Oper) (tl : List Nat) : List (Nat × Bool) → Array Bool → Bool
  | [], listed => (Region.ready md ops listed).isEmpty
  | (i, true) :: r, listed => (Region.ready md ops listed).contains i && Region.free md ops listed i && tailB md ops tl r (listed.setIfInBounds i true)
  | (i, false) :: r, listed => decide (Region.ready md ops listed = [i]) && tl.contains i && tailB md ops tl r (listed.setIfInBounds i true)
def wpTail (P : Program) (ops : Array Oper) (Q : Exit → Act → World → Prop) : List (Nat × Bool) → Act → World → Prop
  | [], a, w => Q .normal a w
  | (i, true) :: r, a, w => ∃ o v, ops[i]? = some o ∧ YieldsIf P ops (fun _ => True) o v a ∧ wpTail P ops Q r (a.put o.dst v) w
  | (i, false) :: r, a, w => ∃ o, ops[i]? = some o ∧ Region.wanted o (yielded ops a.tmps) = true ∧ o.wp P a w (fun a' w' => wpTail P ops Q r a' w') Q
/-- The head's order named: number and kind (0: it yields in whatever world; 1: in every world that meets S; 2: it is carried out, S behind it). -/
def headB (md : Region.Mode) (ops : Array Oper) (tl fr : List Nat) (tail : List (Nat × Bool)) : List (Nat × Nat) → Array Bool → Bool
  | [], listed => tailB md ops tl tail listed
  | (i, 0) :: r, listed => (Region.ready md ops listed).contains i && Region.free md ops listed i && !tl.contains i && headB md ops tl fr tail r (listed.setIfInBounds i true)
  | (i, 1) :: r, listed => (Region.ready md ops listed).contains i && Region.free md ops listed i && !tl.contains i && !fr.contains i && headB md ops tl fr tail r (listed.setIfInBounds i true)
  | (i, _ + 2) :: r, listed => decide (Region.ready md ops listed = [i]) && !tl.contains i && headB md ops tl fr tail r (listed.setIfInBounds i true)

/-- The walk along the named order. -/
def wpHead (P : Program) (ops : Array Oper) (S : World → Prop) (L : Act → World → Prop) (Q : Exit → Act → World → Prop) : List (Nat × Nat) → Act → World → Prop
  | [], a, w => L a w
  | (i, 0) :: r, a, w => ∃ o v, ops[i]? = some o ∧ YieldsIf P ops (fun _ => True) o v a ∧ wpHead P ops S L Q r (a.put o.dst v) w
  | (i, 1) :: r, a, w => ∃ o v, ops[i]? = some o ∧ YieldsIf P ops S o v a ∧ wpHead P ops S L Q r (a.put o.dst v) w
  | (i, _ + 2) :: r, a, w => ∃ o, ops[i]? = some o ∧ Region.wanted o (yielded ops a.tmps) = true ∧ o.wp P a w (fun a' w' => S w' ∧ wpHead P ops S L Q r a' w') Q

theorem wpAnyT_of_tail (hsel : Region.noSelect ops = true) (hQ : ∀ c a d v w, Q (.panic c) (a.put d v) w → Q (.panic c) a w) :
    ∀ (r : List (Nat × Bool)) (listed : Array Bool) (a : Act) (w : World), tailB md ops tl r listed = true → wpTail P ops Q r a w → wpAnyT P md ops Q S tl r.length listed a w
  | [], listed, a, w, hB, h => ⟨by simpa [tailB] using hB, h⟩
  | (i, true) :: r, listed, a, w, hB, h => by
    simp only [tailB, Bool.and_eq_true] at hB
    obtain ⟨⟨hr, hf⟩, hB'⟩ := hB
    obtain ⟨o, v, ho, hy, hh⟩ := h
    exact wpAnyT_free ho hsel hQ _ listed a w (Region.free_spec ho hf) (by simpa using hr) hy (wpAnyT_of_tail hsel hQ r _ _ _ hB' hh)
  | (i, false) :: r, listed, a, w, hB, h => by
    simp only [tailB, Bool.and_eq_true, decide_eq_true_eq] at hB
    obtain ⟨⟨hr, hin⟩, hB'⟩ := hB
    obtain ⟨o, ho, hw, hh⟩ := h
    refine ⟨fun h0 => (by rw [h0] at hr; cases hr), fun j hj => ?_⟩
    rw [hr] at hj
    have hji : j = i := by simpa using hj
    rw [hji]
    unfold wpOp
    simp only [ho, hw, if_true]
    exact .inl (Oper.wp_mono (fun a' w' h3 => ⟨.inl (by simpa using hin), wpAnyT_of_tail hsel hQ r _ a' w' hB' h3⟩) hh)

theorem wpAnyT_of_head (tail : List (Nat × Bool)) (hsel : Region.noSelect ops = true) (hs : sinkT md ops tl fr = true)
    (hQ : ∀ c a d v w, Q (.panic c) (a.put d v) w → Q (.panic c) a w) :
    ∀ (h : List (Nat × Nat)) (listed : Array Bool) (a : Act) (w : World), TailInv md ops tl listed → S w → headB md ops tl fr tail h listed = true → wpHead P ops S (wpTail P ops Q tail) Q h a w →
      wpAnyT P md ops Q S tl (h.length + tail.length) listed a w
  | [], listed, a, w, _, _, hB, h => by
    rw [List.length_nil, Nat.zero_add]
    exact wpAnyT_of_tail hsel hQ tail listed a w hB h
  | (i, 0) :: r, listed, a, w, inv, hS, hB, h => by
    simp only [headB, Bool.and_eq_true, Bool.not_eq_true'] at hB
    obtain ⟨⟨⟨hr, hf⟩, hin⟩, hB'⟩ := hB
    obtain ⟨o, v, ho, hy, hh⟩ := h
    have hr' : i ∈ Region.ready md ops listed := by simpa using hr
    have hin' : i ∉ tl := by simpa using hin
    rw [List.length_cons, show r.length + 1 + tail.length = (r.length + tail.length) + 1 by omega]
    exact wpAnyT_free ho hsel hQ _ listed a w (Region.free_spec ho hf) hr' hy
      (wpAnyT_of_head tail hsel hs hQ r _ _ _ (inv.set hr' hin') hS hB' hh)
  | (i, 1) :: r, listed, a, w, inv, hS, hB, h => by
    simp only [headB, Bool.and_eq_true, Bool.not_eq_true'] at hB
    obtain ⟨⟨⟨⟨hr, hf⟩, hin⟩, hif⟩, hB'⟩ := hB
    obtain ⟨o, v, ho, hy, hh⟩ := h
    have hr' : i ∈ Region.ready md ops listed := by simpa using hr
    have hin' : i ∉ tl := by simpa using hin
    rw [List.length_cons, show r.length + 1 + tail.length = (r.length + tail.length) + 1 by omega]
    exact wpAnyT_first ho hsel hs hin' (by simpa using hif) hQ _ listed a w inv (Region.free_spec ho hf) hr' hy hS
      (wpAnyT_of_head tail hsel hs hQ r _ _ _ (inv.set hr' hin') hS hB' hh)
  | (i, k + 2) :: r, listed, a, w, inv, _, hB, h => by
    simp only [headB, Bool.and_eq_true, decide_eq_true_eq, Bool.not_eq_true'] at hB
    obtain ⟨⟨hr, hin⟩, hB'⟩ := hB
    obtain ⟨o, ho, hw, hh⟩ := h
    have hin' : i ∉ tl := by simpa using hin
    rw [List.length_cons, show r.length + 1 + tail.length = (r.length + tail.length) + 1 by omega]
    refine ⟨fun h0 => (by rw [h0] at hr; cases hr), fun j hj => ?_⟩
    rw [hr] at hj
    have hji : j = i := by simpa using hj
    rw [hji]
    unfold wpOp
    simp only [ho, hw, if_true]
    exact .inl (Oper.wp_mono (fun a' w' h3 => ⟨.inr fun _ => h3.1, wpAnyT_of_head tail hsel hs hQ r _ a' w' (inv.set (by rw [hr]; simp) hin') h3.1 hB' h3.2⟩) hh)

theorem tailInv_start (md : Region.Mode) (ops : Array Oper) (tl : List Nat) : TailInv md ops tl (Array.replicate ops.size false) :=
  ⟨by simp, fun j oj _ hl => (by rw [getD_replicate_false] at hl; cases hl), fun t _ => getD_replicate_false _ _⟩

theorem wp_region_order {id : Nat} {a : Act} {w : World} (S : World → Prop) (order : List (Nat × Nat)) (tail : List (Nat × Bool)) (tl fr : List Nat) (hm : P.follows .mixedOrders = true) (hQ : ∀ c a d v w, Q (.panic c) (a.put d v) w → Q (.panic c) a w)
    (hB : (Region.noSelect ops && (sinkT .any ops tl fr && (decide (order.length + tail.length = ops.size) && headB .any ops tl fr tail order (Array.replicate ops.size false)))) = true)
    (hS : S w.drew) (h : wpHead P ops S (wpTail P ops Q tail) Q order a w.drew) : (Code.region id ops true).wp P Q a w := by
  simp only [Bool.and_eq_true, decide_eq_true_eq] at hB
  obtain ⟨h1, h2, h5, h6⟩ := hB
  refine wp_region_any hm (wpAny_of_T (S := S) (tl := tl) _ _ _ _ ?_)
  have := wpAnyT_of_head (P := P) (Q := Q) (S := S) tail h1 h2 hQ order (Array.replicate ops.size false) a w.drew (tailInv_start _ _ _) hS h6 h
  rw [h5] at this
  exact this

theorem wpTail_free {i : Nat} {r : List (Nat × Bool)} {a : Act} {w : World} {o : Oper} {v : Value} (ho : ops[i]? = some o) (hw : Region.wanted o (yielded ops a.tmps) = true)
    (hy : ∀ w', (execOp a.eval o).run P w' = .ok (.value v) w') (h : wpTail P ops Q r (a.put o.dst v) w) : wpTail P ops Q ((i, true) :: r) a w := ⟨o, v, ho, .inl ⟨hw, fun w' _ => hy w'⟩, h⟩
theorem wpTail_step {i : Nat} {r : List (Nat × Bool)} {a : Act} {w : World} {o : Oper} (ho : ops[i]? = some o) (hw : Region.wanted o (yielded ops a.tmps) = true)
    (h : ∀ K, Hid (∀ a' w', wpTail P ops Q r a' w' → K a' w') → o.wp P a w K Q) : wpTail P ops Q ((i, false) :: r) a w :=
  ⟨o, ho, hw, h _ fun _ _ h2 => h2⟩
theorem wpTail_nil {a : Act} {w : World} (h : Q .normal a w) : wpTail P ops Q [] a w := h
theorem wpHead_free {L : Act → World → Prop} {i : Nat} {r : List (Nat × Nat)} {a : Act} {w : World} {o : Oper} {v : Value} (ho : ops[i]? = some o) (hw : Region.wanted o (yielded ops a.tmps) = true)
    (hy : ∀ w', (execOp a.eval o).run P w' = .ok (.value v) w') (h : wpHead P ops S L Q r (a.put o.dst v) w) : wpHead P ops S L Q ((i, 0) :: r) a w := ⟨o, v, ho, .inl ⟨hw, fun w' _ => hy w'⟩, h⟩
theorem wpHead_take {L : Act → World → Prop} {i : Nat} {r : List (Nat × Nat)} {a : Act} {w : World} {o : Oper} {v : Value} (ho : ops[i]? = some o) (hw : Region.wanted o (yielded ops a.tmps) = true)
    (hy : ∀ w', S w' → (execOp a.eval o).run P w' = .ok (.value v) w') (h : wpHead P ops S L Q r (a.put o.dst v) w) : wpHead P ops S L Q ((i, 1) :: r) a w := ⟨o, v, ho, .inl ⟨hw, hy⟩, h⟩
theorem wpHead_miss {L : Act → World → Prop} {i : Nat} {r : List (Nat × Nat)} {a : Act} {w : World} {o : Oper} (ho : ops[i]? = some o) (hw : Region.wanted o (yielded ops a.tmps) = false)
    (h : wpHead P ops S L Q r (a.put o.dst undef) w) : wpHead P ops S L Q ((i, 1) :: r) a w := ⟨o, undef, ho, .inr ⟨hw, rfl⟩, h⟩
theorem wpHead_step {L : Act → World → Prop} {i : Nat} {r : List (Nat × Nat)} {a : Act} {w : World} {o : Oper} (ho : ops[i]? = some o) (hw : Region.wanted o (yielded ops a.tmps) = true)
    (h : ∀ K, Hid (∀ a' w', S w' → wpHead P ops S L Q r a' w' → K a' w') → o.wp P a w K Q) : wpHead P ops S L Q ((i, 2) :: r) a w :=
  ⟨o, ho, hw, h _ fun _ _ h1 h2 => ⟨h1, h2⟩⟩
theorem wpHead_nil {L : Act → World → Prop} {a : Act} {w : World} (h : L a w) : wpHead P ops S L Q [] a w := h
end

end Go.Proofs.Ythmdibagcbbgoaa
