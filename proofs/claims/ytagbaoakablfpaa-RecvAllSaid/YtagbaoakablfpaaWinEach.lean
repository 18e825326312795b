/- The contract of window.Each: an iterator that gives, for whatever loop body that leaves old memory alone, the numbers of the window in their order. Conditions: none. -/
import Derived.RangeFuncNested
import Derived.RangeFuncBound
import Derived.RangeFuncCalls
import Derived.RangeFuncLeaves
import Derived.Shelf.Abstract
import Derived.Shelf.RegionOpen
import Derived.WalkKit
import Derived.OwnWalkIn
import Derived.TacticsInMore
import Derived.LoopNIn
import Derived.LoopIn
import Derived.Lib.Hide
import Derived.Test.YtagbaoakablfpaaWin
namespace Go.Proofs.Ytagbaoakablfpaa
open Go.RowKit Go.Shelf
attribute [local go_sem] Oper.semAt_some

/-- How many numbers a window has. -/
def winLen (size : Int) : Nat := (max 0 (min size 128)).toNat
/-- A number from 0 to 127. -/
abbrev N7 := { x : Int // 0 ≤ x ∧ x < 128 }
def red (n : Int) : N7 := ⟨n % 128, by omega⟩
/-- The numbers of a window. -/
def win (base : Int) : Nat → List N7
  | 0 => []
  | m + 1 => win base m ++ [red (base + (m : Int))]

theorem win_succ (base : Int) (m : Nat) : win base (m + 1) = win base m ++ [red (base + (m : Int))] := rfl
theorem win_length (base : Int) (m : Nat) : (win base m).length = m := by
  induction m with
  | zero => rfl
  | succ m ih => simp [win, ih]
theorem win_prefix (base : Int) {k m : Nat} (h : k ≤ m) : win base k <+: win base m := by
  induction m with
  | zero => simp [show k = 0 by omega, win]
  | succ m ih =>
    by_cases hk : k = m + 1
    · subst hk; exact List.prefix_refl _
    · exact (ih (by omega)).trans (by rw [win_succ]; exact List.prefix_append _ _)
/-- What a round that goes on keeps: the block in which the base lies. -/
def KeepB (B : Nat) (W W' : World) : Prop := W'.heap[B]? = W.heap[B]?
theorem KeepB.trans {B : Nat} {A C D : World} (h : KeepB B A C) (k : KeepB B C D) : KeepB B A D := Eq.trans k h
theorem keepB_put {B : Nat} {w : World} (hB : B < w.heap.size) (W : World) (l : Nat) (o o' : Obj) (hl : w.heap.size ≤ l) (_ : W.heap[l]? = some o) (_ : o.isCells = false) (_ : o.isWalk = false) : KeepB B W (W.putObj l o') := World.putObj_heap_other (by omega)
theorem winLen_le (size : Int) : winLen size ≤ 128 := by unfold winLen; omega
theorem winLen128 : winLen 128 = 128 := by unfold winLen; omega
theorem win_zero (base : Int) : win base 0 = [] := rfl
attribute [irreducible] win

set_option maxRecDepth 100000 in
set_option maxHeartbeats 1000000 in
theorem each1_in (n : Nat) (hn : 1 ≤ n) (l B0 B1 : Nat) (base size : Int) (J Jx : List N7 → World → Prop)
    (hY : ∀ pre x W, J pre W → pre.length < winLen size → YieldAt Fence.wide (n - 1) Try.prog l #[.int .i64 x.1] W fun e W' =>
      (e = .returned (.bool true) ∧ J (pre ++ [x]) W' ∧ KeepB B0 W W') ∨ (e = .returned (.bool false) ∧ Jx (pre ++ [x]) W'))
    (W : World) (hb : W.cell? ⟨B0, 0, none⟩ = some (.int .i64 base)) (hs : W.cell? ⟨B1, 0, none⟩ = some (.int .i64 size)) (h0 : J [] W) :
    CallsIn Fence.wide n Try.prog 39 #[.func (.yield l) #[] #[], .pointer (some ⟨B1, 0, none⟩), .pointer (some ⟨B0, 0, none⟩)] W fun e W' => (∃ v, e = .returned v) ∧
      ((∃ ys, ys = win base (winLen size) ∧ J ys W') ∨ (∃ pre, pre <+: win base (winLen size) ∧ Jx pre W')) := by
  refine callsIn_of_wp Try.func39 rfl trivial ?_ rfl
  simp only [Try.ntmps39, List.size_toArray, List.length_cons, List.length_nil, Nat.reduceAdd, Nat.reduceSub, Array.replicate_succ, Array.replicate_zero, List.push_toArray, List.append_toArray, List.nil_append, List.cons_append]
  gi_wp2
  all_goals
    have hm2 := winLen_le size
    have hq : (128 ≤ size → 128 ≤ winLen size) ∧ (0 ≤ size → size ≤ 128 → size ≤ (winLen size : Int) ∧ (winLen size : Int) ≤ size) ∧ (size ≤ 0 → winLen size ≤ 0) := by unfold winLen; omega
    have hq2 : (128 ≤ size ∧ 128 ≤ winLen size) ∨ (0 < size ∧ size ≤ 128 ∧ size ≤ (winLen size : Int) ∧ (winLen size : Int) ≤ size) ∨ (size ≤ 0 ∧ winLen size ≤ 0) := by omega
    clear hq
    gi_loopw [8] (fun k wr => ∃ i : Nat, k = .int .i64 i ∧ i ≤ winLen size ∧ wr.cell? ⟨B0, 0, none⟩ = some (.int .i64 base) ∧ J (win base i) wr)
      (fun k _ => winLen size - (intOf k).toNat)
    case atStart => exact ⟨0, rfl, by omega, hb, by rw [win_zero]; exact h0⟩
    case round =>
      obtain ⟨i, rfl, hi, hc, hJ⟩ := hrel
      clear h0 hs hb
      by_cases hlt : i < winLen size
      · obtain ⟨fn, tmps, assign, body, hy, hR⟩ := hY (win base i) (red (base + (i : Int))) wr hJ (by rw [win_length]; exact hlt)
        dsimp only [red] at hy
        have h1 : 0 ≤ base % 128 := by omega
        have h2 : base % 128 ≤ 127 := by omega
        by_cases hz : size ≤ 0
        · exfalso; omega
        gi_wp2_with (refine ⟨trivial, ?_⟩; gi_at_call 37; refine (callsIn_wide.2 (reduce_any _ _)).mono ?_; rintro e w' ⟨rfl, rfl⟩)
        all_goals
          refine hR.mono ?_
          rintro e W3 (⟨rfl, hJ3, hk3⟩ | ⟨rfl, hJx3⟩)
          · have hc3 : W3.cell? ⟨B0, 0, none⟩ = some (.int .i64 base) := (World.cell?_of_block (a := ⟨B0, 0, none⟩) hk3).trans hc
            gi_wp2
            go_roundw
            case rel => exact ⟨i + 1, by go_num, by omega, hc3, by rw [win_succ]; exact hJ3⟩
            case measure => simp [intOf]; omega
          · gi_wp2
            refine bodyPost_ret (results_none rfl _ _ _) rfl ?_
            exact ⟨⟨_, rfl⟩, .inr ⟨win base i ++ [red (base + (i : Int))], by rw [← win_succ]; exact win_prefix base hlt, hJx3⟩⟩
      · gi_wp2
        go_end0
        exact ⟨⟨_, rfl⟩, .inl ⟨_, by rw [show winLen size = i by omega], hJ⟩⟩

set_option maxHeartbeats 1000000 in
/-- window.Each boxes its two numbers; the function value captures the boxes. -/
theorem each_in (base size : Int) (w : World) :
    Calls Try.prog 34 #[.int .i64 base, .int .i64 size] w fun e w' =>
      e = .returned (.func (.func 39) #[] #[.pointer (some ⟨w.heap.size + 1, 0, none⟩), .pointer (some ⟨w.heap.size, 0, none⟩)]) ∧
      (w.alloc (.cells #[.int .i64 base] 3)).alloc (.cells #[.int .i64 size] 3) = w' := by
  go_enter Try.func34, Try.ntmps34
  go_wp2
  go_ret
  exact ⟨rfl, rfl⟩

/-- The function value gives the numbers of the window in their order, or, where a round says no more, a beginning of them. -/
theorem each_stops (n : Nat) (hn : 1 ≤ n) (B0 B1 : Nat) (base size : Int) (w : World)
    (hb : w.cell? ⟨B0, 0, none⟩ = some (.int .i64 base)) (hs : w.cell? ⟨B1, 0, none⟩ = some (.int .i64 size)) :
    SeqStopsK Fence.wide n Try.prog 39 #[.pointer (some ⟨B1, 0, none⟩), .pointer (some ⟨B0, 0, none⟩)] (fun x : N7 => #[Value.int .i64 x.1]) (KeepB B0) (fun ys => ys = win base (winLen size)) (fun pre => pre <+: win base (winLen size)) (winLen size) w :=
  fun l J Jx W hW _ _ hY hJ0 =>
    each1_in n hn l B0 B1 base size J Jx hY W ((hW.cell (p := ⟨B0, 0, none⟩) (block_lt_of_cell hb)).trans hb) ((hW.cell (p := ⟨B1, 0, none⟩) (block_lt_of_cell hs)).trans hs) hJ0

end Go.Proofs.Ytagbaoakablfpaa
