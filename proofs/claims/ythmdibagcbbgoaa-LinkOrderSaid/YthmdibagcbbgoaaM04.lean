/- Contracts of the functions of package window that only compute: Reduce, Way, In, Next, for every int. The contract of window.Each: an iterator that gives, for whatever loop body that leaves old memory alone, the numbers of the window in their order. The contract of window.has: of whatever numbers, which of 0 .. 127 are among them, reduced. Conditions: as they stand. -/
import Derived.WalkKit
import Derived.Test.YthmdibagcbbgoaaProg
import Derived.Test.YthmdibagcbbgoaaM03
import Derived.RangeFuncNested
import Derived.RangeFuncBound
import Derived.RangeFuncCalls
import Derived.RangeFuncLeaves
import Derived.Shelf.Abstract
import Derived.Shelf.RegionOpen
import Derived.OwnWalkIn
import Derived.TacticsInMore
import Derived.LoopNIn
import Derived.LoopIn
import Derived.Lib.Hide
import Derived.Deep.WholeRow
import Derived.Test.YthmdibagcbbgoaaM00
namespace Go.Proofs.Ythmdibagcbbgoaa
open Go.RowKit

theorem reduce_any (n : Int) (w : World) :
    Calls Try.prog 61 #[.int .i64 n] w fun e w' => e = .returned (.int .i64 (n % 128)) ∧ w = w' := by
  have h := and127 n
  go_enter Try.func61, Try.ntmps61
  go_wp2
  go_ret
  exact ⟨rfl, rfl⟩

theorem way_any (a b : Int) (w : World) :
    Calls Try.prog 48 #[.int .i64 a, .int .i64 b] w fun e w' => e = .returned (.int .i64 ((b - a) % 128)) ∧ w = w' := by
  have h1 : 0 ≤ a % 128 := by omega
  have h2 : a % 128 ≤ 127 := by omega
  have h3 : 0 ≤ b % 128 := by omega
  have h4 : b % 128 ≤ 127 := by omega
  go_enter Try.func48, Try.ntmps48
  go_wp2_with fail
  refine (reduce_any _ _).mono ?_
  rintro e w' ⟨rfl, rfl⟩
  go_wp2_with fail
  refine (reduce_any _ _).mono ?_
  rintro e w' ⟨rfl, rfl⟩
  go_wp2_with fail
  refine (reduce_any _ _).mono ?_
  rintro e w' ⟨rfl, rfl⟩
  go_wp2
  go_ret
  exact ⟨rfl, rfl⟩

theorem next_any (a : Int) (w : World) :
    Calls Try.prog 71 #[.int .i64 a] w fun e w' => e = .returned (.int .i64 ((a + 1) % 128)) ∧ w = w' := by
  have h1 : 0 ≤ a % 128 := by omega
  have h2 : a % 128 ≤ 127 := by omega
  go_enter Try.func71, Try.ntmps71
  go_wp2_with fail
  refine (reduce_any _ _).mono ?_
  rintro e w' ⟨rfl, rfl⟩
  go_wp2_with fail
  refine (reduce_any _ _).mono ?_
  rintro e w' ⟨rfl, rfl⟩
  go_wp2
  go_ret
  exact ⟨rfl, rfl⟩

theorem in_any (base size n : Int) (w : World) :
    Calls Try.prog 47 #[.int .i64 base, .int .i64 size, .int .i64 n] w fun e w' => e = .returned (.bool (decide ((n - base) % 128 < size))) ∧ w = w' := by
  go_enter Try.func47, Try.ntmps47
  go_wp2_with fail
  refine (way_any _ _ _).mono ?_
  rintro e w' ⟨rfl, rfl⟩
  go_wp2
  go_ret
  exact ⟨rfl, rfl⟩

end Go.Proofs.Ythmdibagcbbgoaa

namespace Go.Proofs.Ythmdibagcbbgoaa
open Go.RowKit Go.Shelf
attribute [local go_sem] Oper.semAt_some

/-- How many numbers a window has. -/
def winLen (size : Int) : Nat := (max 0 (min size 128)).toNat
/-- A number from 0 to 127. -/
abbrev N7 := { x : Int // 0 ≤ x ∧ x < 128 }
def red (n : Int) : N7 := ⟨n % 128, by omega⟩
/-- The numbers of a window. -/
def win (base : Int) : Nat → List N7
  | 0 => []
  | m + 1 => win base m ++ [red (base + (m : Int))]

theorem win_succ (base : Int) (m : Nat) : win base (m + 1) = win base m ++ [red (base + (m : Int))] := rfl
theorem win_length (base : Int) (m : Nat) : (win base m).length = m := by
  induction m with
  | zero => rfl
  | succ m ih => simp [win, ih]
theorem win_prefix (base : Int) {k m : Nat} (h : k ≤ m) : win base k <+: win base m := by
  induction m with
  | zero => simp [show k = 0 by omega, win]
  | succ m ih =>
    by_cases hk : k = m + 1
    · subst hk; exact List.prefix_refl _
    · exact (ih (by omega)).trans (by rw [win_succ]; exact List.prefix_append _ _)
/-- What a round that goes on keeps: the block in which the base lies. -/
def KeepB (B : Nat) (W W' : World) : Prop := W'.heap[B]? = W.heap[B]?
theorem KeepB.trans {B : Nat} {A C D : World} (h : KeepB B A C) (k : KeepB B C D) : KeepB B A D := Eq.trans k h
theorem keepB_put {B : Nat} {w : World} (hB : B < w.heap.size) (W : World) (l : Nat) (o o' : Obj) (hl : w.heap.size ≤ l) (_ : W.heap[l]? = some o) (_ : o.isCells = false) (_ : o.isWalk = false) : KeepB B W (W.putObj l o') := World.putObj_heap_other (by omega)
theorem winLen_le (size : Int) : winLen size ≤ 128 := by unfold winLen; omega
theorem winLen128 : winLen 128 = 128 := by unfold winLen; omega
theorem win_zero (base : Int) : win base 0 = [] := rfl
attribute [irreducible] win

set_option maxRecDepth 100000 in
set_option maxHeartbeats 1000000 in
theorem each1_in (n : Nat) (hn : 1 ≤ n) (l B0 B1 : Nat) (base size : Int) (J Jx : List N7 → World → Prop)
    (hY : ∀ pre x W, J pre W → pre.length < winLen size → YieldAt Fence.wide (n - 1) Try.prog l #[.int .i64 x.1] W fun e W' =>
      (e = .returned (.bool true) ∧ J (pre ++ [x]) W' ∧ KeepB B0 W W') ∨ (e = .returned (.bool false) ∧ Jx (pre ++ [x]) W'))
    (W : World) (hb : W.cell? ⟨B0, 0, none⟩ = some (.int .i64 base)) (hs : W.cell? ⟨B1, 0, none⟩ = some (.int .i64 size)) (h0 : J [] W) :
    CallsIn Fence.wide n Try.prog 62 #[.func (.yield l) #[] #[], .pointer (some ⟨B1, 0, none⟩), .pointer (some ⟨B0, 0, none⟩)] W fun e W' => (∃ v, e = .returned v) ∧
      ((∃ ys, ys = win base (winLen size) ∧ J ys W') ∨ (∃ pre, pre <+: win base (winLen size) ∧ Jx pre W')) := by
  refine callsIn_of_wp Try.func62 rfl trivial ?_ rfl
  simp only [Try.ntmps62, List.size_toArray, List.length_cons, List.length_nil, Nat.reduceAdd, Nat.reduceSub, Array.replicate_succ, Array.replicate_zero, List.push_toArray, List.append_toArray, List.nil_append, List.cons_append]
  gi_wp2
  all_goals
    have hm2 := winLen_le size
    have hq : (128 ≤ size → 128 ≤ winLen size) ∧ (0 ≤ size → size ≤ 128 → size ≤ (winLen size : Int) ∧ (winLen size : Int) ≤ size) ∧ (size ≤ 0 → winLen size ≤ 0) := by unfold winLen; omega
    have hq2 : (128 ≤ size ∧ 128 ≤ winLen size) ∨ (0 < size ∧ size ≤ 128 ∧ size ≤ (winLen size : Int) ∧ (winLen size : Int) ≤ size) ∨ (size ≤ 0 ∧ winLen size ≤ 0) := by omega
    clear hq
    gi_loopw [8] (fun k wr => ∃ i : Nat, k = .int .i64 i ∧ i ≤ winLen size ∧ wr.cell? ⟨B0, 0, none⟩ = some (.int .i64 base) ∧ J (win base i) wr)
      (fun k _ => winLen size - (intOf k).toNat)
    case atStart => exact ⟨0, rfl, by omega, hb, by rw [win_zero]; exact h0⟩
    case round =>
      obtain ⟨i, rfl, hi, hc, hJ⟩ := hrel
      clear h0 hs hb
      by_cases hlt : i < winLen size
      · obtain ⟨fn, tmps, assign, body, hy, hR⟩ := hY (win base i) (red (base + (i : Int))) wr hJ (by rw [win_length]; exact hlt)
        dsimp only [red] at hy
        have h1 : 0 ≤ base % 128 := by omega
        have h2 : base % 128 ≤ 127 := by omega
        by_cases hz : size ≤ 0
        · exfalso; omega
        gi_wp2_with (refine ⟨trivial, ?_⟩; gi_at_call 61; refine (callsIn_wide.2 (reduce_any _ _)).mono ?_; rintro e w' ⟨rfl, rfl⟩)
        all_goals
          refine hR.mono ?_
          rintro e W3 (⟨rfl, hJ3, hk3⟩ | ⟨rfl, hJx3⟩)
          · have hc3 : W3.cell? ⟨B0, 0, none⟩ = some (.int .i64 base) := (World.cell?_of_block (a := ⟨B0, 0, none⟩) hk3).trans hc
            gi_wp2
            go_roundw
            case rel => exact ⟨i + 1, by go_num, by omega, hc3, by rw [win_succ]; exact hJ3⟩
            case measure => simp [intOf]; omega
          · gi_wp2
            refine bodyPost_ret (results_none rfl _ _ _) rfl ?_
            exact ⟨⟨_, rfl⟩, .inr ⟨win base i ++ [red (base + (i : Int))], by rw [← win_succ]; exact win_prefix base hlt, hJx3⟩⟩
      · gi_wp2
        go_end0
        exact ⟨⟨_, rfl⟩, .inl ⟨_, by rw [show winLen size = i by omega], hJ⟩⟩

set_option maxHeartbeats 1000000 in
/-- window.Each boxes its two numbers; the function value captures the boxes. -/
theorem each_in (base size : Int) (w : World) :
    Calls Try.prog 45 #[.int .i64 base, .int .i64 size] w fun e w' =>
      e = .returned (.func (.func 62) #[] #[.pointer (some ⟨w.heap.size + 1, 0, none⟩), .pointer (some ⟨w.heap.size, 0, none⟩)]) ∧
      (w.alloc (.cells #[.int .i64 base] 3)).alloc (.cells #[.int .i64 size] 3) = w' := by
  go_enter Try.func45, Try.ntmps45
  go_wp2
  go_ret
  exact ⟨rfl, rfl⟩

/-- The function value gives the numbers of the window in their order, or, where a round says no more, a beginning of them. -/
theorem each_stops (n : Nat) (hn : 1 ≤ n) (B0 B1 : Nat) (base size : Int) (w : World)
    (hb : w.cell? ⟨B0, 0, none⟩ = some (.int .i64 base)) (hs : w.cell? ⟨B1, 0, none⟩ = some (.int .i64 size)) :
    SeqStopsK Fence.wide n Try.prog 62 #[.pointer (some ⟨B1, 0, none⟩), .pointer (some ⟨B0, 0, none⟩)] (fun x : N7 => #[Value.int .i64 x.1]) (KeepB B0) (fun ys => ys = win base (winLen size)) (fun pre => pre <+: win base (winLen size)) (winLen size) w :=
  fun l J Jx W hW _ _ hY hJ0 =>
    each1_in n hn l B0 B1 base size J Jx hY W ((hW.cell (p := ⟨B0, 0, none⟩) (block_lt_of_cell hb)).trans hb) ((hW.cell (p := ⟨B1, 0, none⟩) (block_lt_of_cell hs)).trans hs) hJ0

end Go.Proofs.Ythmdibagcbbgoaa

namespace Go.Proofs.Ythmdibagcbbgoaa
open Go.RowKit

def hasN (l : List Int) (j : Int) : Bool := l.any fun x => x % 128 == j
/-- The 128 cells. -/
def numCells (l : List Int) : Array Value := Array.ofFn (n := 128) fun j => Value.bool (hasN l (j.val : Int))

theorem numCells_size (l : List Int) : (numCells l).size = 128 := by simp [numCells]
theorem numCells_nil : numCells [] = Array.replicate 128 (.bool false) := by
  apply Array.ext
  · simp [numCells]
  · intro i h1 h2; simp [numCells, hasN]
theorem numCells_at (l : List Int) {j : Nat} (h : j < 128) : (numCells l)[j]? = some (.bool (hasN l (j : Int))) := by
  rw [Array.getElem?_eq_getElem (by rw [numCells_size]; exact h)]; simp [numCells]
theorem hasN_snoc (l : List Int) (x j : Int) : hasN (l ++ [x]) j = (hasN l j || x % 128 == j) := by simp [hasN]
theorem numCells_snoc (l : List Int) (x : Int) : numCells (l ++ [x]) = (numCells l).setIfInBounds (x % 128).toNat (.bool true) := by
  apply Array.ext
  · simp [numCells]
  · intro i h1 h2
    rw [Array.getElem_setIfInBounds (by rw [numCells_size]; simpa [numCells] using h1)]
    simp only [numCells, Array.getElem_ofFn, hasN_snoc]
    by_cases h : (x % 128).toNat = i
    · rw [if_pos h]
      have : (x % 128 == (i : Int)) = true := by simp; omega
      rw [this, Bool.or_true]
    · rw [if_neg h]
      have : (x % 128 == (i : Int)) = false := by simp; omega
      rw [this, Bool.or_false]
theorem numCells_one (l : List Int) : (numCells l).all (·.oneCell') = true := by
  rw [Array.all_eq_true_iff_forall_mem]
  intro v hv
  simp only [numCells, Array.mem_ofFn] at hv
  obtain ⟨j, rfl⟩ := hv
  rfl

theorem zero128 : (Try.prog.info? 121).map (fun i => (i.zero, i.size)) = some (some (.agg (Array.replicate 128 (.bool false))), 128) := by kernel_rfl
theorem under128 : Try.prog.underlying 121 = some (.array 128 4) := by kernel_rfl
theorem zeroVal128 (w : World) : (zeroValue 121).run Try.prog w = .ok (.agg (numCells [])) w := by rw [numCells_nil]; exact (zero_of_info zero128).1 w

set_option maxRecDepth 100000 in
set_option maxHeartbeats 1000000 in
theorem has_any (v : Value) (l : List Int) (w : World) (hr : Reads (Value.int .i64) w v l) :
    Calls Try.prog 76 #[v] w fun e w' => e = .returned (.agg (numCells l)) ∧ Below w.heap.size w w' := by
  obtain ⟨hm, ao, cap, rfl, _, hc⟩ := hr
  unfold maxLen at hm
  have hz := zeroVal128
  go_enter Try.func76, Try.ntmps76
  go_wp2
  go_loopw [5, 8] (fun _ k wr => ∃ i : Nat, i ≤ l.length ∧ k = .int .i64 i ∧ wr = (w.alloc (.cells (numCells []) 121)).alloc (.cells (numCells (l.take i)) 121)) (fun _ k _ => l.length - (intOf k).toNat)
  case atStart => exact ⟨0, by omega, rfl, by simp⟩
  case round =>
    obtain ⟨k, hk, rfl, rfl⟩ := hrel
    by_cases hlt : k < l.length
    · obtain ⟨b, o, x, rfl, hx, hcx⟩ := cell_nth hc hlt
      have hcb := cell_lt hcx
      have h1 : 0 ≤ x % 128 := by omega
      have h2 : x % 128 < 128 := by omega
      have hat := numCells_at (l.take k) (j := (x % 128).toNat) (by omega)
      clear hc
      go_wp2_with (go_at_call 61; refine (reduce_any _ _).mono ?_; rintro e w' ⟨rfl, rfl⟩)
      go_roundw
      case rel => exact ⟨k + 1, by omega, by go_num, by rw [take_snoc' hx.out, numCells_snoc]⟩
      case measure => simp [intOf]; omega
    · obtain rfl : k = l.length := by omega
      clear hc
      rw [List.take_length]
      have hg1 : ((w.alloc (.cells (numCells []) 121)).alloc (.cells (numCells l) 121)).heap[w.heap.size + 1]? = some (.cells (numCells l) 121 (0, 0)) := heap_alloc2_new _ _ _
      have hg0 : ((w.alloc (.cells (numCells []) 121)).alloc (.cells (numCells l) 121)).heap[w.heap.size]? = some (.cells (numCells []) 121 (0, 0)) := heap_alloc2_old _ _ _
      have hi : (Try.prog.info? 121).map (·.size) = some (numCells l).size := by rw [numCells_size]; exact (zero_of_info zero128).2
      have H1 := Lib.hid hg1
      have H0 := Lib.hid hg0
      have HI := Lib.hid hi
      clear hg1 hg0 hi
      go_wp2_with (first | (refine wpList_load_row rfl 121 _ rfl (w.heap.size + 1) rfl 121 (numCells l) (0, 0) _ H1.out under128 rfl HI.out ?_) | (refine wpList_store_row rfl 121 _ _ rfl w.heap.size (numCells l) rfl rfl 121 (numCells []) H0.out HI.out (by rw [numCells_size, numCells_size]) (numCells_one l) ?_))
      exact bodyPost_ret (v := .agg (numCells l)) (results_cell_row rfl _ _ w.heap.size 121 (numCells l) (0, 0) _ rfl (setRow_heap _ _ _ _ _ _ H0.out) under128 rfl HI.out) rfl
        ⟨rfl, below_setRow' (((Below.refl _ w).alloc (Nat.le_refl _) _).alloc (by simp) _) (Nat.le_refl _) _⟩

end Go.Proofs.Ythmdibagcbbgoaa
