/- The contract of window.Each: an iterator that gives, for whatever loop body that leaves old memory alone, the numbers of the window in their order. The contract of window.has: of whatever numbers, which of 0 .. 127 are among them, reduced. Facts on boxes (a variable that a loop body captures) and on rows that a call owns. No program in sight. The contract of window.Sort, for whatever numbers. Conditions: as they stand. -/
import Derived.RangeFuncNested
import Derived.RangeFuncBound
import Derived.RangeFuncCalls
import Derived.RangeFuncLeaves
import Derived.Shelf.Abstract
import Derived.Shelf.RegionOpen
import Derived.WalkKit
import Derived.OwnWalkIn
import Derived.TacticsInMore
import Derived.LoopNIn
import Derived.LoopIn
import Derived.Lib.Hide
import Derived.Test.YthmdibagcbbgoaaGreatM02
import Derived.Deep.WholeRow
import Derived.Test.YthmdibagcbbgoaaGreatM00
import Derived.Maps.AppendAt
namespace Go.Proofs.YthmdibagcbbgoaaGreat
open Go.RowKit Go.Shelf
attribute [local go_sem] Oper.semAt_some

/-- How many numbers a window has. -/
def winLen (size : Int) : Nat := (max 0 (min size 128)).toNat
/-- A number from 0 to 127. -/
abbrev N7 := { x : Int // 0 ≤ x ∧ x < 128 }
def red (n : Int) : N7 := ⟨n % 128, by omega⟩
/-- The numbers of a window. -/
def win (base : Int) : Nat → List N7
  | 0 => []
  | m + 1 => win base m ++ [red (base + (m : Int))]

theorem win_succ (base : Int) (m : Nat) : win base (m + 1) = win base m ++ [red (base + (m : Int))] := rfl
theorem win_length (base : Int) (m : Nat) : (win base m).length = m := by
  induction m with
  | zero => rfl
  | succ m ih => simp [win, ih]
theorem win_prefix (base : Int) {k m : Nat} (h : k ≤ m) : win base k <+: win base m := by
  induction m with
  | zero => simp [show k = 0 by omega, win]
  | succ m ih =>
    by_cases hk : k = m + 1
    · subst hk; exact List.prefix_refl _
    · exact (ih (by omega)).trans (by rw [win_succ]; exact List.prefix_append _ _)
/-- What a round that goes on keeps: the block in which the base lies. -/
def KeepB (B : Nat) (W W' : World) : Prop := W'.heap[B]? = W.heap[B]?
theorem KeepB.trans {B : Nat} {A C D : World} (h : KeepB B A C) (k : KeepB B C D) : KeepB B A D := Eq.trans k h
theorem keepB_put {B : Nat} {w : World} (hB : B < w.heap.size) (W : World) (l : Nat) (o o' : Obj) (hl : w.heap.size ≤ l) (_ : W.heap[l]? = some o) (_ : o.isCells = false) (_ : o.isWalk = false) : KeepB B W (W.putObj l o') := World.putObj_heap_other (by omega)
theorem winLen_le (size : Int) : winLen size ≤ 128 := by unfold winLen; omega
theorem winLen128 : winLen 128 = 128 := by unfold winLen; omega
theorem win_zero (base : Int) : win base 0 = [] := rfl
attribute [irreducible] win

set_option maxRecDepth 100000 in
set_option maxHeartbeats 1000000 in
theorem each1_in (n : Nat) (hn : 1 ≤ n) (l B0 B1 : Nat) (base size : Int) (J Jx : List N7 → World → Prop)
    (hY : ∀ pre x W, J pre W → pre.length < winLen size → YieldAt Fence.wide (n - 1) Tryz.prog l #[.int .i64 x.1] W fun e W' =>
      (e = .returned (.bool true) ∧ J (pre ++ [x]) W' ∧ KeepB B0 W W') ∨ (e = .returned (.bool false) ∧ Jx (pre ++ [x]) W'))
    (W : World) (hb : W.cell? ⟨B0, 0, none⟩ = some (.int .i64 base)) (hs : W.cell? ⟨B1, 0, none⟩ = some (.int .i64 size)) (h0 : J [] W) :
    CallsIn Fence.wide n Tryz.prog 89 #[.func (.yield l) #[] #[], .pointer (some ⟨B1, 0, none⟩), .pointer (some ⟨B0, 0, none⟩)] W fun e W' => (∃ v, e = .returned v) ∧
      ((∃ ys, ys = win base (winLen size) ∧ J ys W') ∨ (∃ pre, pre <+: win base (winLen size) ∧ Jx pre W')) := by
  refine callsIn_of_wp Tryz.func89 rfl trivial ?_ rfl
  simp only [Tryz.ntmps89, List.size_toArray, List.length_cons, List.length_nil, Nat.reduceAdd, Nat.reduceSub, Array.replicate_succ, Array.replicate_zero, List.push_toArray, List.append_toArray, List.nil_append, List.cons_append]
  gi_wp2
  all_goals
    have hm2 := winLen_le size
    have hq : (128 ≤ size → 128 ≤ winLen size) ∧ (0 ≤ size → size ≤ 128 → size ≤ (winLen size : Int) ∧ (winLen size : Int) ≤ size) ∧ (size ≤ 0 → winLen size ≤ 0) := by unfold winLen; omega
    have hq2 : (128 ≤ size ∧ 128 ≤ winLen size) ∨ (0 < size ∧ size ≤ 128 ∧ size ≤ (winLen size : Int) ∧ (winLen size : Int) ≤ size) ∨ (size ≤ 0 ∧ winLen size ≤ 0) := by omega
    clear hq
    gi_loopw [8] (fun k wr => ∃ i : Nat, k = .int .i64 i ∧ i ≤ winLen size ∧ wr.cell? ⟨B0, 0, none⟩ = some (.int .i64 base) ∧ J (win base i) wr)
      (fun k _ => winLen size - (intOf k).toNat)
    case atStart => exact ⟨0, rfl, by omega, hb, by rw [win_zero]; exact h0⟩
    case round =>
      obtain ⟨i, rfl, hi, hc, hJ⟩ := hrel
      clear h0 hs hb
      by_cases hlt : i < winLen size
      · obtain ⟨fn, tmps, assign, body, hy, hR⟩ := hY (win base i) (red (base + (i : Int))) wr hJ (by rw [win_length]; exact hlt)
        dsimp only [red] at hy
        have h1 : 0 ≤ base % 128 := by omega
        have h2 : base % 128 ≤ 127 := by omega
        by_cases hz : size ≤ 0
        · exfalso; omega
        gi_wp2_with (refine ⟨trivial, ?_⟩; gi_at_call 84; refine (callsIn_wide.2 (reduce_any _ _)).mono ?_; rintro e w' ⟨rfl, rfl⟩)
        all_goals
          refine hR.mono ?_
          rintro e W3 (⟨rfl, hJ3, hk3⟩ | ⟨rfl, hJx3⟩)
          · have hc3 : W3.cell? ⟨B0, 0, none⟩ = some (.int .i64 base) := (World.cell?_of_block (a := ⟨B0, 0, none⟩) hk3).trans hc
            gi_wp2
            go_roundw
            case rel => exact ⟨i + 1, by go_num, by omega, hc3, by rw [win_succ]; exact hJ3⟩
            case measure => simp [intOf]; omega
          · gi_wp2
            refine bodyPost_ret (results_none rfl _ _ _) rfl ?_
            exact ⟨⟨_, rfl⟩, .inr ⟨win base i ++ [red (base + (i : Int))], by rw [← win_succ]; exact win_prefix base hlt, hJx3⟩⟩
      · gi_wp2
        go_end0
        exact ⟨⟨_, rfl⟩, .inl ⟨_, by rw [show winLen size = i by omega], hJ⟩⟩

set_option maxHeartbeats 1000000 in
/-- window.Each boxes its two numbers; the function value captures the boxes. -/
theorem each_in (base size : Int) (w : World) :
    Calls Tryz.prog 68 #[.int .i64 base, .int .i64 size] w fun e w' =>
      e = .returned (.func (.func 89) #[] #[.pointer (some ⟨w.heap.size + 1, 0, none⟩), .pointer (some ⟨w.heap.size, 0, none⟩)]) ∧
      (w.alloc (.cells #[.int .i64 base] 3)).alloc (.cells #[.int .i64 size] 3) = w' := by
  go_enter Tryz.func68, Tryz.ntmps68
  go_wp2
  go_ret
  exact ⟨rfl, rfl⟩

/-- The function value gives the numbers of the window in their order, or, where a round says no more, a beginning of them. -/
theorem each_stops (n : Nat) (hn : 1 ≤ n) (B0 B1 : Nat) (base size : Int) (w : World)
    (hb : w.cell? ⟨B0, 0, none⟩ = some (.int .i64 base)) (hs : w.cell? ⟨B1, 0, none⟩ = some (.int .i64 size)) :
    SeqStopsK Fence.wide n Tryz.prog 89 #[.pointer (some ⟨B1, 0, none⟩), .pointer (some ⟨B0, 0, none⟩)] (fun x : N7 => #[Value.int .i64 x.1]) (KeepB B0) (fun ys => ys = win base (winLen size)) (fun pre => pre <+: win base (winLen size)) (winLen size) w :=
  fun l J Jx W hW _ _ hY hJ0 =>
    each1_in n hn l B0 B1 base size J Jx hY W ((hW.cell (p := ⟨B0, 0, none⟩) (block_lt_of_cell hb)).trans hb) ((hW.cell (p := ⟨B1, 0, none⟩) (block_lt_of_cell hs)).trans hs) hJ0

end Go.Proofs.YthmdibagcbbgoaaGreat

namespace Go.Proofs.YthmdibagcbbgoaaGreat
open Go.RowKit

def hasN (l : List Int) (j : Int) : Bool := l.any fun x => x % 128 == j
/-- The 128 cells. -/
def numCells (l : List Int) : Array Value := Array.ofFn (n := 128) fun j => Value.bool (hasN l (j.val : Int))

theorem numCells_size (l : List Int) : (numCells l).size = 128 := by simp [numCells]
theorem numCells_nil : numCells [] = Array.replicate 128 (.bool false) := by
  apply Array.ext
  · simp [numCells]
  · intro i h1 h2; simp [numCells, hasN]
theorem numCells_at (l : List Int) {j : Nat} (h : j < 128) : (numCells l)[j]? = some (.bool (hasN l (j : Int))) := by
  rw [Array.getElem?_eq_getElem (by rw [numCells_size]; exact h)]; simp [numCells]
theorem hasN_snoc (l : List Int) (x j : Int) : hasN (l ++ [x]) j = (hasN l j || x % 128 == j) := by simp [hasN]
theorem numCells_snoc (l : List Int) (x : Int) : numCells (l ++ [x]) = (numCells l).setIfInBounds (x % 128).toNat (.bool true) := by
  apply Array.ext
  · simp [numCells]
  · intro i h1 h2
    rw [Array.getElem_setIfInBounds (by rw [numCells_size]; simpa [numCells] using h1)]
    simp only [numCells, Array.getElem_ofFn, hasN_snoc]
    by_cases h : (x % 128).toNat = i
    · rw [if_pos h]
      have : (x % 128 == (i : Int)) = true := by simp; omega
      rw [this, Bool.or_true]
    · rw [if_neg h]
      have : (x % 128 == (i : Int)) = false := by simp; omega
      rw [this, Bool.or_false]
theorem numCells_one (l : List Int) : (numCells l).all (·.oneCell') = true := by
  rw [Array.all_eq_true_iff_forall_mem]
  intro v hv
  simp only [numCells, Array.mem_ofFn] at hv
  obtain ⟨j, rfl⟩ := hv
  rfl

theorem zero128 : (Tryz.prog.info? 138).map (fun i => (i.zero, i.size)) = some (some (.agg (Array.replicate 128 (.bool false))), 128) := by kernel_rfl
theorem under128 : Tryz.prog.underlying 138 = some (.array 128 4) := by kernel_rfl
theorem zeroVal128 (w : World) : (zeroValue 138).run Tryz.prog w = .ok (.agg (numCells [])) w := by rw [numCells_nil]; exact (zero_of_info zero128).1 w

set_option maxRecDepth 100000 in
set_option maxHeartbeats 1000000 in
theorem has_any (v : Value) (l : List Int) (w : World) (hr : Reads (Value.int .i64) w v l) :
    Calls Tryz.prog 113 #[v] w fun e w' => e = .returned (.agg (numCells l)) ∧ Below w.heap.size w w' := by
  obtain ⟨hm, ao, cap, rfl, _, hc⟩ := hr
  unfold maxLen at hm
  have hz := zeroVal128
  go_enter Tryz.func113, Tryz.ntmps113
  go_wp2
  go_loopw [5, 8] (fun _ k wr => ∃ i : Nat, i ≤ l.length ∧ k = .int .i64 i ∧ wr = (w.alloc (.cells (numCells []) 138)).alloc (.cells (numCells (l.take i)) 138)) (fun _ k _ => l.length - (intOf k).toNat)
  case atStart => exact ⟨0, by omega, rfl, by simp⟩
  case round =>
    obtain ⟨k, hk, rfl, rfl⟩ := hrel
    by_cases hlt : k < l.length
    · obtain ⟨b, o, x, rfl, hx, hcx⟩ := cell_nth hc hlt
      have hcb := cell_lt hcx
      have h1 : 0 ≤ x % 128 := by omega
      have h2 : x % 128 < 128 := by omega
      have hat := numCells_at (l.take k) (j := (x % 128).toNat) (by omega)
      clear hc
      go_wp2_with (go_at_call 84; refine (reduce_any _ _).mono ?_; rintro e w' ⟨rfl, rfl⟩)
      go_roundw
      case rel => exact ⟨k + 1, by omega, by go_num, by rw [take_snoc' hx.out, numCells_snoc]⟩
      case measure => simp [intOf]; omega
    · obtain rfl : k = l.length := by omega
      clear hc
      rw [List.take_length]
      have hg1 : ((w.alloc (.cells (numCells []) 138)).alloc (.cells (numCells l) 138)).heap[w.heap.size + 1]? = some (.cells (numCells l) 138 (0, 0)) := heap_alloc2_new _ _ _
      have hg0 : ((w.alloc (.cells (numCells []) 138)).alloc (.cells (numCells l) 138)).heap[w.heap.size]? = some (.cells (numCells []) 138 (0, 0)) := heap_alloc2_old _ _ _
      have hi : (Tryz.prog.info? 138).map (·.size) = some (numCells l).size := by rw [numCells_size]; exact (zero_of_info zero128).2
      have H1 := Lib.hid hg1
      have H0 := Lib.hid hg0
      have HI := Lib.hid hi
      clear hg1 hg0 hi
      go_wp2_with (first | (refine wpList_load_row rfl 138 _ rfl (w.heap.size + 1) rfl 138 (numCells l) (0, 0) _ H1.out under128 rfl HI.out ?_) | (refine wpList_store_row rfl 138 _ _ rfl w.heap.size (numCells l) rfl rfl 138 (numCells []) H0.out HI.out (by rw [numCells_size, numCells_size]) (numCells_one l) ?_))
      exact bodyPost_ret (v := .agg (numCells l)) (results_cell_row rfl _ _ w.heap.size 138 (numCells l) (0, 0) _ rfl (setRow_heap _ _ _ _ _ _ H0.out) under128 rfl HI.out) rfl
        ⟨rfl, below_setRow' (((Below.refl _ w).alloc (Nat.le_refl _) _).alloc (by simp) _) (Nat.le_refl _) _⟩

end Go.Proofs.YthmdibagcbbgoaaGreat

namespace Go.Proofs.YthmdibagcbbgoaaGreat
open Go.RowKit

theorem ownsRow_mono {w : World} {b0 b1 : Nat} {e : TypeId} {s : Nat} {v : Value} {n : Nat} {xs : List Value} (h : w.ownsRow b1 e s v n xs) (hle : b0 ≤ b1) : w.ownsRow b0 e s v n xs := by
  refine ⟨h.1, ?_⟩
  rcases h.2 with h2 | ⟨g, cap, cur, hv, hb, r⟩
  · exact .inl h2
  · exact .inr ⟨g, cap, cur, hv, by omega, r⟩

/-- 'out = append(out, x)' where out lies in a box ahead of the rows: all that a walk owes. -/
theorem boxed_app {W w1 : World} {n₁ n₀ B : Nat} {t e : TypeId} {size : Nat} {v v' : Value} {k m : Nat} {xs ys : List Value} {tmp : Obj}
    (hv : Boxed W B t v) (hte : t ≠ e) (hrow : W.ownsRow n₁ e size v k xs) (hn0 : n₀ ≤ B) (hBn : B < n₁)
    (hown' : w1.ownsRow n₁ e size v' m ys) (hgrow : (W.alloc tmp).grownBy w1 v.ownBlock) :
    Boxed w1 B t v ∧ Boxed (w1.setCell ⟨B, 0, none⟩ v') B t v' ∧ (w1.setCell ⟨B, 0, none⟩ v').ownsRow n₁ e size v' m ys ∧ KeepsOthers W (w1.setCell ⟨B, 0, none⟩ v') ∧ Below n₀ W (w1.setCell ⟨B, 0, none⟩ v') ∧
      (∀ K, K < n₁ → K < W.heap.size → K ≠ B → (w1.setCell ⟨B, 0, none⟩ v').heap[K]? = W.heap[K]?) := by
  obtain ⟨a, b, _, d, f⟩ := hv.appended (n₀ := n₀) hte (ownsRow_mono hrow (by omega)) (by have := hv.lt; omega) hn0 (ownsRow_mono hown' (by omega)) hgrow
  refine ⟨a, b, hown'.kept (grownBy_setCell' w1 B v') (.inr (a.not_row hte hown').symm), d, f, fun K h1 h2 h3 => ?_⟩
  rw [Below.heap_setCell _ _ _ _ h3]
  refine (hgrow.block K (by simp; omega) ?_).trans (Below.heap_alloc _ _ _ h2)
  intro hK
  have := (hrow.lt K hK.symm).1
  omega

/-- A whole array into a block of its size, inside a fence. -/
theorem wpListIn_store_row {F : Fence} {n : Nat} {P : Program} {ops : Array Oper} {rest : List Oper} {o : Oper} {a : Act} {w : World} {Q : Exit → Act → World → Prop} (hgd : o.guard = none) (ty : TypeId) (x y : Operand) (ho : o.op = .store ty x y)
    (g : Nat) (cells : Array Value) (hx : a.eval x = .pointer (some ⟨g, 0, none⟩)) (hy : a.eval y = .agg cells)
    (t : TypeId) (old : Array Value) (hg : w.heap[g]? = some (.cells old t (0, 0))) (hi : (P.info? ty).map (·.size) = some cells.size)
    (hold : old.size = cells.size) (h1 : cells.all (·.oneCell') = true)
    (h : wpListIn F n P ops Q rest (a.put o.dst undef) (w.setRow g cells)) : wpListIn F n P ops Q (o :: rest) a w := by
  refine wpListIn_plain hgd fun K hK' => ?_
  unfold Oper.wpIn
  refine ⟨?_, ?_⟩
  · simp [Oper.about, ho]
  · rw [Oper.semAt_plain F _ _ (by rw [ho]; intro c hc'; cases hc')]
    simp only [execOp, ho, hx, hy, Instr.storeAt, Instr.sureAddr, Sem.run_bind, Sem.run_pure, Result.andThen_ok, run_storeVar_row w g t ty old cells hg hi hold h1]
    exact hK' _ _ h
/-- A whole array out of a block, inside a fence. -/
theorem wpListIn_load_row {F : Fence} {n : Nat} {P : Program} {ops : Array Oper} {rest : List Oper} {o : Oper} {a : Act} {w : World} {Q : Exit → Act → World → Prop} (hgd : o.guard = none) (ty : TypeId) (x : Operand) (ho : o.op = .load ty x)
    (g : Nat) (hx : a.eval x = .pointer (some ⟨g, 0, none⟩)) (t : TypeId) (cs : Array Value) (fr : Nat × Nat) (d : TypeDesc) (hg : w.heap[g]? = some (.cells cs t fr))
    (hu : P.underlying ty = some d) (hd : (match d with | .struct _ | .array _ _ => true | _ => false) = true) (hi : (P.info? ty).map (·.size) = some cs.size)
    (h : wpListIn F n P ops Q rest (a.put o.dst (.agg cs)) w) : wpListIn F n P ops Q (o :: rest) a w := by
  refine wpListIn_plain hgd fun K hK' => ?_
  unfold Oper.wpIn
  refine ⟨?_, ?_⟩
  · simp [Oper.about, ho]
  · rw [Oper.semAt_plain F _ _ (by rw [ho]; intro c hc'; cases hc')]
    simp only [execOp, ho, hx, Instr.loadAt, Instr.sureAddr, Sem.run_bind, Sem.run_pure, Result.andThen_ok, run_loadVar_row w g t ty cs fr d hg hu hd hi]
    exact hK' _ _ h

theorem cells_own {β : Type} (B : Nat) (o : β → Obj) (ho : ∀ s, (o s).isCells = true) : Own (fun (s : β) W => W.heap[B]? = some (o s)) := fun s X Y row hs hg hrow => by
  refine (hg.block B (Array.getElem?_eq_some_iff.1 hs).1 (fun e' => ?_)).trans hs
  obtain ⟨o', ho', hc⟩ := hrow B e'.symm
  rw [hs] at ho'; cases ho'; rw [ho] at hc; cases hc

end Go.Proofs.YthmdibagcbbgoaaGreat

namespace Go.Proofs.YthmdibagcbbgoaaGreat
open Go.RowKit Go.Shelf
attribute [local go_sem] Oper.semAt_some

theorem infoInt : (Tryz.prog.info? 3).map (fun i => (i.zero, i.size, i.bytes)) = some (some (.int .i64 0), 1, 8) := by kernel_rfl

/-- What Sort has gathered. -/
def sorted (l : List Int) (ys : List N7) : List Int := (ys.filter fun x => hasN l x.1).map (·.1)
theorem sorted_hit (l : List Int) (pre : List N7) {x : N7} (h : hasN l x.1 = true) : sorted l (pre ++ [x]) = sorted l pre ++ [x.1] := by simp [sorted, h]
theorem sorted_miss (l : List Int) (pre : List N7) {x : N7} (h : hasN l x.1 = false) : sorted l (pre ++ [x]) = sorted l pre := by simp [sorted, h]
theorem sorted_le (l : List Int) (pre : List N7) : (sorted l pre).length ≤ pre.length := by unfold sorted; rw [List.length_map]; exact List.length_filter_le _ _

set_option maxRecDepth 100000 in
set_option maxHeartbeats 1000000 in
theorem sort_any (base : Int) (v : Value) (l : List Int) (w : World) (hr : Reads (Value.int .i64) w v l) :
    Calls Tryz.prog 112 #[.int .i64 base, v] w fun e w' => ∃ u, e = .returned u ∧
      w'.ownsRow w.heap.size 3 1 u (sorted l (win base 128)).length ((sorted l (win base 128)).map (Value.int .i64)) ∧ Below w.heap.size w w' := by
  obtain ⟨i0, hi, hz0, hz1, hz2⟩ := info_parts infoInt
  have hz := zeroVal128
  refine (callsIn_wide (n := 9)).1 ?_
  refine callsIn_of_wp_marks Tryz.func112 rfl trivial ?_ rfl
  simp only [Tryz.ntmps112, List.size_toArray, List.length_cons, List.length_nil, Nat.reduceAdd, Nat.reduceSub, Array.replicate_succ, Array.replicate_zero, List.push_toArray, List.append_toArray, List.nil_append, List.cons_append]
  have HI : Hid ((Tryz.prog.info? 138).map (·.size) = some (numCells l).size) := by rw [numCells_size]; exact (zero_of_info zero128).2
  gi_wp2_with fail
  refine ⟨trivial, ?_⟩
  refine (callsIn_wide.2 (has_any v l _ hr)).mono ?_
  rintro e w1 ⟨rfl, hb1⟩
  gi_wp2_with (refine wpListIn_store_row rfl 138 _ _ rfl _ (numCells l) rfl rfl 138 (numCells []) (heap_alloc_new _ _) HI.out (by rw [numCells_size, numCells_size]) (numCells_one l) ?_)
  rw [World.setRow_alloc_new]
  refine ⟨trivial, ?_⟩
  refine (callsIn_wide.2 (each_in _ _ _)).mono ?_
  rintro e w' ⟨rfl, rfl⟩
  gi_wp2_with fail
  -- the four new blocks: which numbers are there, what is gathered, the window's base, its size
  obtain ⟨W0, hW0⟩ : ∃ W0, (((w1.alloc (.cells (numCells l) 138)).alloc (.cells #[.slice none 0 0] 33)).alloc (.cells #[.int .i64 base] 3)).alloc (.cells #[.int .i64 128] 3) = W0 := ⟨_, rfl⟩
  have bI : W0.heap[w1.heap.size]? = some (.cells (numCells l) 138 (0, 0)) := by
    subst hW0; exact (Below.heap_alloc _ _ _ (by simp; omega)).trans ((Below.heap_alloc _ _ _ (by simp; omega)).trans ((Below.heap_alloc _ _ _ (by simp)).trans (heap_alloc_new _ _)))
  have bO : Boxed W0 (w1.heap.size + 1) 33 (.slice none 0 0) := by
    subst hW0; have := Boxed.new (w1.alloc (.cells (numCells l) 138)) 33 (.slice none 0 0); rw [World.size_alloc] at this; exact (this.alloc _).alloc _
  have bB : Boxed W0 (w1.heap.size + 2) 3 (.int .i64 base) := by
    subst hW0; have := Boxed.new ((w1.alloc (.cells (numCells l) 138)).alloc (.cells #[.slice none 0 0] 33)) 3 (.int .i64 base); rw [World.size_alloc, World.size_alloc] at this; exact this.alloc _
  have bS : Boxed W0 (w1.heap.size + 3) 3 (.int .i64 128) := by
    subst hW0; have := Boxed.new (((w1.alloc (.cells (numCells l) 138)).alloc (.cells #[.slice none 0 0] 33)).alloc (.cells #[.int .i64 base] 3)) 3 (.int .i64 128); rw [World.size_alloc, World.size_alloc, World.size_alloc] at this; exact this
  have hsz : W0.heap.size = w1.heap.size + 4 := by subst hW0; simp
  have hB0 : Below w.heap.size w W0 := by
    subst hW0; have := hb1.size; exact (((hb1.alloc (by omega) _).alloc (by simp; omega) _).alloc (by simp; omega) _).alloc (by simp; omega) _
  have hle1 := hb1.size
  rw [hW0]
  clear hW0 hb1 hr HI hz
  refine wpIn_rangeFunc_ownG rfl (by decide) (gf := 89) (lb := #[.pointer (some ⟨w1.heap.size + 3, 0, none⟩), .pointer (some ⟨w1.heap.size + 2, 0, none⟩)]) rfl trivial (enters_of Tryz.func89 (by kernel_rfl) rfl)
    (each_stops 8 (by decide) (w1.heap.size + 2) (w1.heap.size + 3) base 128 W0 bB.cell bS.cell) KeepB.trans (keepB_put (by omega)) (Below.refl _ _) (fun _ => rfl)
    (fun pre W => (∃ u, Boxed W (w1.heap.size + 1) 33 u ∧ W.ownsRow W0.heap.size 3 1 u (sorted l pre).length ((sorted l pre).map (Value.int .i64)) ∧ True) ∧ W.heap[w1.heap.size]? = some (.cells (numCells l) 138 (0, 0)) ∧ Below w.heap.size w W ∧ W0.heap.size ≤ W.heap.size)
    (fun _ _ _ => False)
    (OwnFrom.and (Own.from (holdsRow_own W0.heap.size (w1.heap.size + 1) 33 3 1 (fun pre => (sorted l pre).length) (fun pre => (sorted l pre).map (Value.int .i64)) (fun _ _ => True)) _)
      (OwnFrom.and (Own.from (cells_own _ (fun _ => .cells (numCells l) 138 (0, 0)) (fun _ => rfl)) _) (OwnFrom.and (ownFrom_below (Nat.le_refl _) (by omega)) (fun _ _ _ _ hs hg _ => Nat.le_trans hs hg.size))))
    (fun _ _ _ _ _ hs _ _ => hs)
    ⟨⟨_, bO, World.ownsRow_nil _ _ _ _, trivial⟩, bI, hB0, Nat.le_refl _⟩
    (fun x => { tmps := #[Value.int IntKind.i64 base, v, undef, undef, Value.slice none 0 0,
          Value.pointer (some { block := w1.heap.size, off := 0 }),
          Value.pointer (some { block := w1.heap.size + 1, off := 0 }), .int .i64 x.1, v, Value.agg (numCells l),
          Value.int IntKind.i64 base,
          Value.func (Fn.func 89) #[]
            #[Value.pointer (some { block := w1.heap.size + 3, off := 0 }),
              Value.pointer (some { block := w1.heap.size + 2, off := 0 })],
          .int .i64 x.1, undef, undef, undef, undef, undef, undef, undef, undef], defers := [] }) ?assign ?body ?done ?stop
  case assign =>
    intro r x W K hK
    gi_wp2
    exact hK
  case body =>
    rintro r pre x W ⟨⟨u, hv, hrow, _⟩, hI, hB, hz⟩ hlt
    obtain ⟨hx0, hx1⟩ := x.2
    have hc := hv.cell
    have hpl := sorted_le l pre
    have hplw : pre.length < 128 := hlt
    have hcx : W.cell? ⟨w1.heap.size, x.1.toNat, none⟩ = some (.bool (hasN l x.1)) := by
      rw [cell_of_row W _ _ _ _ _ hI, numCells_at l (by omega)]; rw [show ((x.1.toNat : Nat) : Int) = x.1 by omega]
    by_cases hh : hasN l x.1 = true
    · rw [hh] at hcx
      have HH := Lib.hid hh
      clear hh
      gi_wp2_with (gi_at_builtin; refine wpListIn_append_own _ rfl _ _ 33 rfl W0.heap.size 3 i0 (.int .i64 0) 1 8 Tryz.underlying33 hi hz0 hz1 hz2 rfl (by decide) _ _ _ rfl (hrow.alloc _) ⟨W.heap.size, 0, none⟩ 1 1 [.int .i64 x.1] rfl rfl (cell_one_new _ _ _) (by simp [Value.oneCell']) (by unfold maxLen; omega) (by omega) (by simp; omega) ?_; intro v' w2 hown' hgrow _; obtain ⟨g', cap', rfl⟩ := ownsRow_succ hown'; obtain ⟨hv1, hv2, hr2, hk2, hb2, hkk⟩ := boxed_app (n₀ := w.heap.size) hv (by decide) hrow (by omega) (by omega) hown' hgrow; have hc1 := hv1.cell; have hf1 := hv1.frozen)
      exact ⟨hk2.from _, hkk _ (by omega) (by omega) (by omega), ⟨_, hv2, by rw [sorted_hit l pre HH.out]; simpa using hr2, trivial⟩, (hkk _ (by omega) (by omega) (by omega)).trans hI, hB.trans hb2, Nat.le_trans hz hk2.size⟩
    · have hn : hasN l x.1 = false := by simpa using hh
      rw [hn] at hcx
      have HH := Lib.hid hn
      clear hh hn
      gi_wp2
      exact ⟨KeepsFrom.refl _ _, rfl, ⟨u, hv, by rw [sorted_miss l pre HH.out]; exact hrow, trivial⟩, hI, hB, hz⟩
  case done =>
    rintro D ys W hD hys ⟨⟨u, hv, hrow, _⟩, hI, hB, hz⟩ hK
    rw [winLen128] at hys
    subst hys
    have hc := hv.cell
    gi_wp2
    refine ⟨by simp, .inl ⟨_, _, rfl, run_takeDeferred hK, ?_⟩⟩
    exact ⟨_, results_tmp rfl _ _ _, u, rfl, ownsRow_mono (ownsRow_putObj hrow _ hK rfl) (by omega), hB.trans (belowK_b (w := w) (Nat.le_refl _) W D _ _ (by omega) hK rfl rfl)⟩
  case stop =>
    rintro D c pre W _ _ h _
    exact h.elim

end Go.Proofs.YthmdibagcbbgoaaGreat
