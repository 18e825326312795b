/- Facts on boxes (a variable that a loop body captures) and on rows that a call owns. No program in sight. The contract of window.Sort, for whatever numbers. The contract of window.Missing, for whatever numbers. Conditions: as they stand. -/
import Derived.RangeFuncNested
import Derived.Maps.AppendAt
import Derived.OwnWalkIn
import Derived.Test.YthmdibagcbbgoaaM00
import Derived.RangeFuncBound
import Derived.RangeFuncCalls
import Derived.RangeFuncLeaves
import Derived.Shelf.Abstract
import Derived.Shelf.RegionOpen
import Derived.WalkKit
import Derived.TacticsInMore
import Derived.LoopNIn
import Derived.LoopIn
import Derived.Lib.Hide
import Derived.Test.YthmdibagcbbgoaaM04
namespace Go.Proofs.Ythmdibagcbbgoaa
open Go.RowKit

theorem ownsRow_mono {w : World} {b0 b1 : Nat} {e : TypeId} {s : Nat} {v : Value} {n : Nat} {xs : List Value} (h : w.ownsRow b1 e s v n xs) (hle : b0 ≤ b1) : w.ownsRow b0 e s v n xs := by
  refine ⟨h.1, ?_⟩
  rcases h.2 with h2 | ⟨g, cap, cur, hv, hb, r⟩
  · exact .inl h2
  · exact .inr ⟨g, cap, cur, hv, by omega, r⟩

/-- 'out = append(out, x)' where out lies in a box ahead of the rows: all that a walk owes. -/
theorem boxed_app {W w1 : World} {n₁ n₀ B : Nat} {t e : TypeId} {size : Nat} {v v' : Value} {k m : Nat} {xs ys : List Value} {tmp : Obj}
    (hv : Boxed W B t v) (hte : t ≠ e) (hrow : W.ownsRow n₁ e size v k xs) (hn0 : n₀ ≤ B) (hBn : B < n₁)
    (hown' : w1.ownsRow n₁ e size v' m ys) (hgrow : (W.alloc tmp).grownBy w1 v.ownBlock) :
    Boxed w1 B t v ∧ Boxed (w1.setCell ⟨B, 0, none⟩ v') B t v' ∧ (w1.setCell ⟨B, 0, none⟩ v').ownsRow n₁ e size v' m ys ∧ KeepsOthers W (w1.setCell ⟨B, 0, none⟩ v') ∧ Below n₀ W (w1.setCell ⟨B, 0, none⟩ v') ∧
      (∀ K, K < n₁ → K < W.heap.size → K ≠ B → (w1.setCell ⟨B, 0, none⟩ v').heap[K]? = W.heap[K]?) := by
  obtain ⟨a, b, _, d, f⟩ := hv.appended (n₀ := n₀) hte (ownsRow_mono hrow (by omega)) (by have := hv.lt; omega) hn0 (ownsRow_mono hown' (by omega)) hgrow
  refine ⟨a, b, hown'.kept (grownBy_setCell' w1 B v') (.inr (a.not_row hte hown').symm), d, f, fun K h1 h2 h3 => ?_⟩
  rw [Below.heap_setCell _ _ _ _ h3]
  refine (hgrow.block K (by simp; omega) ?_).trans (Below.heap_alloc _ _ _ h2)
  intro hK
  have := (hrow.lt K hK.symm).1
  omega

/-- A whole array into a block of its size, inside a fence. -/
theorem wpListIn_store_row {F : Fence} {n : Nat} {P : Program} {ops : Array Oper} {rest : List Oper} {o : Oper} {a : Act} {w : World} {Q : Exit → Act → World → Prop} (hgd : o.guard = none) (ty : TypeId) (x y : Operand) (ho : o.op = .store ty x y)
    (g : Nat) (cells : Array Value) (hx : a.eval x = .pointer (some ⟨g, 0, none⟩)) (hy : a.eval y = .agg cells)
    (t : TypeId) (old : Array Value) (hg : w.heap[g]? = some (.cells old t (0, 0))) (hi : (P.info? ty).map (·.size) = some cells.size)
    (hold : old.size = cells.size) (h1 : cells.all (·.oneCell') = true)
    (h : wpListIn F n P ops Q rest (a.put o.dst undef) (w.setRow g cells)) : wpListIn F n P ops Q (o :: rest) a w := by
  refine wpListIn_plain hgd fun K hK' => ?_
  unfold Oper.wpIn
  refine ⟨?_, ?_⟩
  · simp [Oper.about, ho]
  · rw [Oper.semAt_plain F _ _ (by rw [ho]; intro c hc'; cases hc')]
    simp only [execOp, ho, hx, hy, Instr.storeAt, Instr.sureAddr, Sem.run_bind, Sem.run_pure, Result.andThen_ok, run_storeVar_row w g t ty old cells hg hi hold h1]
    exact hK' _ _ h
/-- A whole array out of a block, inside a fence. -/
theorem wpListIn_load_row {F : Fence} {n : Nat} {P : Program} {ops : Array Oper} {rest : List Oper} {o : Oper} {a : Act} {w : World} {Q : Exit → Act → World → Prop} (hgd : o.guard = none) (ty : TypeId) (x : Operand) (ho : o.op = .load ty x)
    (g : Nat) (hx : a.eval x = .pointer (some ⟨g, 0, none⟩)) (t : TypeId) (cs : Array Value) (fr : Nat × Nat) (d : TypeDesc) (hg : w.heap[g]? = some (.cells cs t fr))
    (hu : P.underlying ty = some d) (hd : (match d with | .struct _ | .array _ _ => true | _ => false) = true) (hi : (P.info? ty).map (·.size) = some cs.size)
    (h : wpListIn F n P ops Q rest (a.put o.dst (.agg cs)) w) : wpListIn F n P ops Q (o :: rest) a w := by
  refine wpListIn_plain hgd fun K hK' => ?_
  unfold Oper.wpIn
  refine ⟨?_, ?_⟩
  · simp [Oper.about, ho]
  · rw [Oper.semAt_plain F _ _ (by rw [ho]; intro c hc'; cases hc')]
    simp only [execOp, ho, hx, Instr.loadAt, Instr.sureAddr, Sem.run_bind, Sem.run_pure, Result.andThen_ok, run_loadVar_row w g t ty cs fr d hg hu hd hi]
    exact hK' _ _ h

theorem cells_own {β : Type} (B : Nat) (o : β → Obj) (ho : ∀ s, (o s).isCells = true) : Own (fun (s : β) W => W.heap[B]? = some (o s)) := fun s X Y row hs hg hrow => by
  refine (hg.block B (Array.getElem?_eq_some_iff.1 hs).1 (fun e' => ?_)).trans hs
  obtain ⟨o', ho', hc⟩ := hrow B e'.symm
  rw [hs] at ho'; cases ho'; rw [ho] at hc; cases hc

end Go.Proofs.Ythmdibagcbbgoaa

namespace Go.Proofs.Ythmdibagcbbgoaa
open Go.RowKit Go.Shelf
attribute [local go_sem] Oper.semAt_some

theorem infoInt : (Try.prog.info? 3).map (fun i => (i.zero, i.size, i.bytes)) = some (some (.int .i64 0), 1, 8) := by kernel_rfl

/-- What Sort has gathered. -/
def sorted (l : List Int) (ys : List N7) : List Int := (ys.filter fun x => hasN l x.1).map (·.1)
theorem sorted_hit (l : List Int) (pre : List N7) {x : N7} (h : hasN l x.1 = true) : sorted l (pre ++ [x]) = sorted l pre ++ [x.1] := by simp [sorted, h]
theorem sorted_miss (l : List Int) (pre : List N7) {x : N7} (h : hasN l x.1 = false) : sorted l (pre ++ [x]) = sorted l pre := by simp [sorted, h]
theorem sorted_le (l : List Int) (pre : List N7) : (sorted l pre).length ≤ pre.length := by unfold sorted; rw [List.length_map]; exact List.length_filter_le _ _

set_option maxRecDepth 100000 in
set_option maxHeartbeats 1000000 in
theorem sort_any (base : Int) (v : Value) (l : List Int) (w : World) (hr : Reads (Value.int .i64) w v l) :
    Calls Try.prog 75 #[.int .i64 base, v] w fun e w' => ∃ u, e = .returned u ∧
      w'.ownsRow w.heap.size 3 1 u (sorted l (win base 128)).length ((sorted l (win base 128)).map (Value.int .i64)) ∧ Below w.heap.size w w' := by
  obtain ⟨i0, hi, hz0, hz1, hz2⟩ := info_parts infoInt
  have hz := zeroVal128
  refine (callsIn_wide (n := 9)).1 ?_
  refine callsIn_of_wp_marks Try.func75 rfl trivial ?_ rfl
  simp only [Try.ntmps75, List.size_toArray, List.length_cons, List.length_nil, Nat.reduceAdd, Nat.reduceSub, Array.replicate_succ, Array.replicate_zero, List.push_toArray, List.append_toArray, List.nil_append, List.cons_append]
  have HI : Hid ((Try.prog.info? 121).map (·.size) = some (numCells l).size) := by rw [numCells_size]; exact (zero_of_info zero128).2
  gi_wp2_with fail
  refine ⟨trivial, ?_⟩
  refine (callsIn_wide.2 (has_any v l _ hr)).mono ?_
  rintro e w1 ⟨rfl, hb1⟩
  gi_wp2_with (refine wpListIn_store_row rfl 121 _ _ rfl _ (numCells l) rfl rfl 121 (numCells []) (heap_alloc_new _ _) HI.out (by rw [numCells_size, numCells_size]) (numCells_one l) ?_)
  rw [World.setRow_alloc_new]
  refine ⟨trivial, ?_⟩
  refine (callsIn_wide.2 (each_in _ _ _)).mono ?_
  rintro e w' ⟨rfl, rfl⟩
  gi_wp2_with fail
  -- the four new blocks: which numbers are there, what is gathered, the window's base, its size
  obtain ⟨W0, hW0⟩ : ∃ W0, (((w1.alloc (.cells (numCells l) 121)).alloc (.cells #[.slice none 0 0] 57)).alloc (.cells #[.int .i64 base] 3)).alloc (.cells #[.int .i64 128] 3) = W0 := ⟨_, rfl⟩
  have bI : W0.heap[w1.heap.size]? = some (.cells (numCells l) 121 (0, 0)) := by
    subst hW0; exact (Below.heap_alloc _ _ _ (by simp; omega)).trans ((Below.heap_alloc _ _ _ (by simp; omega)).trans ((Below.heap_alloc _ _ _ (by simp)).trans (heap_alloc_new _ _)))
  have bO : Boxed W0 (w1.heap.size + 1) 57 (.slice none 0 0) := by
    subst hW0; have := Boxed.new (w1.alloc (.cells (numCells l) 121)) 57 (.slice none 0 0); rw [World.size_alloc] at this; exact (this.alloc _).alloc _
  have bB : Boxed W0 (w1.heap.size + 2) 3 (.int .i64 base) := by
    subst hW0; have := Boxed.new ((w1.alloc (.cells (numCells l) 121)).alloc (.cells #[.slice none 0 0] 57)) 3 (.int .i64 base); rw [World.size_alloc, World.size_alloc] at this; exact this.alloc _
  have bS : Boxed W0 (w1.heap.size + 3) 3 (.int .i64 128) := by
    subst hW0; have := Boxed.new (((w1.alloc (.cells (numCells l) 121)).alloc (.cells #[.slice none 0 0] 57)).alloc (.cells #[.int .i64 base] 3)) 3 (.int .i64 128); rw [World.size_alloc, World.size_alloc, World.size_alloc] at this; exact this
  have hsz : W0.heap.size = w1.heap.size + 4 := by subst hW0; simp
  have hB0 : Below w.heap.size w W0 := by
    subst hW0; have := hb1.size; exact (((hb1.alloc (by omega) _).alloc (by simp; omega) _).alloc (by simp; omega) _).alloc (by simp; omega) _
  have hle1 := hb1.size
  rw [hW0]
  clear hW0 hb1 hr HI hz
  refine wpIn_rangeFunc_ownG rfl (by decide) (gf := 62) (lb := #[.pointer (some ⟨w1.heap.size + 3, 0, none⟩), .pointer (some ⟨w1.heap.size + 2, 0, none⟩)]) rfl trivial (enters_of Try.func62 (by kernel_rfl) rfl)
    (each_stops 8 (by decide) (w1.heap.size + 2) (w1.heap.size + 3) base 128 W0 bB.cell bS.cell) KeepB.trans (keepB_put (by omega)) (Below.refl _ _) (fun _ => rfl)
    (fun pre W => (∃ u, Boxed W (w1.heap.size + 1) 57 u ∧ W.ownsRow W0.heap.size 3 1 u (sorted l pre).length ((sorted l pre).map (Value.int .i64)) ∧ True) ∧ W.heap[w1.heap.size]? = some (.cells (numCells l) 121 (0, 0)) ∧ Below w.heap.size w W ∧ W0.heap.size ≤ W.heap.size)
    (fun _ _ _ => False)
    (OwnFrom.and (Own.from (holdsRow_own W0.heap.size (w1.heap.size + 1) 57 3 1 (fun pre => (sorted l pre).length) (fun pre => (sorted l pre).map (Value.int .i64)) (fun _ _ => True)) _)
      (OwnFrom.and (Own.from (cells_own _ (fun _ => .cells (numCells l) 121 (0, 0)) (fun _ => rfl)) _) (OwnFrom.and (ownFrom_below (Nat.le_refl _) (by omega)) (fun _ _ _ _ hs hg _ => Nat.le_trans hs hg.size))))
    (fun _ _ _ _ _ hs _ _ => hs)
    ⟨⟨_, bO, World.ownsRow_nil _ _ _ _, trivial⟩, bI, hB0, Nat.le_refl _⟩
    (fun x => { tmps := #[Value.int IntKind.i64 base, v, undef, undef, Value.slice none 0 0,
          Value.pointer (some { block := w1.heap.size, off := 0 }),
          Value.pointer (some { block := w1.heap.size + 1, off := 0 }), .int .i64 x.1, v, Value.agg (numCells l),
          Value.int IntKind.i64 base,
          Value.func (Fn.func 62) #[]
            #[Value.pointer (some { block := w1.heap.size + 3, off := 0 }),
              Value.pointer (some { block := w1.heap.size + 2, off := 0 })],
          .int .i64 x.1, undef, undef, undef, undef, undef, undef, undef, undef], defers := [] }) ?assign ?body ?done ?stop
  case assign =>
    intro r x W K hK
    gi_wp2
    exact hK
  case body =>
    rintro r pre x W ⟨⟨u, hv, hrow, _⟩, hI, hB, hz⟩ hlt
    obtain ⟨hx0, hx1⟩ := x.2
    have hc := hv.cell
    have hpl := sorted_le l pre
    have hplw : pre.length < 128 := hlt
    have hcx : W.cell? ⟨w1.heap.size, x.1.toNat, none⟩ = some (.bool (hasN l x.1)) := by
      rw [cell_of_row W _ _ _ _ _ hI, numCells_at l (by omega)]; rw [show ((x.1.toNat : Nat) : Int) = x.1 by omega]
    by_cases hh : hasN l x.1 = true
    · rw [hh] at hcx
      have HH := Lib.hid hh
      clear hh
      gi_wp2_with (gi_at_builtin; refine wpListIn_append_own _ rfl _ _ 57 rfl W0.heap.size 3 i0 (.int .i64 0) 1 8 Try.underlying57 hi hz0 hz1 hz2 rfl (by decide) _ _ _ rfl (hrow.alloc _) ⟨W.heap.size, 0, none⟩ 1 1 [.int .i64 x.1] rfl rfl (cell_one_new _ _ _) (by simp [Value.oneCell']) (by unfold maxLen; omega) (by omega) (by simp; omega) ?_; intro v' w2 hown' hgrow _; obtain ⟨g', cap', rfl⟩ := ownsRow_succ hown'; obtain ⟨hv1, hv2, hr2, hk2, hb2, hkk⟩ := boxed_app (n₀ := w.heap.size) hv (by decide) hrow (by omega) (by omega) hown' hgrow; have hc1 := hv1.cell; have hf1 := hv1.frozen)
      exact ⟨hk2.from _, hkk _ (by omega) (by omega) (by omega), ⟨_, hv2, by rw [sorted_hit l pre HH.out]; simpa using hr2, trivial⟩, (hkk _ (by omega) (by omega) (by omega)).trans hI, hB.trans hb2, Nat.le_trans hz hk2.size⟩
    · have hn : hasN l x.1 = false := by simpa using hh
      rw [hn] at hcx
      have HH := Lib.hid hn
      clear hh hn
      gi_wp2
      exact ⟨KeepsFrom.refl _ _, rfl, ⟨u, hv, by rw [sorted_miss l pre HH.out]; exact hrow, trivial⟩, hI, hB, hz⟩
  case done =>
    rintro D ys W hD hys ⟨⟨u, hv, hrow, _⟩, hI, hB, hz⟩ hK
    rw [winLen128] at hys
    subst hys
    have hc := hv.cell
    gi_wp2
    refine ⟨by simp, .inl ⟨_, _, rfl, run_takeDeferred hK, ?_⟩⟩
    exact ⟨_, results_tmp rfl _ _ _, u, rfl, ownsRow_mono (ownsRow_putObj hrow _ hK rfl) (by omega), hB.trans (belowK_b (w := w) (Nat.le_refl _) W D _ _ (by omega) hK rfl rfl)⟩
  case stop =>
    rintro D c pre W _ _ h _
    exact h.elim

end Go.Proofs.Ythmdibagcbbgoaa

namespace Go.Proofs.Ythmdibagcbbgoaa
open Go.RowKit Go.Shelf
attribute [local go_sem] Oper.semAt_some

theorem winLen_way (d : Int) : winLen (d % 128) = (d % 128).toNat := by unfold winLen; omega

/-- What Missing has gathered. -/
def missed (l : List Int) (ys : List N7) : List Int := (ys.filter fun x => !hasN l x.1).map (·.1)
theorem missed_hit (l : List Int) (pre : List N7) {x : N7} (h : hasN l x.1 = false) : missed l (pre ++ [x]) = missed l pre ++ [x.1] := by simp [missed, h]
theorem missed_miss (l : List Int) (pre : List N7) {x : N7} (h : hasN l x.1 = true) : missed l (pre ++ [x]) = missed l pre := by simp [missed, h]
theorem missed_le (l : List Int) (pre : List N7) : (missed l pre).length ≤ pre.length := by unfold missed; rw [List.length_map]; exact List.length_filter_le _ _

set_option maxRecDepth 100000 in
set_option maxHeartbeats 1000000 in
theorem missing_any (base to : Int) (v : Value) (l : List Int) (w : World) (hr : Reads (Value.int .i64) w v l) :
    Calls Try.prog 74 #[.int .i64 base, .int .i64 to, v] w fun e w' => ∃ u, e = .returned u ∧
      w'.ownsRow w.heap.size 3 1 u (missed l (win base ((to - base) % 128).toNat)).length ((missed l (win base ((to - base) % 128).toNat)).map (Value.int .i64)) ∧ Below w.heap.size w w' := by
  obtain ⟨i0, hi, hz0, hz1, hz2⟩ := info_parts infoInt
  have hz := zeroVal128
  refine (callsIn_wide (n := 9)).1 ?_
  refine callsIn_of_wp_marks Try.func74 rfl trivial ?_ rfl
  simp only [Try.ntmps74, List.size_toArray, List.length_cons, List.length_nil, Nat.reduceAdd, Nat.reduceSub, Array.replicate_succ, Array.replicate_zero, List.push_toArray, List.append_toArray, List.nil_append, List.cons_append]
  have HI : Hid ((Try.prog.info? 121).map (·.size) = some (numCells l).size) := by rw [numCells_size]; exact (zero_of_info zero128).2
  gi_wp2_with fail
  refine ⟨trivial, ?_⟩
  refine (callsIn_wide.2 (has_any v l _ hr)).mono ?_
  rintro e w1 ⟨rfl, hb1⟩
  gi_wp2_with (refine wpListIn_store_row rfl 121 _ _ rfl _ (numCells l) rfl rfl 121 (numCells []) (heap_alloc_new _ _) HI.out (by rw [numCells_size, numCells_size]) (numCells_one l) ?_)
  rw [World.setRow_alloc_new]
  refine ⟨trivial, ?_⟩
  refine (callsIn_wide.2 (way_any _ _ _)).mono ?_
  rintro e w' ⟨rfl, rfl⟩
  gi_wp2_with fail
  refine ⟨trivial, ?_⟩
  refine (callsIn_wide.2 (each_in _ _ _)).mono ?_
  rintro e w' ⟨rfl, rfl⟩
  gi_wp2_with fail
  -- the four new blocks: which numbers are there, what is gathered, the window's base, its size
  obtain ⟨W0, hW0⟩ : ∃ W0, (((w1.alloc (.cells (numCells l) 121)).alloc (.cells #[.slice none 0 0] 57)).alloc (.cells #[.int .i64 base] 3)).alloc (.cells #[.int .i64 ((to - base) % 128)] 3) = W0 := ⟨_, rfl⟩
  have bI : W0.heap[w1.heap.size]? = some (.cells (numCells l) 121 (0, 0)) := by
    subst hW0; exact (Below.heap_alloc _ _ _ (by simp; omega)).trans ((Below.heap_alloc _ _ _ (by simp; omega)).trans ((Below.heap_alloc _ _ _ (by simp)).trans (heap_alloc_new _ _)))
  have bO : Boxed W0 (w1.heap.size + 1) 57 (.slice none 0 0) := by
    subst hW0; have := Boxed.new (w1.alloc (.cells (numCells l) 121)) 57 (.slice none 0 0); rw [World.size_alloc] at this; exact (this.alloc _).alloc _
  have bB : Boxed W0 (w1.heap.size + 2) 3 (.int .i64 base) := by
    subst hW0; have := Boxed.new ((w1.alloc (.cells (numCells l) 121)).alloc (.cells #[.slice none 0 0] 57)) 3 (.int .i64 base); rw [World.size_alloc, World.size_alloc] at this; exact this.alloc _
  have bS : Boxed W0 (w1.heap.size + 3) 3 ((.int .i64 ((to - base) % 128))) := by
    subst hW0; have := Boxed.new (((w1.alloc (.cells (numCells l) 121)).alloc (.cells #[.slice none 0 0] 57)).alloc (.cells #[.int .i64 base] 3)) 3 ((.int .i64 ((to - base) % 128))); rw [World.size_alloc, World.size_alloc, World.size_alloc] at this; exact this
  have hsz : W0.heap.size = w1.heap.size + 4 := by subst hW0; simp
  have hB0 : Below w.heap.size w W0 := by
    subst hW0; have := hb1.size; exact (((hb1.alloc (by omega) _).alloc (by simp; omega) _).alloc (by simp; omega) _).alloc (by simp; omega) _
  have hle1 := hb1.size
  rw [hW0]
  clear hW0 hb1 hr HI hz
  refine wpIn_rangeFunc_ownG rfl (by decide) (gf := 62) (lb := #[.pointer (some ⟨w1.heap.size + 3, 0, none⟩), .pointer (some ⟨w1.heap.size + 2, 0, none⟩)]) rfl trivial (enters_of Try.func62 (by kernel_rfl) rfl)
    (each_stops 8 (by decide) (w1.heap.size + 2) (w1.heap.size + 3) base ((to - base) % 128) W0 bB.cell bS.cell) KeepB.trans (keepB_put (by omega)) (Below.refl _ _) (fun _ => rfl)
    (fun pre W => (∃ u, Boxed W (w1.heap.size + 1) 57 u ∧ W.ownsRow W0.heap.size 3 1 u (missed l pre).length ((missed l pre).map (Value.int .i64)) ∧ True) ∧ W.heap[w1.heap.size]? = some (.cells (numCells l) 121 (0, 0)) ∧ Below w.heap.size w W ∧ W0.heap.size ≤ W.heap.size)
    (fun _ _ _ => False)
    (OwnFrom.and (Own.from (holdsRow_own W0.heap.size (w1.heap.size + 1) 57 3 1 (fun pre => (missed l pre).length) (fun pre => (missed l pre).map (Value.int .i64)) (fun _ _ => True)) _)
      (OwnFrom.and (Own.from (cells_own _ (fun _ => .cells (numCells l) 121 (0, 0)) (fun _ => rfl)) _) (OwnFrom.and (ownFrom_below (Nat.le_refl _) (by omega)) (fun _ _ _ _ hs hg _ => Nat.le_trans hs hg.size))))
    (fun _ _ _ _ _ hs _ _ => hs)
    ⟨⟨_, bO, World.ownsRow_nil _ _ _ _, trivial⟩, bI, hB0, Nat.le_refl _⟩
    (fun x => { tmps := #[Value.int IntKind.i64 base, .int .i64 to, v, undef, undef, undef, Value.slice none 0 0,
          Value.pointer (some { block := w1.heap.size, off := 0 }),
          Value.pointer (some { block := w1.heap.size + 1, off := 0 }), .int .i64 x.1, v, Value.agg (numCells l),
          Value.int IntKind.i64 base, Value.int IntKind.i64 base, .int .i64 to, .int .i64 ((to - base) % 128),
          Value.func (Fn.func 62) #[]
            #[Value.pointer (some { block := w1.heap.size + 3, off := 0 }),
              Value.pointer (some { block := w1.heap.size + 2, off := 0 })],
          .int .i64 x.1, undef, undef, undef, undef, undef, undef, undef, undef, undef], defers := [] }) ?assign ?body ?done ?stop
  case assign =>
    intro r x W K hK
    gi_wp2
    exact hK
  case body =>
    rintro r pre x W ⟨⟨u, hv, hrow, _⟩, hI, hB, hz⟩ hlt
    obtain ⟨hx0, hx1⟩ := x.2
    have hc := hv.cell
    have hpl := missed_le l pre
    have hplw : pre.length < 128 := Nat.lt_of_lt_of_le hlt (winLen_le _)
    have hcx : W.cell? ⟨w1.heap.size, x.1.toNat, none⟩ = some (.bool (hasN l x.1)) := by
      rw [cell_of_row W _ _ _ _ _ hI, numCells_at l (by omega)]; rw [show ((x.1.toNat : Nat) : Int) = x.1 by omega]
    by_cases hh : hasN l x.1 = false
    · rw [hh] at hcx
      have HH := Lib.hid hh
      clear hh
      gi_wp2_with (gi_at_builtin; refine wpListIn_append_own _ rfl _ _ 57 rfl W0.heap.size 3 i0 (.int .i64 0) 1 8 Try.underlying57 hi hz0 hz1 hz2 rfl (by decide) _ _ _ rfl (hrow.alloc _) ⟨W.heap.size, 0, none⟩ 1 1 [.int .i64 x.1] rfl rfl (cell_one_new _ _ _) (by simp [Value.oneCell']) (by unfold maxLen; omega) (by omega) (by simp; omega) ?_; intro v' w2 hown' hgrow _; obtain ⟨g', cap', rfl⟩ := ownsRow_succ hown'; obtain ⟨hv1, hv2, hr2, hk2, hb2, hkk⟩ := boxed_app (n₀ := w.heap.size) hv (by decide) hrow (by omega) (by omega) hown' hgrow; have hc1 := hv1.cell; have hf1 := hv1.frozen)
      exact ⟨hk2.from _, hkk _ (by omega) (by omega) (by omega), ⟨_, hv2, by rw [missed_hit l pre HH.out]; simpa using hr2, trivial⟩, (hkk _ (by omega) (by omega) (by omega)).trans hI, hB.trans hb2, Nat.le_trans hz hk2.size⟩
    · have hn : hasN l x.1 = true := by simpa using hh
      rw [hn] at hcx
      have HH := Lib.hid hn
      clear hh hn
      gi_wp2
      exact ⟨KeepsFrom.refl _ _, rfl, ⟨u, hv, by rw [missed_miss l pre HH.out]; exact hrow, trivial⟩, hI, hB, hz⟩
  case done =>
    rintro D ys W hD hys ⟨⟨u, hv, hrow, _⟩, hI, hB, hz⟩ hK
    rw [winLen_way] at hys
    subst hys
    have hc := hv.cell
    gi_wp2
    refine ⟨by simp, .inl ⟨_, _, rfl, run_takeDeferred hK, ?_⟩⟩
    exact ⟨_, results_tmp rfl _ _ _, u, rfl, ownsRow_mono (ownsRow_putObj hrow _ hK rfl) (by omega), hB.trans (belowK_b (w := w) (Nat.le_refl _) W D _ _ (by omega) hK rfl rfl)⟩
  case stop =>
    rintro D c pre W _ _ h _
    exact h.elim

end Go.Proofs.Ythmdibagcbbgoaa
