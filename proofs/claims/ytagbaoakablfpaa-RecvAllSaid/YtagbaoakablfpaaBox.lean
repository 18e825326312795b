/- Facts on boxes (a variable that a loop body captures) and on rows that a call owns. No program in sight. Conditions: none. -/
import Derived.RangeFuncNested
import Derived.Maps.AppendAt
import Derived.OwnWalkIn
import Derived.Test.YtagbaoakablfpaaRead
namespace Go.Proofs.Ytagbaoakablfpaa
open Go.RowKit

theorem ownsRow_mono {w : World} {b0 b1 : Nat} {e : TypeId} {s : Nat} {v : Value} {n : Nat} {xs : List Value} (h : w.ownsRow b1 e s v n xs) (hle : b0 ≤ b1) : w.ownsRow b0 e s v n xs := by
  refine ⟨h.1, ?_⟩
  rcases h.2 with h2 | ⟨g, cap, cur, hv, hb, r⟩
  · exact .inl h2
  · exact .inr ⟨g, cap, cur, hv, by omega, r⟩

/-- 'out = append(out, x)' where out lies in a box ahead of the rows: all that a walk owes. -/
theorem boxed_app {W w1 : World} {n₁ n₀ B : Nat} {t e : TypeId} {size : Nat} {v v' : Value} {k m : Nat} {xs ys : List Value} {tmp : Obj}
    (hv : Boxed W B t v) (hte : t ≠ e) (hrow : W.ownsRow n₁ e size v k xs) (hn0 : n₀ ≤ B) (hBn : B < n₁)
    (hown' : w1.ownsRow n₁ e size v' m ys) (hgrow : (W.alloc tmp).grownBy w1 v.ownBlock) :
    Boxed w1 B t v ∧ Boxed (w1.setCell ⟨B, 0, none⟩ v') B t v' ∧ (w1.setCell ⟨B, 0, none⟩ v').ownsRow n₁ e size v' m ys ∧ KeepsOthers W (w1.setCell ⟨B, 0, none⟩ v') ∧ Below n₀ W (w1.setCell ⟨B, 0, none⟩ v') ∧
      (∀ K, K < n₁ → K < W.heap.size → K ≠ B → (w1.setCell ⟨B, 0, none⟩ v').heap[K]? = W.heap[K]?) := by
  obtain ⟨a, b, _, d, f⟩ := hv.appended (n₀ := n₀) hte (ownsRow_mono hrow (by omega)) (by have := hv.lt; omega) hn0 (ownsRow_mono hown' (by omega)) hgrow
  refine ⟨a, b, hown'.kept (grownBy_setCell' w1 B v') (.inr (a.not_row hte hown').symm), d, f, fun K h1 h2 h3 => ?_⟩
  rw [Below.heap_setCell _ _ _ _ h3]
  refine (hgrow.block K (by simp; omega) ?_).trans (Below.heap_alloc _ _ _ h2)
  intro hK
  have := (hrow.lt K hK.symm).1
  omega

/-- A whole array into a block of its size, inside a fence. -/
theorem wpListIn_store_row {F : Fence} {n : Nat} {P : Program} {ops : Array Oper} {rest : List Oper} {o : Oper} {a : Act} {w : World} {Q : Exit → Act → World → Prop} (hgd : o.guard = none) (ty : TypeId) (x y : Operand) (ho : o.op = .store ty x y)
    (g : Nat) (cells : Array Value) (hx : a.eval x = .pointer (some ⟨g, 0, none⟩)) (hy : a.eval y = .agg cells)
    (t : TypeId) (old : Array Value) (hg : w.heap[g]? = some (.cells old t (0, 0))) (hi : (P.info? ty).map (·.size) = some cells.size)
    (hold : old.size = cells.size) (h1 : cells.all (·.oneCell') = true)
    (h : wpListIn F n P ops Q rest (a.put o.dst undef) (w.setRow g cells)) : wpListIn F n P ops Q (o :: rest) a w := by
  refine wpListIn_plain hgd fun K hK' => ?_
  unfold Oper.wpIn
  refine ⟨?_, ?_⟩
  · simp [Oper.about, ho]
  · rw [Oper.semAt_plain F _ _ (by rw [ho]; intro c hc'; cases hc')]
    simp only [execOp, ho, hx, hy, Instr.storeAt, Instr.sureAddr, Sem.run_bind, Sem.run_pure, Result.andThen_ok, run_storeVar_row w g t ty old cells hg hi hold h1]
    exact hK' _ _ h
/-- A whole array out of a block, inside a fence. -/
theorem wpListIn_load_row {F : Fence} {n : Nat} {P : Program} {ops : Array Oper} {rest : List Oper} {o : Oper} {a : Act} {w : World} {Q : Exit → Act → World → Prop} (hgd : o.guard = none) (ty : TypeId) (x : Operand) (ho : o.op = .load ty x)
    (g : Nat) (hx : a.eval x = .pointer (some ⟨g, 0, none⟩)) (t : TypeId) (cs : Array Value) (fr : Nat × Nat) (d : TypeDesc) (hg : w.heap[g]? = some (.cells cs t fr))
    (hu : P.underlying ty = some d) (hd : (match d with | .struct _ | .array _ _ => true | _ => false) = true) (hi : (P.info? ty).map (·.size) = some cs.size)
    (h : wpListIn F n P ops Q rest (a.put o.dst (.agg cs)) w) : wpListIn F n P ops Q (o :: rest) a w := by
  refine wpListIn_plain hgd fun K hK' => ?_
  unfold Oper.wpIn
  refine ⟨?_, ?_⟩
  · simp [Oper.about, ho]
  · rw [Oper.semAt_plain F _ _ (by rw [ho]; intro c hc'; cases hc')]
    simp only [execOp, ho, hx, Instr.loadAt, Instr.sureAddr, Sem.run_bind, Sem.run_pure, Result.andThen_ok, run_loadVar_row w g t ty cs fr d hg hu hd hi]
    exact hK' _ _ h

theorem cells_own {β : Type} (B : Nat) (o : β → Obj) (ho : ∀ s, (o s).isCells = true) : Own (fun (s : β) W => W.heap[B]? = some (o s)) := fun s X Y row hs hg hrow => by
  refine (hg.block B (Array.getElem?_eq_some_iff.1 hs).1 (fun e' => ?_)).trans hs
  obtain ⟨o', ho', hc⟩ := hrow B e'.symm
  rw [hs] at ho'; cases ho'; rw [ho] at hc; cases hc

end Go.Proofs.Ytagbaoakablfpaa
