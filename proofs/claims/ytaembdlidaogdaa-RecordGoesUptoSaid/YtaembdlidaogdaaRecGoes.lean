/- What the walk of RecordGoes wants: an append inside a fence, of whatever reads; frames behind the turn of a block that is no cells. Conditions: none. -/
import Derived.Test.YtaembdlidaogdaaRecEach
import Derived.Test.YtaembdlidaogdaaLawRecFirsts
namespace Go.Proofs.Ytaembdlidaogdaa
open Go.RowKit

theorem wpListIn_append_r {F : Fence} {nF : Nat} {P : Program} (w : World) {ops : Array Oper} {rest : List Oper} {o : Oper} {a : Act} {Q : Exit → Act → World → Prop} (hgd : o.guard = none) (s x : Operand) (t : TypeId)
    (ho : o.op = .call { callee := .builtin .append, args := #[s, x], argTypes := #[t, t] })
    (base : Nat) (e : TypeId) (i : TypeInfo) (z : Value) (bytes : Nat) (ht : P.underlying t = some (.slice e)) (hi : P.info? e = some i) (hz : i.zero = some z)
    (hsize : i.size = 1) (hby : i.bytes = bytes) (hzs : z.cells.size = 1)
    (v : Value) (n : Nat) (xs : List Value) (hs : a.eval s = v) (hown : w.ownsRow base e 1 v n xs)
    {α : Type} (f : α → Value) (u : Value) (ys : List α) (hx : a.eval x = u) (hr : Reads f w u ys) (h1 : ∀ y ∈ ys, (f y).oneCell' = true)
    (h63 : n + ys.length ≤ maxLen) (hbytes : (n + ys.length) * bytes ≤ 140737488355328) (hbase : base ≤ w.heap.size)
    (h : ∀ v' w', w'.ownsRow base e 1 v' (n + ys.length) (xs ++ ys.map f) → w.grownBy w' v.ownBlock → wpListIn F nF P ops Q rest (a.put o.dst v') w') : wpListIn F nF P ops Q (o :: rest) a w := by
  refine wpListIn_plain hgd fun K hK => ?_
  obtain ⟨v', w', hr, h2, h3, _⟩ := run_append_r (P := P) w base t o.type e i z bytes ht hi hz hsize hby hzs v n xs hown f u ys hr h1 h63 hbytes hbase
  unfold Oper.wpIn
  refine ⟨by simp [Oper.about, ho, resolve, Target.leads, Sem.run_pure], ?_⟩
  rw [Oper.semAt_plain F _ _ (by rw [ho]; intro c hc'; cases hc')]
  simp [execOp, ho, resolve, invoke, builtin, hs, hx, hr, Result.andThen]
  exact hK _ _ (h v' w' h2 h3)
theorem fr_turn {F : Nat → Prop} {a b : World} (h : Fr F a b) {l : Nat} (o' : Obj) (hl : a.heap.size ≤ l) : Fr F a (b.putObj l o') :=
  ⟨h.os, h.tape, h.output, by simpa using h.size, fun k hk hn => (World.putObj_heap_other (by omega)).trans (h.block k hk hn)⟩
theorem fr_drewN {F : Nat → Prop} {a b : World} (h : Fr F a b) (n : Nat) : Fr F a (b.drewN n) := h.then_below (bl_drewN (bl_refl _) n)

/-- The first loop: so many were gone over, n says so; all else is as it was. -/
def GoA (W0 : World) (nB : Nat) (k : Int) (A : World) : Prop := Fr (fun j => j = nB) W0 A ∧ A.heap[nB]? = some (.cells #[.int .i64 k] 3 (0, 0))
theorem GoA.bl {W0 : World} {nB : Nat} {k : Int} {A B : World} (h : GoA W0 nB k A) (hb : Below A.heap.size A B) : GoA W0 nB k B := ⟨h.1.then_below hb, bl_get hb h.2⟩
theorem GoA.turn {W0 : World} {nB : Nat} {k : Int} {A : World} (h : GoA W0 nB k A) {l : Nat} {o : Obj} (o' : Obj) (hl : W0.heap.size ≤ l) (hg : A.heap[l]? = some o) (ho : o.isCells = false) : GoA W0 nB k (A.putObj l o') :=
  ⟨fr_turn h.1 _ hl, (World.putObj_heap_other (fun e => by subst e; rw [h.2] at hg; cases hg; cases ho)).trans h.2⟩
theorem GoA.row {W0 : World} {nB : Nat} {k : Int} {A : World} (h : GoA W0 nB k A) {M B : Nat} {ao : Option Addr} {cap : Nat} {row : List Int} (hB : W0.heap[B]? = some (.cells #[.slice ao row.length cap] 22 (0, 0))) (hne : B ≠ nB) (hr : Rd (fun j => j ≠ nB) (Value.int .u8) W0 (.slice ao row.length cap) row) (hM : M ≤ W0.heap.size) : RowIn M B ao cap row A :=
  ⟨Boxed.cell (h.1.get hB hne), (hr.fr h.1 fun _ hj => hj).1, Nat.le_trans hM h.1.size⟩
/-- The second loop: two boxes. -/
def GoB (W0 : World) (kB pB : Nat) (k : Nat) (pl : Nat) (A : World) : Prop := Fr (fun j => j = kB ∨ j = pB) W0 A ∧ A.heap[kB]? = some (.cells #[.int .i64 k] 3 (0, 0)) ∧ A.heap[pB]? = some (.cells #[.int .i64 pl] 3 (0, 0))
theorem GoB.bl {W0 : World} {kB pB k pl : Nat} {A B : World} (h : GoB W0 kB pB k pl A) (hb : Below A.heap.size A B) : GoB W0 kB pB k pl B := ⟨h.1.then_below hb, bl_get hb h.2.1, bl_get hb h.2.2⟩
theorem GoB.turn {W0 : World} {kB pB k pl : Nat} {A : World} (h : GoB W0 kB pB k pl A) {l : Nat} {o : Obj} (o' : Obj) (hl : W0.heap.size ≤ l) (hg : A.heap[l]? = some o) (ho : o.isCells = false) : GoB W0 kB pB k pl (A.putObj l o') :=
  ⟨fr_turn h.1 _ hl, (World.putObj_heap_other (fun e => by subst e; rw [h.2.1] at hg; cases hg; cases ho)).trans h.2.1, (World.putObj_heap_other (fun e => by subst e; rw [h.2.2] at hg; cases hg; cases ho)).trans h.2.2⟩
theorem GoB.row {W0 : World} {kB pB k pl : Nat} {A : World} (h : GoB W0 kB pB k pl A) {M B : Nat} {ao : Option Addr} {cap : Nat} {row : List Int} (hB : W0.heap[B]? = some (.cells #[.slice ao row.length cap] 22 (0, 0))) (h1 : B ≠ kB) (h2 : B ≠ pB) (hr : Rd (fun j => j ≠ kB ∧ j ≠ pB) (Value.int .u8) W0 (.slice ao row.length cap) row) (hM : M ≤ W0.heap.size) : RowIn M B ao cap row A :=
  ⟨Boxed.cell (h.1.get hB (by rintro (h | h); exact h1 h; exact h2 h)), (hr.fr h.1 fun j hj hj2 => by rcases hj2 with e | e; exact hj.1 e; exact hj.2 e).1, Nat.le_trans hM h.1.size⟩

theorem GoA.put {W0 : World} {nB : Nat} {k : Int} {A : World} (h : GoA W0 nB k A) (nq : Nat) (k' : Int) : GoA W0 nB k' ((A.drewN nq).setCell ⟨nB, 0, none⟩ (.int .i64 k')) :=
  ⟨(fr_drewN h.1 nq).setCell (p := ⟨nB, 0, none⟩) (.inl rfl) _, Boxed.set (W := A.drewN nq) _ h.2⟩
theorem keeps_put (b nB nq : Nat) (A : World) (v : Value) : KeepsFrom b A ((A.drewN nq).setCell ⟨nB, 0, none⟩ v) :=
  KeepsFrom.trans (Y := A.drewN nq) ⟨Nat.le_refl _, fun _ _ _ h _ => h⟩ ((KeepsOthers.setCell _ _ _).from _)
theorem GoB.put {W0 : World} {kB pB k pl : Nat} {A : World} (h : GoB W0 kB pB k pl A) (hne : kB ≠ pB) (nq k' pl' : Nat) (x y : Int) (hx : x = (pl' : Int)) (hy : y = (k' : Int)) : GoB W0 kB pB k' pl' (((A.drewN nq).setCell ⟨pB, 0, none⟩ (.int .i64 x)).setCell ⟨kB, 0, none⟩ (.int .i64 y)) := by
  subst hx hy
  have b1 : Boxed (A.drewN nq) kB 3 (.int .i64 k) := h.2.1
  have b2 : Boxed (A.drewN nq) pB 3 (.int .i64 pl) := h.2.2
  exact ⟨((fr_drewN h.1 nq).setCell (p := ⟨pB, 0, none⟩) (.inl (.inr rfl)) _).setCell (p := ⟨kB, 0, none⟩) (.inl (.inl rfl)) _, Boxed.set _ (b1.other hne _), (Boxed.set _ b2).other (Ne.symm hne) _⟩
theorem keeps_put2 (b kB pB nq : Nat) (A : World) (v u : Value) : KeepsFrom b A (((A.drewN nq).setCell ⟨pB, 0, none⟩ v).setCell ⟨kB, 0, none⟩ u) :=
  (keeps_put b pB nq A v).trans ((KeepsOthers.setCell _ _ _).from _)
/-- Behind the boxes' being laid. -/
theorem GoB.start (W : World) : GoB ((W.alloc (.cells #[.int .i64 0] 3)).alloc (.cells #[.int .i64 0] 3)) W.heap.size (W.heap.size + 1) 0 0 ((W.alloc (.cells #[.int .i64 0] 3)).alloc (.cells #[.int .i64 0] 3)) := by
  obtain ⟨h1, h2, _, _⟩ := two_blocks W (.cells #[.int .i64 0] 3) (.cells #[.int .i64 0] 3)
  exact ⟨Fr.refl _ _, h1, h2⟩

end Go.Proofs.Ytaembdlidaogdaa
