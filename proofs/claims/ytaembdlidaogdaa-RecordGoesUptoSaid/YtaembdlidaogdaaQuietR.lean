/- A region that draws its order and only reads, inside a round of a range over a function: one walk, in the order of the text. Conditions: no operation of it is a 'defer'. -/
import Derived.Sort.QuietIn
import Derived.RangeFuncCalls
namespace Go.Proofs.Ytaembdlidaogdaa
open Go.RowKit

/-- No operation of these is a defer. -/
def noDefer (l : List Oper) : Bool := l.all fun o => match o.op with | .defer _ => false | _ => true
theorem noDefer_at {l : List Oper} (h : noDefer l = true) {i : Nat} {o : Oper} (ho : l.toArray[i]? = some o) : ∀ c, o.op ≠ .defer c := by
  have hm : o ∈ l := by rw [List.getElem?_toArray] at ho; exact List.mem_of_getElem? ho
  have := List.all_eq_true.1 h o hm
  intro c hc
  rw [hc] at this
  cases this
theorem op_round {r n : Nat} {P : Program} {o : Oper} {a : Act} {w : World} {K : Act → World → Prop} {Q : Exit → Act → World → Prop} (hd : ∀ c, o.op ≠ .defer c) (h : o.wpIn Fence.wide n P a w K Q) : o.wpIn (Fence.wide.inRound r) n P a w K Q := by
  unfold Oper.wpIn at h ⊢
  refine ⟨fun _ _ => trivial, ?_⟩
  have e : o.semAt (Fence.wide.inRound r).round a.eval = o.semAt Fence.wide.round a.eval := by
    rw [Oper.semAt_eq _ _ _ hd, Oper.semAt_eq _ _ _ hd]
  rw [e]
  exact h.2
theorem any_round {r n : Nat} {P : Program} {l : List Oper} {Q : Exit → Act → World → Prop} (hd : noDefer l = true) : ∀ (fuel : Nat) (listed : Array Bool) (a : Act) (w : World), wpAnyIn Fence.wide n P .any l.toArray Q fuel listed a w → wpAnyIn (Fence.wide.inRound r) n P .any l.toArray Q fuel listed a w
  | 0, _, _, _, h => h
  | fuel + 1, listed, a, w, h => by
    refine ⟨h.1, fun i hi => ?_⟩
    have h2 := h.2 i hi
    have hm := wpOpIn_mono (fun a' w' => any_round (r := r) hd fuel (listed.setIfInBounds i true) a' w') h2
    unfold wpOpIn at hm ⊢
    split
    · rename_i ho; simp only [ho] at hm; exact hm
    · rename_i o ho
      simp only [ho] at hm
      split
      · rename_i hw; simp only [hw, if_true] at hm; exact op_round (noDefer_at hd ho) hm
      · rename_i hw; simp only [hw] at hm; exact ⟨fun _ _ => trivial, hm.2⟩
/-- One walk serves every order. -/
theorem region_quiet_round {r n : Nat} {P : Program} {id : Nat} {Q : Exit → Act → World → Prop} {a : Act} {w : World} {l : List Oper} (hm : P.follows .mixedOrders = true) (hB : Region.lexB .any l.toArray = true) (hd : noDefer l = true)
    (h : wpQuietIn Fence.wide n P l.toArray (fun w' => ∃ k, w' = w.drewN k) (fun a' => ∀ w', (∃ k, w' = w.drewN k) → Q .normal a' w') l a) : (Code.region id l.toArray true).wpIn (Fence.wide.inRound r) n P Q a w := by
  simp only [Region.lexB, Bool.and_eq_true] at hB
  refine wpIn_region_any hm (any_round hd _ _ _ _ (wpAnyIn_of_quiet (C := fun w' => ∃ k, w' = w.drewN k) (Q := fun a' => ∀ w', (∃ k, w' = w.drewN k) → Q .normal a' w') rfl (fun _ w' hw' h => h w' hw') _ _ _ _ ⟨1, rfl⟩ ?_))
  have := wpAnyQIn_lex (F := Fence.wide) (n := n) (C := fun w' => ∃ k, w' = w.drewN k) (md := .any) hB.1 l 0 (Array.replicate l.toArray.size false) a (by simp) (by simpa using hB.2) h
  simpa using this

end Go.Proofs.Ytaembdlidaogdaa
