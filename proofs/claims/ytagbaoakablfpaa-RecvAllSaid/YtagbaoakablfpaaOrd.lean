/- A region that draws its order, walked in one order that the prover names: what yields one value in every world that meets S is taken where it stands; what writes is carried out where it alone may come up; S must stand behind each but the last. No program in sight. Conditions: none. -/
import Derived.StillTail
import Derived.OrdersHeld
import Derived.Test.YtagbaoakablfpaaSteps
namespace Go.Proofs.Ytagbaoakablfpaa
open Go.RowKit

section
variable {P : Program} {ops : Array Oper} {Q : Exit → Act → World → Prop} {md : Region.Mode} {S : World → Prop} {n : Nat}

/-- Whatever order is picked from here on; S holds behind every operation but number n. -/
def wpAnyR (P : Program) (md : Region.Mode) (ops : Array Oper) (Q : Exit → Act → World → Prop) (S : World → Prop) (n : Nat) : Nat → Array Bool → Act → World → Prop
  | 0, listed, a, w => Region.ready md ops listed = [] ∧ Q .normal a w
  | fuel + 1, listed, a, w =>
    (Region.ready md ops listed = [] → Q .normal a w) ∧
    ∀ i ∈ Region.ready md ops listed, wpOp P ops Q i (fun a' w' => (i = n ∨ S w') ∧ wpAnyR P md ops Q S n fuel (listed.setIfInBounds i true) a' w') a w
theorem wpAny_of_R : ∀ (fuel : Nat) (listed : Array Bool) (a : Act) (w : World), wpAnyR P md ops Q S n fuel listed a w → wpAny P md ops Q fuel listed a w
  | 0, _, _, _, h => h
  | fuel + 1, _, _, _, h => ⟨h.1, fun i hi => wpOp_mono (fun a' w' h' => wpAny_of_R fuel _ a' w' h'.2) (h.2 i hi)⟩

theorem wpAnyR_first {i : Nat} {oi : Oper} {v : Value} (hi : ops[i]? = some oi) (hsel : Region.noSelect ops = true)
    (hs : Region.sinkB md ops n = true) (hc : Region.chainB md ops n = true) (hn : n < ops.size) (hin : i < n)
    (hQ : ∀ c a d v w, Q (.panic c) (a.put d v) w → Q (.panic c) a w) :
    ∀ (fuel : Nat) (listed : Array Bool) (a : Act) (w : World), HeadInv md ops n listed →
      (∀ j oj, ops[j]? = some oj → j ≠ i → listed.getD j true = false → (∀ e ∈ oj.after, Region.binds md e = true → e.on ≠ i) → oi.apart ops oj = true) →
      i ∈ Region.ready md ops listed → YieldsIf P ops S oi v a → S w →
      wpAnyR P md ops Q S n fuel (listed.setIfInBounds i true) (a.put oi.dst v) w → wpAnyR P md ops Q S n (fuel + 1) listed a w := by
  intro fuel
  induction fuel with
  | zero =>
    intro listed a w _ _ hr hy hS H
    refine ⟨fun h => (by rw [h] at hr; cases hr), fun j hj => ?_⟩
    by_cases hji : j = i
    · subst hji; exact hy.wpOp hi hS ⟨.inr hS, H⟩
    · have := ready_mono hj hji
      rw [H.1] at this
      cases this
  | succ fuel ih =>
    intro listed a w inv hfree hr hy hS H
    have hun := (mem_ready.1 hr).1
    refine ⟨fun h => (by rw [h] at hr; cases hr), fun j hj => ?_⟩
    have hjn : j < n := by
      rcases Nat.lt_or_ge j n with h | h
      · exact h
      · exact absurd hj (tail_waits hs hc hn inv _ i rfl hin hun j h)
    by_cases hji : j = i
    · subst hji; exact hy.wpOp hi hS ⟨.inr hS, H⟩
    · have h1 := H.2 j (ready_mono hj hji)
      obtain ⟨hjun, oj, hoj, hall⟩ := mem_ready.1 hj
      have hnot : ∀ e ∈ oj.after, Region.binds md e = true → e.on ≠ i := fun e he hb heq => by
        have h1 := hall e he hb
        rw [heq, getD_both hun] at h1
        cases h1
      have h2 := wpOp_putIf hoj (hfree j oj hoj hji hjun hnot) (fun cs b => Region.noSelect_spec hsel i oi cs b hi) (fun cs b => Region.noSelect_spec hsel j oj cs b hoj) (fun c a w => hQ c a _ _ w) hy h1
      have hfree' : ∀ k ok, ops[k]? = some ok → k ≠ i → (listed.setIfInBounds j true).getD k true = false →
          (∀ e ∈ ok.after, Region.binds md e = true → e.on ≠ i) → oi.apart ops ok = true := fun k ok hk hki hun hno => by
        refine hfree k ok hk hki ?_ hno
        by_cases hjk : j = k
        · subst hjk; exact hjun
        · rw [getD_set_ne true hjk] at hun; exact hun
      refine wpOp_mono (fun a' w' h3 => ?_) h2
      have hS' : S w' := by
        rcases h3.2.1 with h4 | h4
        · omega
        · exact h4
      refine ⟨.inr hS', ih (listed.setIfInBounds j true) a' w' (inv.set hj hjn) hfree' (ready_mono hr (Ne.symm hji)) h3.1 hS' ?_⟩
      rw [Array.setIfInBounds_comm _ _ hji]
      exact h3.2.2

/-- The order named: number and 'is it taken?'. -/
def ordB (md : Region.Mode) (ops : Array Oper) (n : Nat) : List (Nat × Bool) → Array Bool → Bool
  | [], listed => (Region.ready md ops listed).isEmpty
  | (i, true) :: r, listed => (Region.ready md ops listed).contains i && Region.free md ops listed i && decide (i < n) && ordB md ops n r (listed.setIfInBounds i true)
  | (i, false) :: r, listed => decide (Region.ready md ops listed = [i]) && (decide (i < n) || (decide (i = n) && r.isEmpty)) && ordB md ops n r (listed.setIfInBounds i true)

/-- The walk along the named order. -/
def wpOrd (P : Program) (ops : Array Oper) (n : Nat) (S : World → Prop) (Q : Exit → Act → World → Prop) : List (Nat × Bool) → Act → World → Prop
  | [], a, w => Q .normal a w
  | (i, true) :: r, a, w => ∃ o v, ops[i]? = some o ∧ YieldsIf P ops S o v a ∧ wpOrd P ops n S Q r (a.put o.dst v) w
  | (i, false) :: r, a, w => ∃ o, ops[i]? = some o ∧ Region.wanted o (yielded ops a.tmps) = true ∧ o.wp P a w (fun a' w' => (i = n ∨ S w') ∧ wpOrd P ops n S Q r a' w') Q

theorem wpAnyR_of_ord (hsel : Region.noSelect ops = true) (hs : Region.sinkB md ops n = true) (hc : Region.chainB md ops n = true) (hn : n < ops.size)
    (hQ : ∀ c a d v w, Q (.panic c) (a.put d v) w → Q (.panic c) a w) :
    ∀ (l : List (Nat × Bool)) (listed : Array Bool) (a : Act) (w : World), (l = [] ∨ HeadInv md ops n listed) → (l = [] ∨ S w) → ordB md ops n l listed = true → wpOrd P ops n S Q l a w →
      wpAnyR P md ops Q S n l.length listed a w
  | [], listed, a, w, _, _, hB, h => ⟨by simpa [ordB] using hB, h⟩
  | (i, true) :: r, listed, a, w, inv, hS, hB, h => by
    have inv := inv.resolve_left (by simp)
    have hS := hS.resolve_left (by simp)
    simp only [ordB, Bool.and_eq_true, decide_eq_true_eq] at hB
    obtain ⟨⟨⟨hr, hf⟩, hin⟩, hB'⟩ := hB
    obtain ⟨o, v, ho, hy, hh⟩ := h
    have hr' : i ∈ Region.ready md ops listed := by simpa using hr
    exact wpAnyR_first ho hsel hs hc hn hin hQ r.length listed a w inv (Region.free_spec ho hf) hr' hy hS
      (wpAnyR_of_ord hsel hs hc hn hQ r _ _ _ (.inr (inv.set hr' hin)) (.inr hS) hB' hh)
  | (i, false) :: r, listed, a, w, inv, hS, hB, h => by
    have inv0 := inv.resolve_left (by simp)
    simp only [ordB, Bool.and_eq_true, decide_eq_true_eq, Bool.or_eq_true, List.isEmpty_iff] at hB
    obtain ⟨⟨hr, hin⟩, hB'⟩ := hB
    obtain ⟨o, ho, hw, hh⟩ := h
    refine ⟨fun h0 => (by rw [h0] at hr; cases hr), fun j hj => ?_⟩
    rw [hr] at hj
    have hji : j = i := by simpa using hj
    rw [hji]
    unfold wpOp
    simp only [ho, hw, if_true]
    refine .inl (Oper.wp_mono (fun a' w' h3 => ⟨h3.1, ?_⟩) hh)
    refine wpAnyR_of_ord hsel hs hc hn hQ r _ a' w' ?_ ?_ hB' h3.2
    · rcases hin with h4 | h4
      · exact .inr (inv0.set (by rw [hr]; simp) h4)
      · exact .inl h4.2
    · rcases hin with h4 | h4
      · exact .inr (h3.1.resolve_left (by omega))
      · exact .inl h4.2

theorem headInv_start (md : Region.Mode) (ops : Array Oper) (n : Nat) : HeadInv md ops n (Array.replicate ops.size false) :=
  ⟨by simp, fun j oj _ hl => (by rw [getD_replicate_false] at hl; cases hl), fun t _ ht' => by simp [ht']⟩

theorem wp_region_ord {id : Nat} {a : Act} {w : World} (order : List (Nat × Bool)) (hm : P.follows .mixedOrders = true) (hQ : ∀ c a d v w, Q (.panic c) (a.put d v) w → Q (.panic c) a w)
    (hB : (Region.noSelect ops && (Region.sinkB .any ops n && (Region.chainB .any ops n && (decide (n < ops.size) && (decide (order.length = ops.size) && ordB .any ops n order (Array.replicate ops.size false)))))) = true)
    (hS : S w.drew) (h : wpOrd P ops n S Q order a w.drew) : (Code.region id ops true).wp P Q a w := by
  simp only [Bool.and_eq_true, decide_eq_true_eq] at hB
  obtain ⟨h1, h2, h3, h4, h5, h6⟩ := hB
  refine wp_region_any hm (wpAny_of_R (S := S) (n := n) _ _ _ _ ?_)
  have := wpAnyR_of_ord (P := P) (Q := Q) (S := S) h1 h2 h3 h4 hQ order (Array.replicate ops.size false) a w.drew (.inr (headInv_start _ _ _)) (.inr hS) h6 h
  rw [h5] at this
  exact this

theorem wpOrd_take {i : Nat} {r : List (Nat × Bool)} {a : Act} {w : World} {o : Oper} {v : Value} (ho : ops[i]? = some o) (hw : Region.wanted o (yielded ops a.tmps) = true)
    (hy : ∀ w', S w' → (execOp a.eval o).run P w' = .ok (.value v) w') (h : wpOrd P ops n S Q r (a.put o.dst v) w) : wpOrd P ops n S Q ((i, true) :: r) a w := ⟨o, v, ho, .inl ⟨hw, hy⟩, h⟩
theorem wpOrd_miss {i : Nat} {r : List (Nat × Bool)} {a : Act} {w : World} {o : Oper} (ho : ops[i]? = some o) (hw : Region.wanted o (yielded ops a.tmps) = false)
    (h : wpOrd P ops n S Q r (a.put o.dst undef) w) : wpOrd P ops n S Q ((i, true) :: r) a w := ⟨o, undef, ho, .inr ⟨hw, rfl⟩, h⟩
theorem wpOrd_step {i : Nat} {r : List (Nat × Bool)} {a : Act} {w : World} {o : Oper} (ho : ops[i]? = some o) (hw : Region.wanted o (yielded ops a.tmps) = true)
    (h : ∀ K, Hid (∀ a' w', S w' → wpOrd P ops n S Q r a' w' → K a' w') → o.wp P a w K Q) : wpOrd P ops n S Q ((i, false) :: r) a w :=
  ⟨o, ho, hw, h _ fun _ _ h1 h2 => ⟨.inr h1, h2⟩⟩
theorem wpOrd_last {r : List (Nat × Bool)} {a : Act} {w : World} {o : Oper} (ho : ops[n]? = some o) (hw : Region.wanted o (yielded ops a.tmps) = true)
    (h : ∀ K, Hid (∀ a' w', wpOrd P ops n S Q r a' w' → K a' w') → o.wp P a w K Q) : wpOrd P ops n S Q ((n, false) :: r) a w :=
  ⟨o, ho, hw, h _ fun _ _ h2 => ⟨.inl rfl, h2⟩⟩
theorem wpOrd_nil {a : Act} {w : World} (h : Q .normal a w) : wpOrd P ops n S Q [] a w := h
end

end Go.Proofs.Ytagbaoakablfpaa
