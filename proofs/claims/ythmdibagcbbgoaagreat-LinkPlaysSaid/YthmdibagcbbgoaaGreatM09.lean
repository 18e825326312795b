/- A region that draws its order, walked in one order that the prover names: a head (what yields one value in every world that meets S is taken where it stands; what writes is carried out where it alone may come up, S standing behind it), then a tail that is forced. No program in sight. Conditions: as they stand. -/
import Derived.Test.YthmdibagcbbgoaaGreatM01
namespace Go.Proofs.YthmdibagcbbgoaaGreat
open Go.RowKit

section
variable {P : Program} {ops : Array Oper} {Q : Exit → Act → World → Prop} {md : Region.Mode} {S : World → Prop} {tl fr : List Nat}

/-- Whatever order is picked from here on; S holds behind every operation but those of the tail. -/
def wpAnyT (P : Program) (md : Region.Mode) (ops : Array Oper) (Q : Exit → Act → World → Prop) (S : World → Prop) (tl : List Nat) : Nat → Array Bool → Act → World → Prop
  | 0, listed, a, w => Region.ready md ops listed = [] ∧ Q .normal a w
  | fuel + 1, listed, a, w =>
    (Region.ready md ops listed = [] → Q .normal a w) ∧
    ∀ i ∈ Region.ready md ops listed, wpOp P ops Q i (fun a' w' => (i ∈ tl ∨ (S w → S w')) ∧ wpAnyT P md ops Q S tl fuel (listed.setIfInBounds i true) a' w') a w
theorem wpAny_of_T : ∀ (fuel : Nat) (listed : Array Bool) (a : Act) (w : World), wpAnyT P md ops Q S tl fuel listed a w → wpAny P md ops Q fuel listed a w
  | 0, _, _, _, h => h
  | fuel + 1, _, _, _, h => ⟨h.1, fun i hi => wpOp_mono (fun a' w' h' => wpAny_of_T fuel _ a' w' h'.2) (h.2 i hi)⟩

/-- No operation of the tail may come up while one of the head has not. -/
structure TailInv (md : Region.Mode) (ops : Array Oper) (tl : List Nat) (listed : Array Bool) : Prop where
  size : listed.size = ops.size
  closed : ∀ j oj, ops[j]? = some oj → listed.getD j false = true → ∀ e ∈ oj.after, Region.binds md e = true → listed.getD e.on false = true
  tail : ∀ t ∈ tl, listed.getD t false = false
def sinkT (md : Region.Mode) (ops : Array Oper) (tl fr : List Nat) : Bool :=
  (List.range ops.size).all fun i => if tl.contains i then (tl.head? == some i) || tl.any fun t => Region.waitsFor md ops i t
    else fr.contains i || (List.range ops.size).any fun j => Region.waitsFor md ops j i && ((tl.head? == some j) || (decide (i < j) && (!tl.contains j && !fr.contains j)))

theorem TailInv.set {i : Nat} {listed : Array Bool} (inv : TailInv md ops tl listed) (hi : i ∈ Region.ready md ops listed) (hin : i ∉ tl) : TailInv md ops tl (listed.setIfInBounds i true) := by
  obtain ⟨_, oi, hoi, hall⟩ := mem_ready.1 hi
  refine ⟨by simp [inv.size], fun j oj hj hl e he hb => ?_, fun t ht => by rw [getD_set_ne false (fun h => hin (by rw [h]; exact ht))]; exact inv.tail t ht⟩
  by_cases hij : i = j
  · subst hij
    have : oj = oi := Option.some.inj (hj.symm.trans hoi)
    subst this
    exact getD_set_true (hall e he hb)
  · rw [getD_set_ne false hij] at hl
    exact getD_set_true (inv.closed j oj hj hl e he hb)

theorem tail_not_ready {listed : Array Bool} (hs : sinkT md ops tl fr = true) (inv : TailInv md ops tl listed) :
    ∀ (d i : Nat), ops.size - i = d → i < ops.size → i ∉ tl → i ∉ fr → listed.getD i true = false → ∀ t ∈ tl, t ∉ Region.ready md ops listed := by
  intro d
  induction d using Nat.strongRecOn with
  | _ d ih =>
    intro i hd hi hit hif hun t ht hr
    obtain ⟨_, ot, hot, hall⟩ := mem_ready.1 hr
    have htlt : t < ops.size := (Array.getElem?_eq_some_iff.1 hot).1
    have h1 := List.all_eq_true.1 hs t (List.mem_range.2 htlt)
    rw [if_pos (by simpa using ht)] at h1
    simp only [Bool.or_eq_true, beq_iff_eq, List.any_eq_true] at h1
    rcases h1 with h1 | ⟨t', ht', hw⟩
    · have h2 := List.all_eq_true.1 hs i (List.mem_range.2 hi)
      rw [if_neg (by simpa using hit), show fr.contains i = false by simpa using hif, Bool.false_or] at h2
      obtain ⟨j, hj, hj2⟩ := List.any_eq_true.1 h2
      simp only [Bool.and_eq_true, Bool.or_eq_true, beq_iff_eq, decide_eq_true_eq, Bool.not_eq_true'] at hj2
      obtain ⟨oj, hoj, e, he, hb, hon⟩ := Region.waitsFor_spec hj2.1
      rcases hj2.2 with h3 | ⟨h3, h4, h6⟩
      · have hjt : j = t := Option.some.inj (h3.symm.trans h1)
        subst hjt
        have : oj = ot := Option.some.inj (hoj.symm.trans hot)
        subst this
        have h5 := hall e he hb
        rw [hon, getD_both hun] at h5
        cases h5
      · cases hl : listed.getD j false with
        | true =>
          have h5 := inv.closed j oj hoj hl e he hb
          rw [hon, getD_both hun] at h5
          cases h5
        | false =>
          have hjs : j < listed.size := by rw [inv.size]; exact List.mem_range.1 hj
          exact ih (ops.size - j) (by omega) j rfl (List.mem_range.1 hj) (by simpa using h4) (by simpa using h6) (getD_in hjs hl) t ht hr
    · obtain ⟨o', ho', e, he, hb, hon⟩ := Region.waitsFor_spec hw
      have : o' = ot := Option.some.inj (ho'.symm.trans hot)
      subst this
      have h5 := hall e he hb
      rw [hon, inv.tail t' ht'] at h5
      cases h5

theorem wpAnyT_first {i : Nat} {oi : Oper} {v : Value} (hi : ops[i]? = some oi) (hsel : Region.noSelect ops = true) (hs : sinkT md ops tl fr = true) (hin : i ∉ tl) (hif : i ∉ fr)
    (hQ : ∀ c a d v w, Q (.panic c) (a.put d v) w → Q (.panic c) a w) :
    ∀ (fuel : Nat) (listed : Array Bool) (a : Act) (w : World), TailInv md ops tl listed →
      (∀ j oj, ops[j]? = some oj → j ≠ i → listed.getD j true = false → (∀ e ∈ oj.after, Region.binds md e = true → e.on ≠ i) → oi.apart ops oj = true) →
      i ∈ Region.ready md ops listed → YieldsIf P ops S oi v a → S w →
      wpAnyT P md ops Q S tl fuel (listed.setIfInBounds i true) (a.put oi.dst v) w → wpAnyT P md ops Q S tl (fuel + 1) listed a w := by
  intro fuel
  induction fuel with
  | zero =>
    intro listed a w _ _ hr hy hS H
    refine ⟨fun h => (by rw [h] at hr; cases hr), fun j hj => ?_⟩
    by_cases hji : j = i
    · subst hji; exact hy.wpOp hi hS ⟨.inr id, H⟩
    · have := ready_mono hj hji
      rw [H.1] at this
      cases this
  | succ fuel ih =>
    intro listed a w inv hfree hr hy hS H
    have hun := (mem_ready.1 hr).1
    refine ⟨fun h => (by rw [h] at hr; cases hr), fun j hj => ?_⟩
    have hjn : j ∉ tl := fun ht => tail_not_ready hs inv _ i rfl (Array.getElem?_eq_some_iff.1 hi).1 hin hif hun j ht hj
    by_cases hji : j = i
    · subst hji; exact hy.wpOp hi hS ⟨.inr id, H⟩
    · have h1 := H.2 j (ready_mono hj hji)
      obtain ⟨hjun, oj, hoj, hall⟩ := mem_ready.1 hj
      have hnot : ∀ e ∈ oj.after, Region.binds md e = true → e.on ≠ i := fun e he hb heq => by
        have h1 := hall e he hb
        rw [heq, getD_both hun] at h1
        cases h1
      have h2 := wpOp_putIf hoj (hfree j oj hoj hji hjun hnot) (fun cs b => Region.noSelect_spec hsel i oi cs b hi) (fun cs b => Region.noSelect_spec hsel j oj cs b hoj) (fun c a w => hQ c a _ _ w) hy h1
      have hfree' : ∀ k ok, ops[k]? = some ok → k ≠ i → (listed.setIfInBounds j true).getD k true = false →
          (∀ e ∈ ok.after, Region.binds md e = true → e.on ≠ i) → oi.apart ops ok = true := fun k ok hk hki hun hno => by
        refine hfree k ok hk hki ?_ hno
        by_cases hjk : j = k
        · subst hjk; exact hjun
        · rw [getD_set_ne true hjk] at hun; exact hun
      refine wpOp_mono (fun a' w' h3 => ?_) h2
      have hS' : S w' := h3.2.1.resolve_left hjn hS
      refine ⟨.inr fun _ => hS', ih (listed.setIfInBounds j true) a' w' (inv.set hj hjn) hfree' (ready_mono hr (Ne.symm hji)) h3.1 hS' ?_⟩
      rw [Array.setIfInBounds_comm _ _ hji]
      exact h3.2.2

/-- What yields one value in whatever world may be taken first, whatever the tail does. -/
theorem wpAnyT_free {i : Nat} {oi : Oper} {v : Value} (hi : ops[i]? = some oi) (hsel : Region.noSelect ops = true)
    (hQ : ∀ c a d v w, Q (.panic c) (a.put d v) w → Q (.panic c) a w) :
    ∀ (fuel : Nat) (listed : Array Bool) (a : Act) (w : World),
      (∀ j oj, ops[j]? = some oj → j ≠ i → listed.getD j true = false → (∀ e ∈ oj.after, Region.binds md e = true → e.on ≠ i) → oi.apart ops oj = true) →
      i ∈ Region.ready md ops listed → YieldsIf P ops (fun _ => True) oi v a →
      wpAnyT P md ops Q S tl fuel (listed.setIfInBounds i true) (a.put oi.dst v) w → wpAnyT P md ops Q S tl (fuel + 1) listed a w := by
  intro fuel
  induction fuel with
  | zero =>
    intro listed a w _ hr hy H
    refine ⟨fun h => (by rw [h] at hr; cases hr), fun j hj => ?_⟩
    by_cases hji : j = i
    · subst hji; exact hy.wpOp hi trivial ⟨.inr id, H⟩
    · have := ready_mono hj hji
      rw [H.1] at this
      cases this
  | succ fuel ih =>
    intro listed a w hfree hr hy H
    refine ⟨fun h => (by rw [h] at hr; cases hr), fun j hj => ?_⟩
    by_cases hji : j = i
    · subst hji; exact hy.wpOp hi trivial ⟨.inr id, H⟩
    · have h1 := H.2 j (ready_mono hj hji)
      obtain ⟨hjun, oj, hoj, hall⟩ := mem_ready.1 hj
      have hnot : ∀ e ∈ oj.after, Region.binds md e = true → e.on ≠ i := fun e he hb heq => by
        have h1 := hall e he hb
        rw [heq, getD_both (mem_ready.1 hr).1] at h1
        cases h1
      have h2 := wpOp_putIf hoj (hfree j oj hoj hji hjun hnot) (fun cs b => Region.noSelect_spec hsel i oi cs b hi) (fun cs b => Region.noSelect_spec hsel j oj cs b hoj) (fun c a w => hQ c a _ _ w) hy h1
      have hfree' : ∀ k ok, ops[k]? = some ok → k ≠ i → (listed.setIfInBounds j true).getD k true = false →
          (∀ e ∈ ok.after, Region.binds md e = true → e.on ≠ i) → oi.apart ops ok = true := fun k ok hk hki hun hno => by
        refine hfree k ok hk hki ?_ hno
        by_cases hjk : j = k
        · subst hjk; exact hjun
        · rw [getD_set_ne true hjk] at hun; exact hun
      refine wpOp_mono (fun a' w' h3 => ⟨h3.2.1, ih (listed.setIfInBounds j true) a' w' hfree' (ready_mono hr (Ne.symm hji)) h3.1 ?_⟩) h2
      rw [Array.setIfInBounds_comm _ _ hji]
      exact h3.2.2

/-- The tail's order named: number and 'does it yield in whatever world?'. -/
def tailB (md : Region.Mode) (ops : Array Oper) (tl : List Nat) : List (Nat × Bool) → Array Bool → Bool
  | [], listed => (Region.ready md ops listed).isEmpty
  | (i, true) :: r, listed => (Region.ready md ops listed).contains i && Region.free md ops listed i && tailB md ops tl r (listed.setIfInBounds i true)
  | (i, false) :: r, listed => decide (Region.ready md ops listed = [i]) && tl.contains i && tailB md ops tl r (listed.setIfInBounds i true)
def wpTail (P : Program) (ops : Array Oper) (Q : Exit → Act → World → Prop) : List (Nat × Bool) → Act → World → Prop
  | [], a, w => Q .normal a w
  | (i, true) :: r, a, w => ∃ o v, ops[i]? = some o ∧ YieldsIf P ops (fun _ => True) o v a ∧ wpTail P ops Q r (a.put o.dst v) w
  | (i, false) :: r, a, w => ∃ o, ops[i]? = some o ∧ Region.wanted o (yielded ops a.tmps) = true ∧ o.wp P a w (fun a' w' => wpTail P ops Q r a' w') Q
/-- The head's order named: number and kind (0: it yields in whatever world; 1: in every world that meets S; 2: it is carried out, S behind it). -/
def headB (md : Region.Mode) (ops : Array Oper) (tl fr : List Nat) (tail : List (Nat × Bool)) : List (Nat × Nat) → Array Bool → Bool
  | [], listed => tailB md ops tl tail listed
  | (i, 0) :: r, listed => (Region.ready md ops listed).contains i && Region.free md ops listed i && !tl.contains i && headB md ops tl fr tail r (listed.setIfInBounds i true)
  | (i, 1) :: r, listed => (Region.ready md ops listed).contains i && Region.free md ops listed i && !tl.contains i && !fr.contains i && headB md ops tl fr tail r (listed.setIfInBounds i true)
  | (i, _ + 2) :: r, listed => decide (Region.ready md ops listed = [i]) && !tl.contains i && headB md ops tl fr tail r (listed.setIfInBounds i true)

/-- The walk along the named order. -/
def wpHead (P : Program) (ops : Array Oper) (S : World → Prop) (L : Act → World → Prop) (Q : Exit → Act → World → Prop) : List (Nat × Nat) → Act → World → Prop
  | [], a, w => L a w
  | (i, 0) :: r, a, w => ∃ o v, ops[i]? = some o ∧ YieldsIf P ops (fun _ => True) o v a ∧ wpHead P ops S L Q r (a.put o.dst v) w
  | (i, 1) :: r, a, w => ∃ o v, ops[i]? = some o ∧ YieldsIf P ops S o v a ∧ wpHead P ops S L Q r (a.put o.dst v) w
  | (i, _ + 2) :: r, a, w => ∃ o, ops[i]? = some o ∧ Region.wanted o (yielded ops a.tmps) = true ∧ o.wp P a w (fun a' w' => S w' ∧ wpHead P ops S L Q r a' w') Q

theorem wpAnyT_of_tail (hsel : Region.noSelect ops = true) (hQ : ∀ c a d v w, Q (.panic c) (a.put d v) w → Q (.panic c) a w) :
    ∀ (r : List (Nat × Bool)) (listed : Array Bool) (a : Act) (w : World), tailB md ops tl r listed = true → wpTail P ops Q r a w → wpAnyT P md ops Q S tl r.length listed a w
  | [], listed, a, w, hB, h => ⟨by simpa [tailB] using hB, h⟩
  | (i, true) :: r, listed, a, w, hB, h => by
    simp only [tailB, Bool.and_eq_true] at hB
    obtain ⟨⟨hr, hf⟩, hB'⟩ := hB
    obtain ⟨o, v, ho, hy, hh⟩ := h
    exact wpAnyT_free ho hsel hQ _ listed a w (Region.free_spec ho hf) (by simpa using hr) hy (wpAnyT_of_tail hsel hQ r _ _ _ hB' hh)
  | (i, false) :: r, listed, a, w, hB, h => by
    simp only [tailB, Bool.and_eq_true, decide_eq_true_eq] at hB
    obtain ⟨⟨hr, hin⟩, hB'⟩ := hB
    obtain ⟨o, ho, hw, hh⟩ := h
    refine ⟨fun h0 => (by rw [h0] at hr; cases hr), fun j hj => ?_⟩
    rw [hr] at hj
    have hji : j = i := by simpa using hj
    rw [hji]
    unfold wpOp
    simp only [ho, hw, if_true]
    exact .inl (Oper.wp_mono (fun a' w' h3 => ⟨.inl (by simpa using hin), wpAnyT_of_tail hsel hQ r _ a' w' hB' h3⟩) hh)

theorem wpAnyT_of_head (tail : List (Nat × Bool)) (hsel : Region.noSelect ops = true) (hs : sinkT md ops tl fr = true)
    (hQ : ∀ c a d v w, Q (.panic c) (a.put d v) w → Q (.panic c) a w) :
    ∀ (h : List (Nat × Nat)) (listed : Array Bool) (a : Act) (w : World), TailInv md ops tl listed → S w → headB md ops tl fr tail h listed = true → wpHead P ops S (wpTail P ops Q tail) Q h a w →
      wpAnyT P md ops Q S tl (h.length + tail.length) listed a w
  | [], listed, a, w, _, _, hB, h => by
    rw [List.length_nil, Nat.zero_add]
    exact wpAnyT_of_tail hsel hQ tail listed a w hB h
  | (i, 0) :: r, listed, a, w, inv, hS, hB, h => by
    simp only [headB, Bool.and_eq_true, Bool.not_eq_true'] at hB
    obtain ⟨⟨⟨hr, hf⟩, hin⟩, hB'⟩ := hB
    obtain ⟨o, v, ho, hy, hh⟩ := h
    have hr' : i ∈ Region.ready md ops listed := by simpa using hr
    have hin' : i ∉ tl := by simpa using hin
    rw [List.length_cons, show r.length + 1 + tail.length = (r.length + tail.length) + 1 by omega]
    exact wpAnyT_free ho hsel hQ _ listed a w (Region.free_spec ho hf) hr' hy
      (wpAnyT_of_head tail hsel hs hQ r _ _ _ (inv.set hr' hin') hS hB' hh)
  | (i, 1) :: r, listed, a, w, inv, hS, hB, h => by
    simp only [headB, Bool.and_eq_true, Bool.not_eq_true'] at hB
    obtain ⟨⟨⟨⟨hr, hf⟩, hin⟩, hif⟩, hB'⟩ := hB
    obtain ⟨o, v, ho, hy, hh⟩ := h
    have hr' : i ∈ Region.ready md ops listed := by simpa using hr
    have hin' : i ∉ tl := by simpa using hin
    rw [List.length_cons, show r.length + 1 + tail.length = (r.length + tail.length) + 1 by omega]
    exact wpAnyT_first ho hsel hs hin' (by simpa using hif) hQ _ listed a w inv (Region.free_spec ho hf) hr' hy hS
      (wpAnyT_of_head tail hsel hs hQ r _ _ _ (inv.set hr' hin') hS hB' hh)
  | (i, k + 2) :: r, listed, a, w, inv, _, hB, h => by
    simp only [headB, Bool.and_eq_true, decide_eq_true_eq, Bool.not_eq_true'] at hB
    obtain ⟨⟨hr, hin⟩, hB'⟩ := hB
    obtain ⟨o, ho, hw, hh⟩ := h
    have hin' : i ∉ tl := by simpa using hin
    rw [List.length_cons, show r.length + 1 + tail.length = (r.length + tail.length) + 1 by omega]
    refine ⟨fun h0 => (by rw [h0] at hr; cases hr), fun j hj => ?_⟩
    rw [hr] at hj
    have hji : j = i := by simpa using hj
    rw [hji]
    unfold wpOp
    simp only [ho, hw, if_true]
    exact .inl (Oper.wp_mono (fun a' w' h3 => ⟨.inr fun _ => h3.1, wpAnyT_of_head tail hsel hs hQ r _ a' w' (inv.set (by rw [hr]; simp) hin') h3.1 hB' h3.2⟩) hh)

theorem tailInv_start (md : Region.Mode) (ops : Array Oper) (tl : List Nat) : TailInv md ops tl (Array.replicate ops.size false) :=
  ⟨by simp, fun j oj _ hl => (by rw [getD_replicate_false] at hl; cases hl), fun t _ => getD_replicate_false _ _⟩

theorem wp_region_order {id : Nat} {a : Act} {w : World} (S : World → Prop) (order : List (Nat × Nat)) (tail : List (Nat × Bool)) (tl fr : List Nat) (hm : P.follows .mixedOrders = true) (hQ : ∀ c a d v w, Q (.panic c) (a.put d v) w → Q (.panic c) a w)
    (hB : (Region.noSelect ops && (sinkT .any ops tl fr && (decide (order.length + tail.length = ops.size) && headB .any ops tl fr tail order (Array.replicate ops.size false)))) = true)
    (hS : S w.drew) (h : wpHead P ops S (wpTail P ops Q tail) Q order a w.drew) : (Code.region id ops true).wp P Q a w := by
  simp only [Bool.and_eq_true, decide_eq_true_eq] at hB
  obtain ⟨h1, h2, h5, h6⟩ := hB
  refine wp_region_any hm (wpAny_of_T (S := S) (tl := tl) _ _ _ _ ?_)
  have := wpAnyT_of_head (P := P) (Q := Q) (S := S) tail h1 h2 hQ order (Array.replicate ops.size false) a w.drew (tailInv_start _ _ _) hS h6 h
  rw [h5] at this
  exact this

theorem wpTail_free {i : Nat} {r : List (Nat × Bool)} {a : Act} {w : World} {o : Oper} {v : Value} (ho : ops[i]? = some o) (hw : Region.wanted o (yielded ops a.tmps) = true)
    (hy : ∀ w', (execOp a.eval o).run P w' = .ok (.value v) w') (h : wpTail P ops Q r (a.put o.dst v) w) : wpTail P ops Q ((i, true) :: r) a w := ⟨o, v, ho, .inl ⟨hw, fun w' _ => hy w'⟩, h⟩
theorem wpTail_step {i : Nat} {r : List (Nat × Bool)} {a : Act} {w : World} {o : Oper} (ho : ops[i]? = some o) (hw : Region.wanted o (yielded ops a.tmps) = true)
    (h : ∀ K, Hid (∀ a' w', wpTail P ops Q r a' w' → K a' w') → o.wp P a w K Q) : wpTail P ops Q ((i, false) :: r) a w :=
  ⟨o, ho, hw, h _ fun _ _ h2 => h2⟩
theorem wpTail_nil {a : Act} {w : World} (h : Q .normal a w) : wpTail P ops Q [] a w := h
theorem wpHead_free {L : Act → World → Prop} {i : Nat} {r : List (Nat × Nat)} {a : Act} {w : World} {o : Oper} {v : Value} (ho : ops[i]? = some o) (hw : Region.wanted o (yielded ops a.tmps) = true)
    (hy : ∀ w', (execOp a.eval o).run P w' = .ok (.value v) w') (h : wpHead P ops S L Q r (a.put o.dst v) w) : wpHead P ops S L Q ((i, 0) :: r) a w := ⟨o, v, ho, .inl ⟨hw, fun w' _ => hy w'⟩, h⟩
theorem wpHead_take {L : Act → World → Prop} {i : Nat} {r : List (Nat × Nat)} {a : Act} {w : World} {o : Oper} {v : Value} (ho : ops[i]? = some o) (hw : Region.wanted o (yielded ops a.tmps) = true)
    (hy : ∀ w', S w' → (execOp a.eval o).run P w' = .ok (.value v) w') (h : wpHead P ops S L Q r (a.put o.dst v) w) : wpHead P ops S L Q ((i, 1) :: r) a w := ⟨o, v, ho, .inl ⟨hw, hy⟩, h⟩
theorem wpHead_miss {L : Act → World → Prop} {i : Nat} {r : List (Nat × Nat)} {a : Act} {w : World} {o : Oper} (ho : ops[i]? = some o) (hw : Region.wanted o (yielded ops a.tmps) = false)
    (h : wpHead P ops S L Q r (a.put o.dst undef) w) : wpHead P ops S L Q ((i, 1) :: r) a w := ⟨o, undef, ho, .inr ⟨hw, rfl⟩, h⟩
theorem wpHead_step {L : Act → World → Prop} {i : Nat} {r : List (Nat × Nat)} {a : Act} {w : World} {o : Oper} (ho : ops[i]? = some o) (hw : Region.wanted o (yielded ops a.tmps) = true)
    (h : ∀ K, Hid (∀ a' w', S w' → wpHead P ops S L Q r a' w' → K a' w') → o.wp P a w K Q) : wpHead P ops S L Q ((i, 2) :: r) a w :=
  ⟨o, ho, hw, h _ fun _ _ h1 h2 => ⟨h1, h2⟩⟩
theorem wpHead_nil {L : Act → World → Prop} {a : Act} {w : World} (h : L a w) : wpHead P ops S L Q [] a w := h
end

end Go.Proofs.YthmdibagcbbgoaaGreat
