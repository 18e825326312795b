/- Rows of records: joined, cut, with a byte turned: plain. Conditions: none. -/
import Derived.Test.YtaembdlidaogdaaRecAll
namespace Go.Proofs.Ytaembdlidaogdaa
open Go.RowKit

/-- A payload may be a record's; the bytes of records, one behind the other. -/
def fitP (p : List Int) : Bool := decide (recE p = 0)
def keepL (l : List (List Int)) : List (List Int) := l.filter fitP
def rowB : List (List Int) → List Int
  | [] => []
  | p :: ps => recB p ++ rowB ps
theorem keep_fits {l : List (List Int)} : ∀ p ∈ keepL l, recE p = 0 := fun p hp => by
  have := (List.mem_filter.1 hp).2
  simpa [fitP] using this
theorem rowB_append (a b : List (List Int)) : rowB (a ++ b) = rowB a ++ rowB b := by
  induction a with
  | nil => rfl
  | cons p a ih => rw [List.cons_append, rowB, rowB, ih, List.append_assoc]
theorem rowB_one (p : List Int) : rowB [p] = recB p := by unfold rowB rowB; simp
theorem keep_append (a b : List (List Int)) : keepL (a ++ b) = keepL a ++ keepL b := by unfold keepL; rw [List.filter_append]
theorem keep_yes {p : List Int} (h : recE p = 0) : keepL [p] = [p] := by simp [keepL, fitP, h]
theorem keep_no {p : List Int} (h : recE p ≠ 0) : keepL [p] = [] := by simp [keepL, fitP, h]

theorem recs_rec {p r : List Int} (h : recE p = 0) : recs (recB p ++ r) = p :: recs r := by
  rw [recs_some (fst_recB h), List.drop_append_of_le_length (by rw [recB_length]; omega), List.drop_of_length_le (by rw [recB_length]; omega), List.nil_append]
theorem recs_row {ks : List (List Int)} (r : List Int) (h : ∀ p ∈ ks, recE p = 0) : recs (rowB ks ++ r) = ks ++ recs r := by
  induction ks with
  | nil => rfl
  | cons p ks ih => rw [rowB, List.append_assoc, recs_rec (h p (by simp)), ih (fun q hq => h q (by simp [hq]))]; rfl
theorem recs_nil : recs [] = [] := recs_none (fst_no (.inl (by simp)))
theorem recs_all {ks : List (List Int)} (h : ∀ p ∈ ks, recE p = 0) : recs (rowB ks) = ks := by
  have := recs_row [] h
  rw [List.append_nil, recs_nil, List.append_nil] at this
  exact this
theorem place_row (ks : List (List Int)) (k : Nat) (h : k ≤ ks.length) : place ks k = (rowB (ks.take k)).length := by
  induction ks generalizing k with
  | nil => obtain rfl : k = 0 := by simpa using h
           rfl
  | cons p ks ih =>
    cases k with
    | zero => rfl
    | succ k => rw [place_cons, List.take_succ_cons, rowB, List.length_append, recB_length, ih k (by simpa using h)]
theorem place_append (a b : List (List Int)) : place (a ++ b) (a ++ b).length = place a a.length + place b b.length := by
  induction a with
  | nil => rw [List.nil_append, List.length_nil, place_zero]; omega
  | cons p a ih => rw [List.cons_append, List.length_cons, List.length_cons, place_cons, place_cons, ih]; omega
/-- Joined: the records of both. -/
theorem recs_join {ks : List (List Int)} (r : List Int) (h : ∀ p ∈ ks, recE p = 0) : recs (rowB ks ++ r) = ks ++ recs r ∧ recN (rowB ks ++ r) = (rowB ks).length + recN r := by
  refine ⟨recs_row r h, ?_⟩
  unfold recN
  rw [recs_row r h, place_append, place_row ks _ (Nat.le_refl _), List.take_length]

/-- The length that a record's head tells. -/
theorem head_len {p r : List Int} {n : Nat} (hp : recE p = 0) (hn : 4 ≤ n) : getTo ((recB p ++ r).take n) 0 4 = p.length := by
  have := recE_zero hp
  refine getTo_front (s := 4) (by omega) ?_
  rw [List.take_take, Nat.min_eq_left hn]
  unfold recB
  rw [List.append_assoc, List.append_assoc, List.take_append_of_le_length (by rw [be_length]; omega), List.take_of_length_le (by rw [be_length]; omega)]
theorem cut_one {p r : List Int} {n : Nat} (hp : recE p = 0) (hn : n < 8 + p.length) : fst ((recB p ++ r).take n) = none := by
  have hl : ((recB p ++ r).take n).length ≤ n := by rw [List.length_take]; omega
  by_cases h4 : n < 8
  · exact fst_no (.inl (by omega))
  · exact fst_no (.inr (.inr (.inr (by rw [head_len hp (by omega)]; omega))))
/-- Cut anywhere: some of the records, from the first on, and all whose bytes are there. -/
theorem recs_cut {ks : List (List Int)} {n : Nat} (h : ∀ p ∈ ks, recE p = 0) (hn : n ≤ (rowB ks).length) : ∃ k, k ≤ ks.length ∧ recs ((rowB ks).take n) = ks.take k ∧ place ks k ≤ n ∧ (∀ p, ks[k]? = some p → n < place ks k + 8 + p.length) := by
  induction ks generalizing n with
  | nil =>
    refine ⟨0, by simp, ?_, by rw [place_zero]; omega, fun p hp => by simp at hp⟩
    rw [rowB, List.take_nil, recs_nil]; rfl
  | cons p ks ih =>
    have hp := h p (by simp)
    rw [rowB] at hn ⊢
    by_cases hl : 8 + p.length ≤ n
    · rw [List.length_append, recB_length] at hn
      obtain ⟨k, h1, h2, h3, h4⟩ := ih (n := n - (8 + p.length)) (fun q hq => h q (by simp [hq])) (by omega)
      refine ⟨k + 1, by simpa using h1, ?_, by rw [place_cons]; omega, fun q hq => ?_⟩
      · rw [List.take_append, List.take_of_length_le (by rw [recB_length]; omega), recB_length, recs_rec hp, h2]; rfl
      · rw [List.getElem?_cons_succ] at hq
        rw [place_cons]
        have := h4 q hq
        omega
    · refine ⟨0, by simp, ?_, by rw [place_zero]; omega, fun q hq => ?_⟩
      · rw [recs_none (cut_one hp (by omega))]; rfl
      · simp at hq; subst hq; rw [place_zero]; omega

/-! ### The sum tells one byte -/
theorem xor_cancel {a b c : Nat} (h : a ^^^ c = b ^^^ c) : a = b := by
  have := congrArg (· ^^^ c) h
  simpa [Nat.xor_assoc] using this
theorem xor_cancel' {a b c : Nat} (h : c ^^^ a = c ^^^ b) : a = b := xor_cancel (c := c) (by rw [Nat.xor_comm a c, Nat.xor_comm b c]; exact h)
theorem dn_odd {n : Nat} (h : n % 2 = 1) : dn n = n / 2 ^^^ 3988292384 := by unfold dn; rw [if_pos h]
theorem dn_even {n : Nat} (h : n % 2 ≠ 1) : dn n = n / 2 := by unfold dn; rw [if_neg h]
theorem half_bit {n : Nat} (h : n < 4294967296) : (n / 2).testBit 31 = false := Nat.testBit_lt_two_pow (by omega)
theorem dn_bit {n : Nat} (h : n < 4294967296) : (dn n).testBit 31 = decide (n % 2 = 1) := by
  by_cases ho : n % 2 = 1
  · rw [dn_odd ho, Nat.testBit_xor, half_bit h, decide_eq_true ho]; decide
  · rw [dn_even ho, half_bit h, decide_eq_false ho]
theorem dn_inj {n m : Nat} (hn : n < 4294967296) (hm : m < 4294967296) (h : dn n = dn m) : n = m := by
  have hb := dn_bit hn
  rw [h, dn_bit hm] at hb
  by_cases ho : n % 2 = 1
  · have hm1 : m % 2 = 1 := by rw [decide_eq_true ho] at hb; exact of_decide_eq_true hb
    rw [dn_odd ho, dn_odd hm1] at h
    have := xor_cancel h
    omega
  · have hm1 : m % 2 ≠ 1 := by rw [decide_eq_false ho] at hb; exact of_decide_eq_false hb
    rw [dn_even ho, dn_even hm1] at h
    omega
theorem dns_inj {n m : Nat} (hn : n < 4294967296) (hm : m < 4294967296) (k : Nat) (h : dns n k = dns m k) : n = m := by
  induction k with
  | zero => rw [dns_zero, dns_zero] at h; exact h
  | succ k ih =>
    rw [dns_succ, dns_succ] at h
    exact ih (dn_inj (dns_lt hn k) (dns_lt hm k) h)
theorem tk_eq (n b : Nat) : tk n b = dns (n ^^^ b) 8 := by unfold tk; rfl
theorem tk_inj {n m b : Nat} (hn : n < 4294967296) (hm : m < 4294967296) (hb : b < 256) (h : tk n b = tk m b) : n = m := by
  rw [tk_eq, tk_eq] at h
  exact xor_cancel (dns_inj (xor_lt32 hn (by omega)) (xor_lt32 hm (by omega)) 8 h)
theorem tk_byte {n b c : Nat} (hn : n < 4294967296) (hb : b < 256) (hc : c < 256) (h : tk n b = tk n c) : b = c := by
  rw [tk_eq, tk_eq] at h
  exact xor_cancel' (dns_inj (xor_lt32 hn (by omega)) (xor_lt32 hn (by omega)) 8 h)
theorem reg_inj {xs : List Int} (hw : ∀ x ∈ xs, (Lit.int .u8 x).wf = true) {n m : Nat} (hn : n < 4294967296) (hm : m < 4294967296) (h : reg n xs = reg m xs) : n = m := by
  induction xs generalizing n m with
  | nil => rw [reg_nil, reg_nil] at h; exact h
  | cons x xs ih =>
    have hx := bounds_u8 (hw x (by simp))
    rw [reg_cons, reg_cons] at h
    exact tk_inj hn hm (by omega) (ih (fun y hy => hw y (by simp [hy])) (tk_lt hn (by omega)) (tk_lt hm (by omega)) h)
theorem sum_byte {a b : List Int} {x y : Int} (ha : ∀ n ∈ a, (Lit.int .u8 n).wf = true) (hb : ∀ n ∈ b, (Lit.int .u8 n).wf = true) (hx : (Lit.int .u8 x).wf = true) (hy : (Lit.int .u8 y).wf = true) (h : sumN (a ++ x :: b) = sumN (a ++ y :: b)) : x = y := by
  have bx := bounds_u8 hx
  have bby := bounds_u8 hy
  have hr : reg 4294967295 a < 4294967296 := reg_lt (by omega) ha
  have h1 : reg 4294967295 (a ++ x :: b) < 4294967296 := reg_lt (by omega) (by
    intro n hn
    rcases List.mem_append.1 hn with h | h
    · exact ha n h
    · rcases List.mem_cons.1 h with rfl | h
      · exact hx
      · exact hb n h)
  have h2 : reg 4294967295 (a ++ y :: b) < 4294967296 := reg_lt (by omega) (by
    intro n hn
    rcases List.mem_append.1 hn with h | h
    · exact ha n h
    · rcases List.mem_cons.1 h with rfl | h
      · exact hy
      · exact hb n h)
  unfold sumN at h
  have h3 : reg 4294967295 (a ++ x :: b) = reg 4294967295 (a ++ y :: b) := by omega
  rw [reg_append, reg_append, reg_cons, reg_cons] at h3
  have h4 := tk_byte hr (by omega) (by omega) (reg_inj hb (tk_lt hr (by omega)) (tk_lt hr (by omega)) h3)
  omega

/-! ### A byte turned -/
theorem rec_wf {p : List Int} (hw : ∀ n ∈ p, (Lit.int .u8 n).wf = true) : ∀ n ∈ recB p, (Lit.int .u8 n).wf = true := by
  intro n hn
  unfold recB at hn
  rcases List.mem_append.1 hn with h1 | hn
  · rcases List.mem_append.1 h1 with h1 | h1
    · exact be_wf _ _ n h1
    · exact be_wf _ _ n h1
  · exact hw n hn
theorem row_wf {ks : List (List Int)} (hw : ∀ p ∈ ks, ∀ n ∈ p, (Lit.int .u8 n).wf = true) : ∀ n ∈ rowB ks, (Lit.int .u8 n).wf = true := by
  induction ks with
  | nil => intro n hn; simp [rowB] at hn
  | cons p ks ih =>
    intro n hn
    rw [rowB] at hn
    rcases List.mem_append.1 hn with h | h
    · exact rec_wf (hw p (by simp)) n h
    · exact ih (fun q hq => hw q (by simp [hq])) n h
theorem set_wf8 {xs : List Int} (hw : ∀ n ∈ xs, (Lit.int .u8 n).wf = true) {y : Int} (hy : (Lit.int .u8 y).wf = true) (i : Nat) : ∀ n ∈ xs.set i y, (Lit.int .u8 n).wf = true := fun n hn => by
  rcases List.mem_or_eq_of_mem_set hn with h | h
  · exact hw n h
  · rw [h]; exact hy
theorem recB_parts (p : List Int) : (recB p).take 4 = be p.length 4 ∧ ((recB p).drop 4).take 4 = be (sumN (be p.length 4 ++ p)) 4 ∧ (recB p).drop 8 = p := by
  have e : recB p = be p.length 4 ++ (be (sumN (be p.length 4 ++ p)) 4 ++ p) := by unfold recB; simp
  have d4 : (recB p).drop 4 = be (sumN (be p.length 4 ++ p)) 4 ++ p := by
    rw [e, List.drop_append_of_le_length (by simp [be_length]), List.drop_of_length_le (by simp [be_length]), List.nil_append]
  refine ⟨?_, ?_, ?_⟩
  · rw [e, List.take_append_of_le_length (by simp [be_length]), List.take_of_length_le (by simp [be_length])]
  · rw [d4, List.take_append_of_le_length (by simp [be_length]), List.take_of_length_le (by simp [be_length])]
  · rw [show 8 = 4 + 4 from rfl, ← List.drop_drop, d4, List.drop_append_of_le_length (by simp [be_length]), List.drop_of_length_le (by simp [be_length]), List.nil_append]
theorem turn_one {p q : List Int} {f : Nat} {x y : Int} (wp : ∀ n ∈ p, (Lit.int .u8 n).wf = true) (hl : q.length = p.length) (hx : (recB p)[f]? = some x) (hy : (Lit.int .u8 y).wf = true) (h : recB q = (recB p).set f y) : x = y := by
  obtain ⟨p1, p2, p3⟩ := recB_parts p
  obtain ⟨q1, q2, q3⟩ := recB_parts q
  have hfl := (List.getElem?_eq_some_iff.1 hx).1
  have hqf : (recB q)[f]? = some y := by rw [h, List.getElem?_set_self hfl]
  by_cases h4 : f < 4
  · have e1 : (recB q)[f]? = (be q.length 4)[f]? := by rw [← q1, List.getElem?_take, if_pos h4]
    have e2 : (recB p)[f]? = (be p.length 4)[f]? := by rw [← p1, List.getElem?_take, if_pos h4]
    rw [e1, hl, ← e2, hx] at hqf
    exact Option.some.inj hqf
  · by_cases h8 : f < 8
    · have e : q = p := by
        rw [← q3, h, List.drop_set, if_pos h8, p3]
      rw [e, hx] at hqf
      exact Option.some.inj hqf
    · have e : q = p.set (f - 8) y := by
        rw [← q3, h, List.drop_set, if_neg h8, p3]
      have es : be (sumN (be q.length 4 ++ q)) 4 = be (sumN (be p.length 4 ++ p)) 4 := by
        rw [← q2, ← p2, h, List.drop_set, if_neg h4, List.take_set, List.set_eq_of_length_le (by rw [List.length_take]; omega)]
      have h1 := sumN_lt (be q.length 4 ++ q)
      have h2 := sumN_lt (be p.length 4 ++ p)
      have hs := be_inj (by omega) (by omega) es
      have hxp : p[f - 8]? = some x := by rw [← p3, List.getElem?_drop, show 8 + (f - 8) = f by omega]; exact hx
      have hlt := (List.getElem?_eq_some_iff.1 hxp).1
      have ep : p = p.take (f - 8) ++ x :: p.drop (f - 8 + 1) := by
        rw [← (List.getElem?_eq_some_iff.1 hxp).2, ← List.drop_eq_getElem_cons hlt, List.take_append_drop]
      have eq2 : q = p.take (f - 8) ++ y :: p.drop (f - 8 + 1) := by rw [e, List.set_eq_take_append_cons_drop, if_pos hlt]
      have hwx := wp x (List.mem_of_getElem? hxp)
      rw [hl] at hs
      have hs2 : sumN (be p.length 4 ++ p.take (f - 8) ++ x :: p.drop (f - 8 + 1)) = sumN (be p.length 4 ++ p.take (f - 8) ++ y :: p.drop (f - 8 + 1)) := by
        rw [List.append_assoc, List.append_assoc, ← ep, ← eq2]; exact hs.symm
      refine sum_byte ?_ (fun n hn => wp n (List.mem_of_mem_drop hn)) hwx hy hs2
      intro n hn
      rcases List.mem_append.1 hn with h | h
      · exact be_wf _ _ n h
      · exact wp n (List.mem_of_mem_take h)
/-- A byte turned: all the records ahead of it, and the one that was turned is not told as one of its length. -/
theorem recs_turned {ks : List (List Int)} {f : Nat} {x y : Int} (h : ∀ p ∈ ks, recE p = 0) (hw : ∀ p ∈ ks, ∀ n ∈ p, (Lit.int .u8 n).wf = true) (hx : (rowB ks)[f]? = some x) (hy : (Lit.int .u8 y).wf = true) (hne : x ≠ y) :
    ∃ (k : Nat) (p : List Int) (more : List (List Int)), ks[k]? = some p ∧ place ks k ≤ f ∧ f < place ks k + 8 + p.length ∧ recs ((rowB ks).set f y) = ks.take k ++ more ∧ ∀ q, more[0]? = some q → q.length ≠ p.length := by
  induction ks generalizing f with
  | nil => simp [rowB] at hx
  | cons p ks ih =>
    have hp := h p (by simp)
    have hpw := hw p (by simp)
    have hrl := recB_length p
    rw [rowB] at hx ⊢
    by_cases hf : f < 8 + p.length
    · refine ⟨0, p, recs ((recB p ++ rowB ks).set f y), rfl, by rw [place_zero]; omega, by rw [place_zero]; omega, rfl, fun q hq hl => ?_⟩
      have hfs : fst ((recB p ++ rowB ks).set f y) = some q := by
        cases hc : fst ((recB p ++ rowB ks).set f y) with
        | none => rw [recs_none hc] at hq; simp at hq
        | some q' => rw [recs_some hc] at hq; simpa using hq
      have hrw : ∀ n ∈ (recB p ++ rowB ks).set f y, (Lit.int .u8 n).wf = true := by
        refine set_wf8 (fun n hn => ?_) hy f
        rcases List.mem_append.1 hn with h | h
        · exact rec_wf hpw n h
        · exact row_wf (fun q hq => hw q (by simp [hq])) n h
      have hb := fst_bytes hrw hfs
      rw [hl, List.set_append_left _ _ (by omega), List.take_append_of_le_length (by rw [List.length_set]; omega), List.take_of_length_le (by rw [List.length_set]; omega)] at hb
      rw [List.getElem?_append_left (by omega)] at hx
      exact hne (turn_one hpw hl hx hy hb.symm)
    · rw [List.getElem?_append_right (by omega), hrl] at hx
      obtain ⟨k, q, more, h1, h2, h3, h4, h5⟩ := ih (f := f - (8 + p.length)) (fun q hq => h q (by simp [hq])) (fun q hq => hw q (by simp [hq])) hx
      refine ⟨k + 1, q, more, by rw [List.getElem?_cons_succ]; exact h1, by rw [place_cons]; omega, by rw [place_cons]; omega, ?_, h5⟩
      rw [List.set_append_right _ _ (by omega), hrl, recs_rec hp, h4]; rfl

end Go.Proofs.Ytaembdlidaogdaa
