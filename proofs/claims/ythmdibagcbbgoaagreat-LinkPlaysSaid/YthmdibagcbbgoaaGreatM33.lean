/- A receiver that keeps what is missing as what it asked for asks for the same numbers as one that counts. The plain law. No program in sight. portageref09's end in memory: a value of twenty cells, its rows in blocks that nobody turns. Conditions: as they stand. -/
import Derived.Test.YthmdibagcbbgoaaGreatM05
import Derived.Test.YthmdibagcbbgoaaGreatM13
import Derived.Test.YthmdibagcbbgoaaGreatM26
import Derived.Test.YthmdibagcbbgoaaGreatM28
import Derived.Test.YthmdibagcbbgoaaGreatM29
import Derived.Test.YthmdibagcbbgoaaGreatM30
import Derived.Test.YthmdibagcbbgoaaGreatM32
namespace Go.Proofs.YthmdibagcbbgoaaGreat
open Go.RowKit

/-- What was asked for, as the reference keeps it: of all numbers that are not kept. -/
structure AskRel (r : Rcv) (A : List Int) : Prop where
  nodup : (r.asked.map (·.1)).Nodup
  sub : ∀ n ∈ A, n ∈ r.missing
  iff : ∀ n, n ∉ r.keys → (getC r.asked n = 0 ↔ n ∉ A)

/-- How far a number is from another one. -/
def gap (b n : Int) : Int := (n - b) % 128
theorem win_at {b : Int} {m i : Nat} (hi : i < m) : (win b m)[i]? = some (red (b + (i : Int))) := by
  induction m with
  | zero => omega
  | succ m ih =>
    rw [win_succ]
    by_cases h : i < m
    · rw [List.getElem?_append_left (by rw [win_length]; exact h)]
      exact ih h
    · have : i = m := by omega
      subst this
      rw [List.getElem?_append_right (by rw [win_length]; omega), win_length]
      simp
/-- The last one of those that are there is the farthest. -/
theorem sorted_last (l : List Int) (b : Int) : ∀ m : Nat, m ≤ 128 → ∀ t, (sorted l (win b m)).getLast? = some t → ∀ x ∈ sorted l (win b m), gap b x ≤ gap b t
  | 0, _, t, h, x, hx => by simp [sorted, win] at hx
  | m + 1, hm, t, h, x, hx => by
    rw [win_succ] at h hx
    by_cases hh : hasN l (red (b + (m : Int))).1 = true
    · rw [sorted_hit l _ hh] at h hx
      rw [List.getLast?_append] at h
      simp at h
      subst h
      have hg : gap b (red (b + (m : Int))).1 = m := by
        show ((b + (m : Int)) % 128 - b) % 128 = _
        omega
      rw [hg]
      rcases List.mem_append.1 hx with hx | hx
      · unfold sorted at hx
        obtain ⟨y, hy, rfl⟩ := List.mem_map.1 hx
        obtain ⟨i, hi, he⟩ := win_mem (List.mem_filter.1 hy).1
        unfold gap
        rw [he]
        omega
      · simp at hx
        subst hx
        rw [hg]
        omega
    · rw [sorted_miss l _ (by simpa using hh)] at h hx
      exact sorted_last l b m (by omega) t h x hx
theorem missing_iff {r : Rcv} (h : r.Ok) {n : Int} : n ∈ r.missing ↔ 0 ≤ n ∧ n < 128 ∧ n ∉ r.keys ∧ ∃ k ∈ r.keys, gap r.waits n < gap r.waits k := by
  unfold Rcv.missing
  cases hl : r.numbers.getLast? with
  | none =>
    have h0 : r.numbers = [] := List.getLast?_eq_none_iff.1 hl
    constructor
    · intro hn; cases hn
    · rintro ⟨_, _, _, k, hk, _⟩
      have := (numbers_mem h).2 hk
      rw [h0] at this
      cases this
  | some t =>
    have htk := (numbers_mem h).1 (List.mem_of_getLast? hl)
    have ht := h.keys t htk
    have hno : ∀ j : Int, 0 ≤ j → j < 128 → (hasN r.numbers j = true ↔ j ∈ r.keys) := by
      intro j h0 h1
      unfold hasN
      rw [List.any_eq_true]
      constructor
      · rintro ⟨y, hy, he⟩
        have hy' := (numbers_mem h).1 hy
        have := h.keys y hy'
        have e : y % 128 = j := by simpa using he
        have : y = j := by omega
        exact this ▸ hy'
      · intro hj
        exact ⟨j, (numbers_mem h).2 hj, by simp; omega⟩
    show n ∈ missed r.numbers (win r.waits ((t - (r.waits : Int)) % 128).toNat) ↔ _
    unfold missed
    constructor
    · intro hn
      obtain ⟨x, hx, rfl⟩ := List.mem_map.1 hn
      obtain ⟨hx1, hx2⟩ := List.mem_filter.1 hx
      obtain ⟨i, hi, he⟩ := win_mem hx1
      refine ⟨x.2.1, x.2.2, fun hk => ?_, t, htk, ?_⟩
      · have := (hno x.1 x.2.1 x.2.2).2 hk
        rw [this] at hx2
        cases hx2
      · unfold gap
        rw [he]
        omega
    · rintro ⟨h0, h1, h2, k, hk, hg⟩
      have hkt : gap r.waits k ≤ gap r.waits t := sorted_last r.keys r.waits 128 (by omega) t hl k ((numbers_mem h).2 hk)
      have hgi : gap r.waits n < gap r.waits t := by omega
      unfold gap at hgi
      refine List.mem_map.2 ⟨red n, List.mem_filter.2 ⟨?_, ?_⟩, by show n % 128 = n; omega⟩
      · have h2' := mem_win (b := (r.waits : Int)) (m := ((t - (r.waits : Int)) % 128).toNat) (i := ((n - (r.waits : Int)) % 128).toNat) (by omega)
        have e : red ((r.waits : Int) + (((n - (r.waits : Int)) % 128).toNat : Int)) = red n := Subtype.ext (show _ % 128 = n % 128 by omega)
        rw [e] at h2'
        exact h2'
      · have : hasN r.numbers (red n).1 ≠ true := fun hh => h2 (by
          have e : (red n).1 = n := by show n % 128 = n; omega
          rw [e] at hh
          exact (hno n h0 h1).1 hh)
        simpa using this
theorem dropK_mem {α : Type} : ∀ (f : List (Int × α)) (k : Int) (x : Int × α), x ∈ f → x.1 ≠ k → x ∈ dropK f k
  | y :: f, k, x, hx, hne => by
    rw [dropK_cons]
    rcases List.mem_cons.1 hx with rfl | hx
    · rw [if_neg (fun e => hne e.symm)]
      exact List.mem_cons_self
    · split
      · exact hx
      · exact List.mem_cons_of_mem _ (dropK_mem f k x hx hne)
theorem getC_none : ∀ (A : List (Int × Int)) (k : Int), k ∉ A.map (·.1) → getC A k = 0
  | [], k, _ => rfl
  | y :: A, k, h => by
    rw [getC_cons, if_neg (fun e => h (by simp [e]))]
    exact getC_none A k fun g => h (by simp only [List.map_cons, List.mem_cons]; exact .inr g)
theorem getC_dropped : ∀ (A : List (Int × Int)) (k : Int), (A.map (·.1)).Nodup → getC (dropK A k) k = 0
  | [], k, _ => rfl
  | y :: A, k, h => by
    simp only [List.map_cons, List.nodup_cons] at h
    rw [dropK_cons]
    split
    · rename_i e
      rw [e]
      exact getC_none A _ h.1
    · rename_i e
      rw [getC_cons, if_neg e]
      exact getC_dropped A k h.2
theorem chgK_nodup : ∀ (A : List (Int × Int)) (k v : Int), (A.map (·.1)).Nodup → ((chgK A k v).map (·.1)).Nodup ∧ ∀ x ∈ (chgK A k v).map (·.1), x = k ∨ x ∈ A.map (·.1)
  | [], k, v, _ => by
    refine ⟨?_, fun x hx => ?_⟩
    · simp [chgK, pos]
    · simp [chgK, pos] at hx; exact .inl hx
  | y :: A, k, v, h => by
    simp only [List.map_cons, List.nodup_cons] at h
    rw [chgK_cons]
    obtain ⟨h1, h2⟩ := chgK_nodup A k v h.2
    split
    · rename_i e
      refine ⟨?_, fun x hx => .inr (by simpa [e] using hx)⟩
      simp only [List.map_cons, List.nodup_cons]
      rw [e]
      exact h
    · rename_i e
      refine ⟨?_, fun x hx => ?_⟩
      · simp only [List.map_cons, List.nodup_cons]
        refine ⟨fun g => ?_, h1⟩
        rcases h2 _ g with g | g
        · exact e g.symm
        · exact h.1 g
      · simp only [List.map_cons, List.mem_cons] at hx ⊢
        rcases hx with hx | hx
        · exact .inr (.inl hx)
        · rcases h2 _ hx with g | g
          · exact .inl g
          · exact .inr (.inr g)
/-- What is told is gone, the others are still kept. -/
theorem drain_keys : ∀ (n : Nat) (r : Rcv), r.Ok → (∀ k ∈ (r.drain n).2.keys, k ∈ r.keys) ∧ (∀ k ∈ r.keys, k ∈ (r.drain n).2.keys ∨ ∃ i : Nat, i < (r.drain n).1.length ∧ k = (((r.waits + i) % 128 : Nat) : Int))
  | 0, r, h => ⟨fun k hk => hk, fun k hk => .inl hk⟩
  | n + 1, r, h => by
    rw [Rcv.drain]
    cases hp : pos r.kept r.waits with
    | none => exact ⟨fun k hk => hk, fun k hk => .inl hk⟩
    | some y =>
      obtain ⟨h1, h2⟩ := drain_keys n r.next h.next
      have hsub : ∀ k ∈ r.next.keys, k ∈ r.keys := fun k hk => by
        obtain ⟨x, hx, rfl⟩ := List.mem_map.1 hk
        exact List.mem_map.2 ⟨x, (dropK_sub r.kept r.waits).subset hx, rfl⟩
      refine ⟨fun k hk => hsub k (h1 k hk), fun k hk => ?_⟩
      by_cases e : k = (r.waits : Int)
      · right
        have := h.waits
        exact ⟨0, by simp, by rw [e, Nat.add_zero, Nat.mod_eq_of_lt this]⟩
      · have hk' : k ∈ r.next.keys := by
          obtain ⟨x, hx, rfl⟩ := List.mem_map.1 hk
          refine List.mem_map.2 ⟨x, ?_, rfl⟩
          show x ∈ dropK r.kept r.waits
          exact dropK_mem r.kept r.waits x hx e
        rcases h2 k hk' with h3 | ⟨i, h3, h4⟩
        · exact .inl h3
        · right
          refine ⟨i + 1, by simpa using h3, ?_⟩
          have e2 : (r.next.waits + i) % 128 = (r.waits + (i + 1)) % 128 := by simp only [Rcv.next]; omega
          rw [← e2]
          exact h4
theorem drain_zero : ∀ (n : Nat) (r : Rcv) (m : Nat), Bnd m r.asked → r.waits < 128 → (r.asked.map (·.1)).Nodup → (r.drain n).1.length ≤ 128 → ((r.drain n).2.asked.map (·.1)).Nodup ∧ ∀ i : Nat, i < (r.drain n).1.length → getC (r.drain n).2.asked (((r.waits + i) % 128 : Nat) : Int) = 0
  | 0, r, m, hb, hw, h, hl => ⟨h, fun i hi => by simp [Rcv.drain] at hi⟩
  | n + 1, r, m, hb, hw, h, hl => by
    rw [Rcv.drain] at hl ⊢
    cases hp : pos r.kept r.waits with
    | none => exact ⟨h, fun i hi => by simp at hi⟩
    | some y =>
      rw [hp] at hl
      have hl' : (r.next.drain n).1.length + 1 ≤ 128 := by simpa using hl
      have hnd : (r.next.asked.map (·.1)).Nodup := h.sublist ((dropK_sub r.asked r.waits).map _)
      have hbn : Bnd m r.next.asked := fun x hx => hb x ((dropK_sub r.asked r.waits).subset hx)
      have hwn : r.next.waits < 128 := by simp only [Rcv.next]; omega
      obtain ⟨h1, h2⟩ := drain_zero n r.next m hbn hwn hnd (by omega)
      refine ⟨h1, fun i hi => ?_⟩
      cases i with
      | zero =>
        have h3 := (drain_asked n r.next m hbn).2 (r.waits : Int) (fun i hi e => by
          have : r.next.waits = (r.waits + 1) % 128 := rfl
          omega) hwn
        rw [Nat.add_zero, Nat.mod_eq_of_lt hw]
        show getC (r.next.drain n).2.asked _ = 0
        rw [h3]
        exact getC_dropped r.asked r.waits h
      | succ i =>
        have e2 : (r.waits + (i + 1)) % 128 = (r.next.waits + i) % 128 := by simp only [Rcv.next]; omega
        rw [e2]
        exact h2 i (by simpa using hi)
/-- Counting: those that were not counted yet are asked for. -/
theorem ask_filter : ∀ (l : List Int) (A : List (Int × Int)) (acc : List Int) (m : Nat), Bnd m A → m + l.length ≤ 900000 → l.Nodup → (A.map (·.1)).Nodup →
    (l.foldl askOne (A, acc)).2 = acc ++ l.filter (fun n => getC A n == 0) ∧ (∀ n, n ∉ l → getC (l.foldl askOne (A, acc)).1 n = getC A n) ∧ ((l.foldl askOne (A, acc)).1.map (·.1)).Nodup
  | [], A, acc, m, h, _, _, hn => ⟨by simp, fun _ _ => rfl, hn⟩
  | x :: l, A, acc, m, h, hm, hl, hn => by
    have hm' : m + l.length + 1 ≤ 900000 := by simpa [Nat.add_assoc] using hm
    have hx := h.get x
    have hw : wrap64 (getC A x + 1) = getC A x + 1 := wrap_in ⟨by omega, by omega⟩
    have hB : Bnd (m + 1) (chgK A x (getC A x + 1)) := (h.mono (Nat.le_succ m)).chg ⟨by omega, by omega⟩
    have e : askOne (A, acc) x = (chgK A x (getC A x + 1), if getC A x = 0 then acc ++ [x] else acc) := by simp only [askOne, hw]
    have hl' := List.nodup_cons.1 hl
    obtain ⟨h1, h2, h3⟩ := ask_filter l (chgK A x (getC A x + 1)) (if getC A x = 0 then acc ++ [x] else acc) (m + 1) hB (by omega) hl'.2 (chgK_nodup A x _ hn).1
    rw [List.foldl_cons, e]
    refine ⟨?_, fun n hnl => ?_, h3⟩
    · rw [h1]
      have hf : l.filter (fun n => getC (chgK A x (getC A x + 1)) n == 0) = l.filter (fun n => getC A n == 0) := by
        refine List.filter_congr fun n hnl => ?_
        rw [getC_chg, if_neg (fun e => hl'.1 (by rw [← e]; exact hnl))]
      rw [hf]
      by_cases hz : getC A x = 0
      · rw [if_pos hz, List.filter_cons_of_pos (by simp [hz]), List.append_assoc]
        rfl
      · rw [if_neg hz, List.filter_cons_of_neg (by simp [hz])]
    · rw [h2 n (fun g => hnl (List.mem_cons_of_mem _ g)), getC_chg, if_neg (fun e => hnl (by rw [e]; exact List.mem_cons_self))]
theorem win_nodup (b : Int) : ∀ m : Nat, m ≤ 128 → (win b m).Nodup
  | 0, _ => by simp [win]
  | m + 1, hm => by
    rw [win_succ]
    refine List.nodup_append.2 ⟨win_nodup b m (by omega), by simp, fun x hx y hy e => ?_⟩
    simp at hy
    obtain ⟨i, hi, he⟩ := win_mem hx
    rw [e, hy] at he
    have : (b + (m : Int)) % 128 = (b + (i : Int)) % 128 := he
    omega
theorem missing_nodup (r : Rcv) : r.missing.Nodup := by
  unfold Rcv.missing
  split
  · exact List.nodup_nil
  · rename_i t _
    unfold missed
    have h9 : ((t - (r.waits : Int)) % 128).toNat ≤ 128 := by omega
    exact List.Pairwise.map _ (fun x y hne e => hne (Subtype.ext e)) (List.Pairwise.filter _ (win_nodup _ _ h9))
/-- Take: what is asked for, and what stands behind it. -/
theorem AskRel.took {r : Rcv} (h : r.Ok) {m : Nat} (hb : Bnd m r.asked) (hm : m ≤ 800000) {A : List Int} (hA : AskRel r A) {ns : Int} {p : List Int} (hc : r.chk ns p.length = 0) :
    AskRel (r.took ns p) (r.took ns p).missing ∧ r.asks ns p = (r.took ns p).missing.filter (fun n => !A.contains n) ∧ Bnd (m + 128) (r.took ns p).asked := by
  have hP := (h.put hc p).1
  obtain ⟨h1, h2, h3, h4⟩ := drain_ok (r.with_ ns p).kept.length _ hP
  obtain ⟨g1, g2⟩ := drain_asked (r.with_ ns p).kept.length (r.with_ ns p) m hb
  obtain ⟨d1, d2⟩ := drain_keys (r.with_ ns p).kept.length (r.with_ ns p) hP
  have hl := hP.len
  have hs2 := h.size2
  have ew : (r.with_ ns p).waits = r.waits := rfl
  have es : (r.with_ ns p).size = r.size := rfl
  rw [es] at hl
  obtain ⟨z1, z2⟩ := drain_zero (r.with_ ns p).kept.length (r.with_ ns p) m hb hP.waits hA.nodup (by omega)
  have hms : (r.took ns p).missing = (r.gone ns p).2.missing := rfl
  have hks : (r.took ns p).keys = (r.gone ns p).2.keys := rfl
  have hle := rmissing_le' (r.gone ns p).2
  obtain ⟨k1, k2, k3, k4, k5⟩ := ask_laws (r.gone ns p).2.missing (r.gone ns p).2.asked [] m g1 (by omega)
  obtain ⟨f1, f2, f3⟩ := ask_filter (r.gone ns p).2.missing (r.gone ns p).2.asked [] m g1 (by omega) (missing_nodup _) z1
  have hwt : (r.gone ns p).2.waits = (r.waits + (r.gone ns p).1.length) % 128 := h4
  have hgs : (r.gone ns p).2.size = r.size := h3
  have hT : (r.gone ns p).1.length ≤ 63 := by
    have : (r.gone ns p).1.length ≤ (r.with_ ns p).kept.length := h2
    omega
  -- a number that is not told
  have far : ∀ n : Int, 0 ≤ n → n < 128 → (∀ i : Nat, i < (r.gone ns p).1.length → n ≠ (((r.waits + i) % 128 : Nat) : Int)) → (r.gone ns p).1.length ≤ gap r.waits n := by
    intro n n0 n1 hn
    apply Classical.byContradiction
    intro hlt
    have := hn (gap r.waits n).toNat (by unfold gap at *; omega)
    unfold gap at *
    have hw := h.waits
    omega
  have near : ∀ n : Int, n ∈ (r.gone ns p).2.missing → ∀ i : Nat, i < (r.gone ns p).1.length → n ≠ (((r.waits + i) % 128 : Nat) : Int) := by
    intro n hn i hi e
    have := missing_mem h1 hn
    rw [show ((r.with_ ns p).drain (r.with_ ns p).kept.length).2.waits = (r.gone ns p).2.waits from rfl, show ((r.with_ ns p).drain (r.with_ ns p).kept.length).2.size = (r.gone ns p).2.size from rfl, hgs, hwt] at this
    omega
  have same : ∀ n : Int, (∀ i : Nat, i < (r.gone ns p).1.length → n ≠ (((r.waits + i) % 128 : Nat) : Int)) → getC (r.gone ns p).2.asked n = getC r.asked n := fun n hn => g2 n hn hP.waits
  have nokey : ∀ n : Int, n ∉ (r.gone ns p).2.keys → (∀ i : Nat, i < (r.gone ns p).1.length → n ≠ (((r.waits + i) % 128 : Nat) : Int)) → n ∉ r.keys := by
    intro n hn hi hk
    have : n ∈ (r.with_ ns p).keys := by
      unfold Rcv.keys Rcv.with_
      rw [List.map_append]
      exact List.mem_append.2 (.inl hk)
    rcases d2 n this with h5 | ⟨i, h5, h6⟩
    · exact hn h5
    · exact hi i h5 h6
  refine ⟨⟨f3, fun n hn => hn, fun n hn => ?_⟩, ?_, Bnd.mono k1 (by omega)⟩
  · rw [hms]
    by_cases hM : n ∈ (r.gone ns p).2.missing
    · have := k3 n hM
      constructor
      · intro e
        have e' : getC (askAll (r.gone ns p).2.asked (r.gone ns p).2.missing).1 n = 0 := e
        unfold askAll at e'
        omega
      · intro g; exact absurd hM g
    · refine ⟨fun _ => hM, fun _ => ?_⟩
      show getC (askAll (r.gone ns p).2.asked (r.gone ns p).2.missing).1 n = 0
      unfold askAll
      rw [f2 n hM]
      by_cases hd : ∃ i : Nat, i < (r.gone ns p).1.length ∧ n = (((r.waits + i) % 128 : Nat) : Int)
      · obtain ⟨i, hi, rfl⟩ := hd
        exact z2 i hi
      · have hd' : ∀ i : Nat, i < (r.gone ns p).1.length → n ≠ (((r.waits + i) % 128 : Nat) : Int) := fun i hi e => hd ⟨i, hi, e⟩
        rw [same n hd']
        have hnk := nokey n hn hd'
        refine (hA.iff n hnk).2 fun hnA => hM ?_
        obtain ⟨n0, n1, _, k, hk, hgk⟩ := (missing_iff h).1 (hA.sub n hnA)
        have hfn := far n n0 n1 hd'
        have hkk := h.keys k hk
        have hkd : ∀ i : Nat, i < (r.gone ns p).1.length → k ≠ (((r.waits + i) % 128 : Nat) : Int) := by
          intro i hi e
          have : gap r.waits k = i := by
            unfold gap
            rw [e]
            have := h.waits
            omega
          omega
        have hkw : k ∈ (r.with_ ns p).keys := by
          unfold Rcv.keys Rcv.with_
          rw [List.map_append]
          exact List.mem_append.2 (.inl hk)
        have hkg : k ∈ (r.gone ns p).2.keys := by
          rcases d2 k hkw with h5 | ⟨i, h5, h6⟩
          · exact h5
          · exact absurd h6 (hkd i h5)
        refine (missing_iff h1).2 ⟨n0, n1, hn, k, hkg, ?_⟩
        show gap ((r.gone ns p).2.waits : Int) n < gap ((r.gone ns p).2.waits : Int) k
        rw [hwt]
        have hfk := far k hkk.1 hkk.2.1 hkd
        unfold gap at *
        omega
  · show (askAll (r.gone ns p).2.asked (r.gone ns p).2.missing).2 = _
    unfold askAll
    rw [f1, List.nil_append, hms]
    refine List.filter_congr fun n hn => ?_
    have hd' := near n hn
    have hnk := nokey n ((missing_iff h1).1 hn).2.2.1 hd'
    have hi := hA.iff n hnk
    rw [same n hd']
    by_cases hnA : n ∈ A
    · have h0 : ¬ getC r.asked n = 0 := fun e => hi.1 e hnA
      have e1 : (getC r.asked n == 0) = false := by simpa using h0
      rw [e1]
      simp [hnA]
    · have h0 := hi.2 hnA
      rw [h0]
      simp [hnA]

end Go.Proofs.YthmdibagcbbgoaaGreat

namespace Go.Proofs.YthmdibagcbbgoaaGreat
open Go.RowKit

/-- Where rows of values may lie: all that is there, but for C. -/
def Live (C : Nat → Prop) (w : World) (k : Nat) : Prop := k < w.heap.size ∧ ¬ C k
def kCtl : Kind9 Cn := ⟨Cn.agg, Cn.data, 7, by decide, fun _ _ => rfl, fun c o n m y hy => by
  simp [Cn.agg] at hy
  rcases hy with rfl | rfl | rfl | rfl | rfl | rfl | rfl <;> rfl⟩
def kKept : Kind9 (Int × List Int) := ⟨fun c x => #[.int .i64 c.1, x], fun c => c.2, 2, by decide, fun _ _ => rfl, fun c o n m y hy => by
  simp at hy
  rcases hy with rfl | rfl <;> rfl⟩
def kPay : Kind9 (List Int) := ⟨fun _ x => #[x], fun p => p, 1, by decide, fun _ _ => rfl, fun c o n m y hy => by
  simp at hy
  rw [hy]; rfl⟩
theorem els_pays {F : Nat → Prop} {w : World} {v : Value} {l : List (List Int)} (h : Els kPay F w v l) : Pays F w v l := by
  obtain ⟨cs, ⟨h1, h2, ao, cap, rfl, h3, h4, h5⟩, h6⟩ := h
  have hl : cs.length = l.length := by rw [h1]; exact Nat.mul_one _
  refine ⟨cs, hl, ⟨⟨by omega, ao, cap, by rw [hl], ⟨by omega, h3.2⟩, fun i x hx => h5 i x hx⟩, fun k hk => ?_⟩, fun i x p hx hp => ?_⟩
  · cases ao with
    | none => cases hk
    | some a =>
      obtain ⟨b, o, s⟩ := a
      cases hk
      exact h4 _ _ _ rfl
  · obtain ⟨y, y1, y2⟩ := h6 i p hp
    have e : cs[i * 1 + 0]? = some y := y1 0 y rfl
    rw [Nat.mul_one, Nat.add_zero, hx] at e
    cases e
    exact y2
theorem pays_els {F : Nat → Prop} {w : World} {v : Value} {l : List (List Int)} (h : Pays F w v l) : Els kPay F w v l := by
  obtain ⟨vs, h1, ⟨⟨hm, ao, cap, rfl, hn, hc⟩, hF⟩, h3⟩ := h
  refine ⟨vs, ⟨by rw [h1]; exact (Nat.mul_one _).symm, by omega, ao, cap, by rw [h1], ⟨by omega, hn.2⟩, fun b o s e => hF b (by rw [e]; rfl), fun j u hu => ?_⟩, fun i p hp => ?_⟩
  · exact hc j u hu
  · have hi := (List.getElem?_eq_some_iff.1 hp).1
    obtain ⟨x, hx⟩ := get_some (xs := vs) (k := i) (by omega)
    refine ⟨x, fun j y hy => ?_, h3 i x p hx hp⟩
    have hj := (Array.getElem?_eq_some_iff.1 hy).1
    have hj0 : j = 0 := by
      have : j < 1 := hj
      omega
    subst hj0
    show vs[i * 1 + 0]? = some y
    rw [Nat.mul_one, Nat.add_zero, hx]
    exact hy

def Lk.ref (t : Lk) (sl rl ra ov iv : Value) : Array Value :=
  #[.int .i64 t.me, .int .i64 t.peer, .bool t.up, .int .i64 t.timer, .int .i64 t.tries, .int .i64 t.left, .int .i64 t.tried, .int .i64 t.resets, .bool t.busy, .bool t.held, .int .i64 t.s.size, .int .i64 t.s.base, sl, .int .i64 t.s.under, .int .i64 t.r.size, .int .i64 t.r.waits, rl, ra, ov, iv]
structure RfAt (C : Nat → Prop) (w : World) (sl rl ra ov iv : Value) (t : Lk) : Prop where
  lim : ∀ k, C k → k < w.heap.size
  snd : Pays (Live C w) w sl t.s.ps
  kept : Els kKept (Live C w) w rl t.r.kept
  asked : ∃ A, Rd (Live C w) (Value.int .i64) w ra A ∧ AskRel t.r A
  out : Els kCtl (Live C w) w ov t.out
  inn : Pays (Live C w) w iv t.inn
section
variable {C D : Nat → Prop} {w w' W W' : World} {sl rl ra ov iv sl' rl' ra' ov' iv' : Value} {t t' : Lk} {a z : Nat}
theorem Live.grow (hs : w.heap.size ≤ w'.heap.size) {k : Nat} (h : Live C w k) : Live C w' k := ⟨Nat.lt_of_lt_of_le h.1 hs, h.2⟩
theorem RfAt.fr {G : Nat → Prop} (h : RfAt C w sl rl ra ov iv t) (hf : Fr G w w') (hG : ∀ k, k < w.heap.size → ¬ C k → ¬ G k) : RfAt C w' sl rl ra ov iv t := by
  have hd : ∀ k, Live C w k → ¬ G k := fun k hk => hG k hk.1 hk.2
  have hm : ∀ k, Live C w k → Live C w' k := fun k hk => hk.grow hf.size
  obtain ⟨A, hA, hA2⟩ := h.asked
  exact ⟨fun k hk => Nat.lt_of_lt_of_le (h.lim k hk) hf.size, (h.snd.fr hf hd).mono hm, (h.kept.fr hf hd).mono hm, ⟨A, (hA.fr hf hd).mono hm, hA2⟩, (h.out.fr hf hd).mono hm, (h.inn.fr hf hd).mono hm⟩
theorem RfAt.below (h : RfAt C w sl rl ra ov iv t) (hb : Below w.heap.size w w') : RfAt C w' sl rl ra ov iv t := h.fr (G := fun _ => False) (.of_below hb) fun _ _ _ g => g
theorem RfAt.mono (h : RfAt C w sl rl ra ov iv t) (hD : ∀ k, D k → C k) : RfAt D w sl rl ra ov iv t := by
  have hm : ∀ k, Live C w k → Live D w k := fun k hk => ⟨hk.1, fun g => hk.2 (hD k g)⟩
  obtain ⟨A, hA, hA2⟩ := h.asked
  exact ⟨fun k hk => h.lim k (hD k hk), h.snd.mono hm, h.kept.mono hm, ⟨A, hA.mono hm, hA2⟩, h.out.mono hm, h.inn.mono hm⟩
/-- Blocks made since are nobody's rows. -/
theorem RfAt.keep (h : RfAt C w sl rl ra ov iv t) (hb : Below w.heap.size w w') (hD : ∀ k, D k → C k ∨ (w.heap.size ≤ k ∧ k < w'.heap.size)) : RfAt D w' sl rl ra ov iv t := by
  have hf : Fr (fun _ => False) w w' := .of_below hb
  have hm : ∀ k, Live C w k → Live D w' k := fun k hk => ⟨Nat.lt_of_lt_of_le hk.1 hb.size, fun g => by
    rcases hD k g with h1 | h1
    · exact hk.2 h1
    · have := hk.1; omega⟩
  have hd : ∀ k, Live C w k → ¬ (fun _ => False) k := fun _ _ g => g
  obtain ⟨A, hA, hA2⟩ := h.asked
  exact ⟨fun k hk => by
    rcases hD k hk with h1 | h1
    · exact Nat.lt_of_lt_of_le (h.lim k h1) hb.size
    · exact h1.2, (h.snd.fr hf hd).mono hm, (h.kept.fr hf hd).mono hm, ⟨A, (hA.fr hf hd).mono hm, hA2⟩, (h.out.fr hf hd).mono hm, (h.inn.fr hf hd).mono hm⟩
theorem RfAt.form (h : RfAt C w sl rl ra ov iv t) : (∃ o c, sl = .slice o t.s.ps.length c) ∧ (∃ o n c, rl = .slice o n c) ∧ (∃ o n c, ra = .slice o n c) ∧ (∃ o n c, ov = .slice o n c) ∧ ∃ o n c, iv = .slice o n c := by
  obtain ⟨o1, c1, e1, _⟩ := h.snd.form
  obtain ⟨o2, c2, e2, _⟩ := h.kept.form
  obtain ⟨A, ⟨⟨_, o3, c3, e3, _⟩, _⟩, _⟩ := h.asked
  obtain ⟨o4, c4, e4, _⟩ := h.out.form
  obtain ⟨o5, c5, e5, _⟩ := h.inn.form
  exact ⟨⟨_, _, e1⟩, ⟨_, _, _, e2⟩, ⟨_, _, _, e3⟩, ⟨_, _, _, e4⟩, _, _, _, e5⟩
theorem RfAt.one (h : RfAt C w sl rl ra ov iv t) : (t.ref sl rl ra ov iv).all (·.oneCell') = true := by
  obtain ⟨⟨o1, c1, rfl⟩, ⟨o2, n2, c2, rfl⟩, ⟨o3, n3, c3, rfl⟩, ⟨o4, n4, c4, rfl⟩, o5, n5, c5, rfl⟩ := h.form
  simp [Lk.ref, Value.oneCell']
/-- Only what is not a row is another one. -/
theorem RfAt.same (h : RfAt C w sl rl ra ov iv t) (h1 : t'.s.ps = t.s.ps) (h2 : t'.r = t.r) (h4 : t'.out = t.out) (h5 : t'.inn = t.inn) : RfAt C w sl rl ra ov iv t' :=
  ⟨h.lim, by rw [h1]; exact h.snd, by rw [h2]; exact h.kept, by rw [h2]; exact h.asked, by rw [h4]; exact h.out, by rw [h5]; exact h.inn⟩

/-- The end in its box, and the box of the result. -/
structure Bx (C : Nat → Prop) (w W : World) (a z : Nat) (sl rl ra ov iv : Value) (t : Lk) : Prop where
  rf : RfAt (fun k => C k ∨ k = a ∨ k = z) W sl rl ra ov iv t
  ba : W.heap[a]? = some (.cells (t.ref sl rl ra ov iv) 38 (0, 0))
  bz : ∃ cs, cs.size = 20 ∧ W.heap[z]? = some (.cells cs 38 (0, 0))
  ha : w.heap.size ≤ a
  hz : w.heap.size ≤ z
  ne : a ≠ z
  bl : Below w.heap.size w W
/-- What a function that gives an end back leaves. -/
structure Rf9 (C : Nat → Prop) (w : World) (t : Lk) (e : Ending) (w' : World) : Prop where
  ex : ∃ sl rl ra ov iv, e = .returned (.agg (t.ref sl rl ra ov iv)) ∧ RfAt C w' sl rl ra ov iv t
  bl : Below w.heap.size w w'
/-- The same with an error number. -/
structure Rf9E (C : Nat → Prop) (w : World) (t : Lk) (E : Int) (e : Ending) (w' : World) : Prop where
  ex : ∃ sl rl ra ov iv, e = .returned (.tuple #[.agg (t.ref sl rl ra ov iv), .int .i64 E]) ∧ RfAt C w' sl rl ra ov iv t
  bl : Below w.heap.size w w'
theorem Bx.below (h : Bx C w W a z sl rl ra ov iv t) (hb : Below W.heap.size W W') : Bx C w W' a z sl rl ra ov iv t := by
  obtain ⟨cs, h1, h2⟩ := h.bz
  exact ⟨h.rf.below hb, bl_get hb h.ba, ⟨cs, h1, bl_get hb h2⟩, h.ha, h.hz, h.ne, bl_trans h.bl hb⟩
theorem Bx.lt (h : Bx C w W a z sl rl ra ov iv t) : a < W.heap.size ∧ z < W.heap.size := by
  obtain ⟨cs, h1, h2⟩ := h.bz
  exact ⟨lt_of_get h.ba, lt_of_get h2⟩
theorem Bx.cell (h : Bx C w W a z sl rl ra ov iv t) (j : Nat) {v : Value} (hv : (t.ref sl rl ra ov iv)[j]? = some v) : W.cell? ⟨a, j, none⟩ = some v := by rw [cell_of_row _ _ _ _ _ _ h.ba]; exact hv
theorem Bx.frozen (h : Bx C w W a z sl rl ra ov iv t) (j : Nat) : W.frozen? ⟨a, j, none⟩ = false := rc_frozen h.ba
/-- A call gave another end, that was stored into the box. -/
theorem Bx.stored (h : Bx C w W a z sl rl ra ov iv t) (hb : Below W.heap.size W W') (hr : RfAt (fun k => C k ∨ k = a ∨ k = z) W' sl' rl' ra' ov' iv' t') : Bx C w (W'.setRow a (t'.ref sl' rl' ra' ov' iv')) a z sl' rl' ra' ov' iv' t' := by
  obtain ⟨cs, h1, h2⟩ := h.bz
  have hf := fr_row W' a (t'.ref sl' rl' ra' ov' iv')
  refine ⟨hr.fr hf fun k _ hn e => hn (.inr (.inl e)), setRow_heap W' a _ _ _ _ (bl_get hb h.ba), ⟨cs, h1, hf.get (bl_get hb h2) fun e => h.ne e.symm⟩, h.ha, h.hz, h.ne, bl_fr (bl_trans h.bl hb) hf fun k hk => by rw [hk]; exact h.ha⟩
/-- A field was written. -/
theorem Bx.put (h : Bx C w W a z sl rl ra ov iv t) (j : Nat) (v : Value) (hv : (t.ref sl rl ra ov iv).setIfInBounds j v = t'.ref sl' rl' ra' ov' iv') (hr : RfAt (fun k => C k ∨ k = a ∨ k = z) W sl' rl' ra' ov' iv' t') : Bx C w (W.setCell ⟨a, j, none⟩ v) a z sl' rl' ra' ov' iv' t' := by
  obtain ⟨cs, h1, h2⟩ := h.bz
  have hf := fr_cell W a j v
  refine ⟨hr.fr hf fun k _ hn e => hn (.inr (.inl e)), ?_, ⟨cs, h1, hf.get h2 fun e => h.ne e.symm⟩, h.ha, h.hz, h.ne, bl_fr h.bl hf fun k hk => by rw [hk]; exact h.ha⟩
  rw [← hv]
  exact rc_set W a j _ _ v h.ba
theorem Bx.put1 (h : Bx C w W a z sl rl ra ov iv t) (j : Nat) (v : Value) (hv : (t.ref sl rl ra ov iv).setIfInBounds j v = t'.ref sl rl ra ov iv) (h1 : t'.s.ps = t.s.ps) (h2 : t'.r = t.r) (h4 : t'.out = t.out) (h5 : t'.inn = t.inn) : Bx C w (W.setCell ⟨a, j, none⟩ v) a z sl rl ra ov iv t' := h.put j v hv (h.rf.same h1 h2 h4 h5)
theorem Bx.byt (h : Bx C w W a z sl rl ra ov iv t) {x : Value} {p : List Int} (hx : Byt (Live C w) w x p) : Byt (Live (fun k => C k ∨ k = a ∨ k = z) W) W x p :=
  (hx.below h.bl).mono fun k hk => ⟨Nat.lt_of_lt_of_le hk.1 h.bl.size, fun g => by
    have h1 := h.ha
    have h2 := h.hz
    have h3 := hk.1
    rcases g with g | g | g
    · exact hk.2 g
    · omega
    · omega⟩
/-- Its box was turned. -/
theorem Bx.turn (h : Bx C w W a z sl rl ra ov iv t) (hf : Fr (fun k => k = a) W W') (hb : W'.heap[a]? = some (.cells (t'.ref sl' rl' ra' ov' iv') 38 (0, 0))) (hr : RfAt (fun k => C k ∨ k = a ∨ k = z) W sl' rl' ra' ov' iv' t') : Bx C w W' a z sl' rl' ra' ov' iv' t' := by
  obtain ⟨cs, h1, h2⟩ := h.bz
  exact ⟨hr.fr hf fun k _ hn e => hn (.inr (.inl e)), hb, ⟨cs, h1, hf.get h2 fun e => h.ne e.symm⟩, h.ha, h.hz, h.ne, bl_fr h.bl hf fun k hk => by rw [hk]; exact h.ha⟩
theorem fr_cells4 (W : World) (a j k l m : Nat) (x1 x2 x3 x4 : Value) : Fr (fun i => i = a) W ((((W.setCell ⟨a, j, none⟩ x1).setCell ⟨a, k, none⟩ x2).setCell ⟨a, l, none⟩ x3).setCell ⟨a, m, none⟩ x4) :=
  (((fr_cell W a j x1).trans (fr_cell _ a k x2) fun _ h => .inl h).trans (fr_cell _ a l x3) fun _ h => .inl h).trans (fr_cell _ a m x4) fun _ h => .inl h
/-- Its sender was written. -/
theorem Bx.putS (h : Bx C w W a z sl rl ra ov iv t) (s' : Snd) (hP : Pays (Live (fun k => C k ∨ k = a ∨ k = z) W) W sl' s'.ps) :
    Bx C w ((((W.setCell ⟨a, 10, none⟩ (.int .i64 s'.size)).setCell ⟨a, 11, none⟩ (.int .i64 s'.base)).setCell ⟨a, 12, none⟩ sl').setCell ⟨a, 13, none⟩ (.int .i64 s'.under)) a z sl' rl ra ov iv { t with s := s' } :=
  h.turn (fr_cells4 _ _ _ _ _ _ _ _ _ _) (rc_set _ a 13 _ _ _ (rc_set _ a 12 _ _ _ (rc_set _ a 11 _ _ _ (rc_set _ a 10 _ _ _ h.ba)))) ⟨h.rf.lim, hP, h.rf.kept, h.rf.asked, h.rf.out, h.rf.inn⟩
/-- Its receiver was written. -/
theorem Bx.putR (h : Bx C w W a z sl rl ra ov iv t) (r' : Rcv) (hK : Els kKept (Live (fun k => C k ∨ k = a ∨ k = z) W) W rl' r'.kept) (hA : ∃ A, Rd (Live (fun k => C k ∨ k = a ∨ k = z) W) (Value.int .i64) W ra' A ∧ AskRel r' A) :
    Bx C w ((((W.setCell ⟨a, 14, none⟩ (.int .i64 r'.size)).setCell ⟨a, 15, none⟩ (.int .i64 r'.waits)).setCell ⟨a, 16, none⟩ rl').setCell ⟨a, 17, none⟩ ra') a z sl rl' ra' ov iv { t with r := r' } :=
  h.turn (fr_cells4 _ _ _ _ _ _ _ _ _ _) (rc_set _ a 17 _ _ _ (rc_set _ a 16 _ _ _ (rc_set _ a 15 _ _ _ (rc_set _ a 14 _ _ _ h.ba)))) ⟨h.rf.lim, h.rf.snd, hK, hA, h.rf.out, h.rf.inn⟩
/-- An end is given back. -/
theorem Bx.rets (h : Bx C w W a z sl rl ra ov iv t) (hb : Below W.heap.size W W') (hr : RfAt (fun k => C k ∨ k = a ∨ k = z) W' sl' rl' ra' ov' iv' t') : Rf9 C w t' (.returned (.agg (t'.ref sl' rl' ra' ov' iv'))) (W'.setRow z (t'.ref sl' rl' ra' ov' iv')) ∧ (W'.setRow z (t'.ref sl' rl' ra' ov' iv')).heap[z]? = some (.cells (t'.ref sl' rl' ra' ov' iv') 38 (0, 0)) := by
  obtain ⟨cs, h1, h2⟩ := h.bz
  have hf := fr_row W' z (t'.ref sl' rl' ra' ov' iv')
  exact ⟨⟨⟨_, _, _, _, _, rfl, (hr.fr hf fun k _ hn e => hn (.inr (.inr e))).mono fun k hk => .inl hk⟩, bl_fr (bl_trans h.bl hb) hf fun k hk => by rw [hk]; exact h.hz⟩, setRow_heap W' z _ _ _ _ (bl_get hb h2)⟩
theorem Bx.ret (h : Bx C w W a z sl rl ra ov iv t) : Rf9 C w t (.returned (.agg (t.ref sl rl ra ov iv))) (W.setRow z (t.ref sl rl ra ov iv)) ∧ (W.setRow z (t.ref sl rl ra ov iv)).heap[z]? = some (.cells (t.ref sl rl ra ov iv) 38 (0, 0)) := h.rets (bl_refl W) h.rf
/-- The same with a second result. -/
theorem Bx.rets2 (h : Bx C w W a z sl rl ra ov iv t) (hb : Below W.heap.size W W') (hr : RfAt (fun k => C k ∨ k = a ∨ k = z) W' sl' rl' ra' ov' iv' t') : RfAt C (W'.setRow z (t'.ref sl' rl' ra' ov' iv')) sl' rl' ra' ov' iv' t' ∧ Below w.heap.size w (W'.setRow z (t'.ref sl' rl' ra' ov' iv')) ∧ (W'.setRow z (t'.ref sl' rl' ra' ov' iv')).heap[z]? = some (.cells (t'.ref sl' rl' ra' ov' iv') 38 (0, 0)) := by
  obtain ⟨⟨⟨_, _, _, _, _, _, h1⟩, h2⟩, h3⟩ := h.rets hb hr
  obtain ⟨cs, g1, g2⟩ := h.bz
  have hf := fr_row W' z (t'.ref sl' rl' ra' ov' iv')
  exact ⟨(hr.fr hf fun k _ hn e => hn (.inr (.inr e))).mono fun k hk => .inl hk, h2, h3⟩
/-- The boxes are made. -/
theorem RfAt.boxes (h : RfAt C w sl rl ra ov iv t) : ∃ W, (w.alloc (.cells (t.ref sl rl ra ov iv) 38)).alloc (.cells #[.int .i64 0, .int .i64 0, .bool false, .int .i64 0, .int .i64 0, .int .i64 0, .int .i64 0, .int .i64 0, .bool false, .bool false, .int .i64 0, .int .i64 0, .slice none 0 0, .int .i64 0, .int .i64 0, .int .i64 0, .slice none 0 0, .slice none 0 0, .slice none 0 0, .slice none 0 0] 38) = W ∧ Bx C w W w.heap.size (w.heap.size + 1) sl rl ra ov iv t := by
  obtain ⟨z20, hz20⟩ : ∃ z20 : Array Value, z20 = #[.int .i64 0, .int .i64 0, .bool false, .int .i64 0, .int .i64 0, .int .i64 0, .int .i64 0, .int .i64 0, .bool false, .bool false, .int .i64 0, .int .i64 0, .slice none 0 0, .int .i64 0, .int .i64 0, .int .i64 0, .slice none 0 0, .slice none 0 0, .slice none 0 0, .slice none 0 0] := ⟨_, rfl⟩
  have hzs : z20.size = 20 := by rw [hz20]; rfl
  rw [← hz20]
  have hb : Below w.heap.size w ((w.alloc (.cells (t.ref sl rl ra ov iv) 38)).alloc (.cells z20 38)) := bl_alloc (bl_alloc (bl_refl w) _) _
  have h1 := heap_alloc2_old w (.cells (t.ref sl rl ra ov iv) 38) (.cells z20 38)
  have h2 := heap_alloc2_new w (.cells (t.ref sl rl ra ov iv) 38) (.cells z20 38)
  have l1 := lt_of_get h1
  have l2 := lt_of_get h2
  exact ⟨_, rfl, h.keep hb fun k hk => by
    rcases hk with hk | rfl | rfl
    · exact .inl hk
    · exact .inr ⟨Nat.le_refl _, l1⟩
    · exact .inr ⟨by omega, l2⟩, h1, ⟨_, hzs, h2⟩, Nat.le_refl _, by omega, by omega, hb⟩
/-- With the box of a control between them. -/
theorem RfAt.boxes3 (h : RfAt C w sl rl ra ov iv t) (cs : Array Value) : ∃ W, ((w.alloc (.cells (t.ref sl rl ra ov iv) 38)).alloc (.cells cs 46)).alloc (.cells #[.int .i64 0, .int .i64 0, .bool false, .int .i64 0, .int .i64 0, .int .i64 0, .int .i64 0, .int .i64 0, .bool false, .bool false, .int .i64 0, .int .i64 0, .slice none 0 0, .int .i64 0, .int .i64 0, .int .i64 0, .slice none 0 0, .slice none 0 0, .slice none 0 0, .slice none 0 0] 38) = W ∧ Bx C w W w.heap.size (w.heap.size + 1 + 1) sl rl ra ov iv t ∧ W.heap[w.heap.size + 1]? = some (.cells cs 46 (0, 0)) := by
  obtain ⟨z20, hz20⟩ : ∃ z20 : Array Value, z20 = #[.int .i64 0, .int .i64 0, .bool false, .int .i64 0, .int .i64 0, .int .i64 0, .int .i64 0, .int .i64 0, .bool false, .bool false, .int .i64 0, .int .i64 0, .slice none 0 0, .int .i64 0, .int .i64 0, .int .i64 0, .slice none 0 0, .slice none 0 0, .slice none 0 0, .slice none 0 0] := ⟨_, rfl⟩
  have hzs : z20.size = 20 := by rw [hz20]; rfl
  rw [← hz20]
  have hb : Below w.heap.size w (((w.alloc (.cells (t.ref sl rl ra ov iv) 38)).alloc (.cells cs 46)).alloc (.cells z20 38)) := bl_alloc (bl_alloc (bl_alloc (bl_refl w) _) _) _
  have h1 := kept_alloc (heap_alloc2_old w (.cells (t.ref sl rl ra ov iv) 38) (.cells cs 46)) (.cells z20 38)
  have h3 := kept_alloc (heap_alloc2_new w (.cells (t.ref sl rl ra ov iv) 38) (.cells cs 46)) (.cells z20 38)
  have h2 := heap_alloc2_new (w.alloc (.cells (t.ref sl rl ra ov iv) 38)) (.cells cs 46) (.cells z20 38)
  rw [World.size_alloc] at h2
  have l1 := lt_of_get h1
  have l2 := lt_of_get h2
  exact ⟨_, rfl, ⟨h.keep hb fun k hk => by
    rcases hk with hk | rfl | rfl
    · exact .inl hk
    · exact .inr ⟨Nat.le_refl _, l1⟩
    · exact .inr ⟨by omega, l2⟩, h1, ⟨_, hzs, h2⟩, Nat.le_refl _, by omega, by omega, hb⟩, h3⟩
end
theorem infoL9 : (Tryz.prog.info? 38).map (·.size) = some 20 := by kernel_rfl
theorem infoC7 : (Tryz.prog.info? 46).map (·.size) = some 7 := by kernel_rfl
theorem infoK8 : (Tryz.prog.info? 128).map (fun i => (i.zero, i.size, i.bytes)) = some (some (.agg #[.int .i64 0, .slice none 0 0]), 2, 32) := by kernel_rfl

theorem askRel_nil (n k : Nat) : AskRel ⟨n, k, [], []⟩ [] := ⟨List.nodup_nil, fun _ hx => (by cases hx), fun _ _ => ⟨fun _ => List.not_mem_nil, fun _ => rfl⟩⟩
theorem rd_nil {α : Type} (F : Nat → Prop) (f : α → Value) (w : World) : Rd F f w (.slice none 0 0) [] := ⟨Reads.nil _ _, fun k hk => by simp [Value.ownBlock] at hk⟩

end Go.Proofs.YthmdibagcbbgoaaGreat
