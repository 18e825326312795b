/- The first record of a row, and all of them: plain. Conditions: none. -/
import Derived.Test.YtaembdlidaogdaaRecPut
namespace Go.Proofs.Ytaembdlidaogdaa
open Go.RowKit

theorem be_snoc (N s : Nat) : be N (s + 1) = be (N / 256) s ++ [((N % 256 : Nat) : Int)] := by
  induction s with
  | zero => simp [be]
  | succ s ih =>
    rw [be, ih, be]
    simp only [List.cons_append]
    congr 2
    rw [Nat.div_div_eq_div_mul, show 8 * (s + 1) = 8 + 8 * s by omega, Nat.pow_add]
theorem be_getTo {bs : List Int} (hw : ∀ n ∈ bs, (Lit.int .u8 n).wf = true) (a s : Nat) (h : a + s ≤ bs.length) : be (getTo bs a s) s = (bs.drop a).take s := by
  induction s with
  | zero => simp [be]
  | succ s ih =>
    obtain ⟨x, hx⟩ := get_some (xs := bs) (k := a + s) (by omega)
    have hb := bounds_u8 (hw x (List.mem_of_getElem? hx))
    obtain ⟨m, rfl⟩ := Int.eq_ofNat_of_zero_le hb.1
    have hd : bs.getD (a + s) 0 = (m : Int) := by rw [List.getD_eq_getElem?_getD, hx]; rfl
    rw [be_snoc, getTo_succ, hd, Int.toNat_natCast]
    have h1 : (256 * getTo bs a s + m) / 256 = getTo bs a s := by omega
    have h2 : (256 * getTo bs a s + m) % 256 = m := by omega
    rw [h1, h2, ih (by omega)]
    have h3 : (bs.drop a)[s]? = some (m : Int) := by rw [List.getElem?_drop]; exact hx
    rw [take_snoc' h3]
theorem be_inj {N M s : Nat} (hN : N < 2 ^ (8 * s)) (hM : M < 2 ^ (8 * s)) (h : be N s = be M s) : N = M := by
  have h1 := get_put (bs := []) hN s (Nat.le_refl _)
  have h2 := get_put (bs := []) hM s (Nat.le_refl _)
  rw [h, h2] at h1
  simpa using h1.symm

theorem getTo_at {bs : List Int} {N a s : Nat} (hN : N < 2 ^ (8 * s)) (h : (bs.drop a).take s = be N s) : getTo bs a s = N := by
  have hlen : ((bs.drop a).take s).length = s := by rw [h, be_length]
  have hg : ∀ i, i ≤ s → getTo bs a i = getTo (be N s) 0 i := by
    intro i
    induction i with
    | zero => intro _; rw [getTo_zero, getTo_zero]
    | succ i ih =>
      intro hi
      rw [getTo_succ, getTo_succ, ih (by omega)]
      have e : bs.getD (a + i) 0 = (be N s).getD (0 + i) 0 := by
        rw [List.getD_eq_getElem?_getD, List.getD_eq_getElem?_getD, ← h, List.getElem?_take, if_pos (by omega), List.getElem?_drop, Nat.zero_add]
      rw [e]
  rw [hg s (Nat.le_refl _)]
  have := get_put (bs := []) hN s (Nat.le_refl _)
  simpa using this
theorem getTo_front {bs : List Int} {N s : Nat} (hN : N < 2 ^ (8 * s)) (h : bs.take s = be N s) : getTo bs 0 s = N := getTo_at hN (by rw [List.drop_zero]; exact h)

/-- The payload of the first record of a row. -/
def fst (row : List Int) : Option (List Int) :=
  if row.length < 8 ∨ getTo row 0 4 = 0 ∨ 65536 < getTo row 0 4 ∨ row.length < 8 + getTo row 0 4 then none
  else if sumN (row.take 4 ++ (row.drop 8).take (getTo row 0 4)) = getTo row 4 4 then some ((row.drop 8).take (getTo row 0 4)) else none
def fstP (row : List Int) : List Int := (fst row).getD []
def fstN (row : List Int) : Nat := match fst row with | none => 0 | some p => 8 + p.length
theorem fst_no {row : List Int} (h : row.length < 8 ∨ getTo row 0 4 = 0 ∨ 65536 < getTo row 0 4 ∨ row.length < 8 + getTo row 0 4) : fst row = none := by unfold fst; rw [if_pos h]
theorem fst_none {row : List Int} (h : fst row = none) : fstP row = [] ∧ fstN row = 0 := by unfold fstP fstN; rw [h]; exact ⟨rfl, rfl⟩
theorem fst_some {row p : List Int} (h : fst row = some p) : fstP row = p ∧ fstN row = 8 + p.length := by unfold fstP fstN; rw [h]; exact ⟨rfl, rfl⟩
theorem fst_eq {row : List Int} (h : ¬ (row.length < 8 ∨ getTo row 0 4 = 0 ∨ 65536 < getTo row 0 4 ∨ row.length < 8 + getTo row 0 4)) : fst row = if sumN (row.take 4 ++ (row.drop 8).take (getTo row 0 4)) = getTo row 4 4 then some ((row.drop 8).take (getTo row 0 4)) else none := by
  unfold fst; rw [if_neg h]
/-- The reference's test: the payload's record is what the row begins with. -/
theorem fst_rec {row : List Int} (hw : ∀ n ∈ row, (Lit.int .u8 n).wf = true) (h : 8 + getTo row 0 4 ≤ row.length) :
    (recB ((row.drop 8).take (getTo row 0 4)) = row.take (8 + getTo row 0 4)) ↔ sumN (row.take 4 ++ (row.drop 8).take (getTo row 0 4)) = getTo row 4 4 := by
  have hl : ((row.drop 8).take (getTo row 0 4)).length = getTo row 0 4 := by simp; omega
  have b1 := be_getTo hw 0 4 (by omega)
  have b2 := be_getTo hw 4 4 (by omega)
  rw [List.drop_zero] at b1
  have l1 := getTo_lt row 4 4 hw
  unfold recB
  rw [hl, b1]
  have ht : row.take (8 + getTo row 0 4) = row.take 4 ++ (row.drop 4).take 4 ++ (row.drop 8).take (getTo row 0 4) := by
    rw [List.take_add (l := row) (i := 8) (j := getTo row 0 4), List.take_add (l := row) (i := 4) (j := 4)]
  rw [ht, ← b2]
  constructor
  · intro h
    rw [List.append_assoc, List.append_assoc] at h
    have h := List.append_cancel_left h
    have h := List.append_cancel_right h
    exact be_inj (by have := sumN_lt (row.take 4 ++ (row.drop 8).take (getTo row 0 4)); omega) (by omega) h
  · intro h
    rw [h]
theorem rec_ok {row : List Int} (h : 8 + getTo row 0 4 ≤ row.length) (h0 : getTo row 0 4 ≠ 0) (h6 : getTo row 0 4 ≤ 65536) : recE ((row.drop 8).take (getTo row 0 4)) = 0 := by
  have hl : ((row.drop 8).take (getTo row 0 4)).length = getTo row 0 4 := by simp; omega
  unfold recE
  rw [hl, if_neg h0, if_neg (by omega)]
theorem fst_le {row p : List Int} (h : fst row = some p) : 8 + p.length ≤ row.length ∧ 0 < p.length ∧ p.length ≤ 65536 ∧ p = (row.drop 8).take p.length := by
  by_cases hc : row.length < 8 ∨ getTo row 0 4 = 0 ∨ 65536 < getTo row 0 4 ∨ row.length < 8 + getTo row 0 4
  · rw [fst_no hc] at h; cases h
  · rw [fst_eq hc] at h
    split at h
    · have hp := Option.some.inj h
      have hl : p.length = getTo row 0 4 := by rw [← hp]; simp; omega
      refine ⟨by omega, by omega, by omega, ?_⟩
      rw [hl]
      exact hp.symm
    · cases h
/-- The first record's bytes are its payload's record. -/
theorem fst_bytes {row p : List Int} (hw : ∀ n ∈ row, (Lit.int .u8 n).wf = true) (h : fst row = some p) : row.take (8 + p.length) = recB p := by
  by_cases hc : row.length < 8 ∨ getTo row 0 4 = 0 ∨ 65536 < getTo row 0 4 ∨ row.length < 8 + getTo row 0 4
  · rw [fst_no hc] at h; cases h
  · rw [fst_eq hc] at h
    split at h
    · rename_i hs
      have hp := Option.some.inj h
      have hl : p.length = getTo row 0 4 := by rw [← hp]; simp; omega
      have := (fst_rec hw (by omega)).2 hs
      rw [hp] at this
      rw [this, hl]
    · cases h
/-- A record at the head of a row is its first one. -/
theorem fst_recB {p r : List Int} (hp : recE p = 0) : fst (recB p ++ r) = some p := by
  obtain ⟨h1, h2⟩ := recE_zero hp
  have hrl := recB_length p
  have e : recB p ++ r = be p.length 4 ++ (be (sumN (be p.length 4 ++ p)) 4 ++ (p ++ r)) := by unfold recB; simp
  have t4 : (recB p ++ r).take 4 = be p.length 4 := by
    rw [e, List.take_append_of_le_length (by simp [be_length]), List.take_of_length_le (by simp [be_length])]
  have d4 : ((recB p ++ r).drop 4) = be (sumN (be p.length 4 ++ p)) 4 ++ (p ++ r) := by
    rw [e, List.drop_append_of_le_length (by simp [be_length]), List.drop_of_length_le (by simp [be_length]), List.nil_append]
  have d8 : ((recB p ++ r).drop 8) = p ++ r := by
    rw [show 8 = 4 + 4 from rfl, ← List.drop_drop, d4, List.drop_append_of_le_length (by simp [be_length]), List.drop_of_length_le (by simp [be_length]), List.nil_append]
  have g1 : getTo (recB p ++ r) 0 4 = p.length := getTo_front (s := 4) (by omega) (by rw [t4])
  have g2 : getTo (recB p ++ r) 4 4 = sumN (be p.length 4 ++ p) := getTo_at (s := 4) (by have := sumN_lt (be p.length 4 ++ p); omega) (by rw [d4, List.take_append_of_le_length (by simp [be_length]), List.take_of_length_le (by simp [be_length])])
  have hl : (recB p ++ r).length = 8 + p.length + r.length := by rw [List.length_append, hrl]
  rw [fst_eq (by rw [hl, g1]; omega), g1, g2, t4, d8, List.take_append_of_le_length (Nat.le_refl _), List.take_length, if_pos rfl]

end Go.Proofs.Ytaembdlidaogdaa
