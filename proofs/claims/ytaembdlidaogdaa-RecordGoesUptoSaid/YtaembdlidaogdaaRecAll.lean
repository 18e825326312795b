/- All the records of a row: plain. Conditions: none. -/
import Derived.Test.YtaembdlidaogdaaRecPlain
namespace Go.Proofs.Ytaembdlidaogdaa
open Go.RowKit

/-- The payloads of a row's records, from the first on. -/
def recsF : Nat → List Int → List (List Int)
  | 0, _ => []
  | f + 1, row => match fst row with
    | none => []
    | some p => p :: recsF f (row.drop (8 + p.length))
def recs (row : List Int) : List (List Int) := recsF (row.length + 1) row
/-- Where the record of this number begins. -/
def place : List (List Int) → Nat → Nat
  | _, 0 => 0
  | [], _ + 1 => 0
  | p :: ps, k + 1 => 8 + p.length + place ps k
theorem place_zero (ps : List (List Int)) : place ps 0 = 0 := by cases ps <;> rfl
theorem place_cons (p : List Int) (ps : List (List Int)) (k : Nat) : place (p :: ps) (k + 1) = 8 + p.length + place ps k := rfl
theorem place_succ {ps : List (List Int)} {k : Nat} {p : List Int} (h : ps[k]? = some p) : place ps (k + 1) = place ps k + (8 + p.length) := by
  induction ps generalizing k with
  | nil => simp at h
  | cons q ps ih =>
    cases k with
    | zero => simp at h; subst h; rw [place_cons, place_zero, place_zero]; omega
    | succ k =>
      rw [List.getElem?_cons_succ] at h
      rw [place_cons, place_cons, ih h]; omega
theorem recsF_none {f : Nat} {row : List Int} (h : fst row = none) : recsF (f + 1) row = [] := by rw [recsF, h]
theorem recsF_some {f : Nat} {row p : List Int} (h : fst row = some p) : recsF (f + 1) row = p :: recsF f (row.drop (8 + p.length)) := by rw [recsF, h]
theorem recsF_fuel {f g : Nat} {row : List Int} (hf : row.length < f) (hg : row.length < g) : recsF f row = recsF g row := by
  induction f generalizing g row with
  | zero => omega
  | succ f ih =>
    obtain ⟨g, rfl⟩ : ∃ g', g = g' + 1 := ⟨g - 1, by omega⟩
    cases h : fst row with
    | none => rw [recsF_none h, recsF_none h]
    | some p =>
      have hl := fst_le h
      rw [recsF_some h, recsF_some h, ih (g := g) (by rw [List.length_drop]; omega) (by rw [List.length_drop]; omega)]
theorem recs_none {row : List Int} (h : fst row = none) : recs row = [] := recsF_none h
theorem recs_some {row p : List Int} (h : fst row = some p) : recs row = p :: recs (row.drop (8 + p.length)) := by
  have hl := fst_le h
  unfold recs
  rw [recsF_some h, recsF_fuel (g := (row.drop (8 + p.length)).length + 1) (by rw [List.length_drop]; omega) (by omega)]
theorem recsF_step {f : Nat} {row : List Int} (hf : row.length < f) {k : Nat} (hk : k ≤ (recsF f row).length) : fst (row.drop (place (recsF f row) k)) = (recsF f row)[k]? ∧ place (recsF f row) k ≤ row.length := by
  induction f generalizing row k with
  | zero => omega
  | succ f ih =>
    cases h : fst row with
    | none =>
      rw [recsF_none h] at hk ⊢
      obtain rfl : k = 0 := by simpa using hk
      rw [place_zero, List.drop_zero, h]
      exact ⟨by simp, by omega⟩
    | some p =>
      have hl := fst_le h
      rw [recsF_some h] at hk ⊢
      cases k with
      | zero => rw [place_zero, List.drop_zero, h]; exact ⟨by simp, by omega⟩
      | succ k =>
        have hd : (row.drop (8 + p.length)).length = row.length - (8 + p.length) := List.length_drop
        have := ih (row := row.drop (8 + p.length)) (k := k) (by omega) (by simpa using hk)
        rw [place_cons, List.getElem?_cons_succ, ← this.1, List.drop_drop]
        exact ⟨rfl, by have := this.2; omega⟩
/-- What the walks need of the records. -/
theorem recs_step (row : List Int) {k : Nat} (hk : k ≤ (recs row).length) : fst (row.drop (place (recs row) k)) = (recs row)[k]? ∧ place (recs row) k ≤ row.length := recsF_step (by omega) hk
/-- How far the records go. -/
def recN (row : List Int) : Nat := place (recs row) (recs row).length
theorem recs_bytes {row : List Int} (hw : ∀ n ∈ row, (Lit.int .u8 n).wf = true) {p : List Int} (hp : p ∈ recs row) : ∀ n ∈ p, (Lit.int .u8 n).wf = true := by
  obtain ⟨k, hk, rfl⟩ := List.mem_iff_getElem.1 hp
  have h := (recs_step row (Nat.le_of_lt hk)).1
  rw [List.getElem?_eq_getElem hk] at h
  have h2 := (fst_le h).2.2.2
  intro n hn
  rw [h2] at hn
  exact hw n (List.mem_of_mem_drop (List.mem_of_mem_drop (List.mem_of_mem_take hn)))
theorem recs_len (row : List Int) : (recs row).length ≤ row.length := by
  have : ∀ ps : List (List Int), ∀ k, k ≤ ps.length → k ≤ place ps k := by
    intro ps
    induction ps with
    | nil => intro k hk; simp at hk; omega
    | cons p ps ih =>
      intro k hk
      cases k with
      | zero => omega
      | succ k => rw [place_cons]; have := ih k (by simpa using hk); omega
  have h1 := this (recs row) _ (Nat.le_refl _)
  have h2 := (recs_step row (Nat.le_refl _)).2
  omega

end Go.Proofs.Ytaembdlidaogdaa
