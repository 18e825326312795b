/- A row of payloads that grows: each a row of its own. No program in sight. Conditions: none. -/
import Derived.Test.YtaembdlidaogdaaRecAll
import Derived.Test.YtaembdlidaogdaaFr
import Derived.Test.YtaembdlidaogdaaApp
import Derived.Test.YtaembdlidaogdaaLst
namespace Go.Proofs.Ytaembdlidaogdaa
open Go.RowKit

/-- v owns a row of slices, and each of them owns the bytes of its payload. -/
def OutAt (B : Nat) (w : World) (v : Value) (ps : List (List Int)) : Prop :=
  ∃ vs : List Value, vs.length = ps.length ∧ w.ownsRow B 22 1 v ps.length vs ∧ ∀ (i : Nat) (x : Value) (p : List Int), vs[i]? = some x → ps[i]? = some p → w.ownsRow B 5 1 x p.length (p.map (Value.int .u8))
theorem owns_apart {w : World} {B B' : Nat} {e e' : TypeId} {s s' : Nat} {v v' : Value} {n n' : Nat} {xs xs' : List Value} (h : w.ownsRow B e s v n xs) (h' : w.ownsRow B' e' s' v' n' xs') (hne : e ≠ e') : ∀ k, v.ownBlock = some k → v'.ownBlock ≠ some k := by
  intro k hk hk'
  rcases h.2 with ⟨rfl, _⟩ | ⟨g, cap, cur, rfl, _, hg, _⟩
  · cases hk
  · rcases h'.2 with ⟨rfl, _⟩ | ⟨g', cap', cur', rfl, _, hg', _⟩
    · cases hk'
    · have e1 : g = k := by simpa [Value.ownBlock] using hk
      have e2 : g' = k := by simpa [Value.ownBlock] using hk'
      rw [e1] at hg
      rw [e2] at hg'
      rw [hg] at hg'
      injection hg' with hg'
      injection hg' with _ h2 _
      exact hne h2
theorem owns_grown {w w' : World} {row : Option Nat} {base : Nat} {e : TypeId} {s : Nat} {v : Value} {n : Nat} {xs : List Value} (h : w.ownsRow base e s v n xs) (hg : w.grownBy w' row) (hn : ∀ k, v.ownBlock = some k → some k ≠ row) : w'.ownsRow base e s v n xs := by
  refine ⟨h.1, ?_⟩
  rcases h.2 with h2 | ⟨g, cap, cur, rfl, hb, hrow, r⟩
  · exact .inl h2
  · exact .inr ⟨g, cap, cur, rfl, hb, (hg.block g (lt_of_get hrow) (hn g rfl)).trans hrow, r⟩
theorem OutAt.nil {B : Nat} {w : World} (hb : B ≤ w.heap.size) (e : TypeId) (he : e = 22) : OutAt B (w.alloc (.cells #[] e)) (.slice (some ⟨w.heap.size, 0, none⟩) 0 0) [] := by
  subst he
  exact ⟨[], rfl, owns_empty w _ hb, fun i x p hx => by simp at hx⟩
theorem OutAt.nilv (B : Nat) (w : World) : OutAt B w (.slice none 0 0) [] := ⟨[], rfl, ⟨rfl, .inl ⟨rfl, rfl⟩⟩, fun i x p hx => by simp at hx⟩
theorem OutAt.bl {B : Nat} {w w' : World} {v : Value} {ps : List (List Int)} (h : OutAt B w v ps) (hb : Below w.heap.size w w') : OutAt B w' v ps := by
  obtain ⟨vs, h1, h2, h3⟩ := h
  exact ⟨vs, h1, owns_bl h2 hb, fun i x p hx hp => owns_bl (h3 i x p hx hp) hb⟩
/-- One payload more, behind the append. -/
theorem OutAt.push {B : Nat} {w w' : World} {v v' x : Value} {ps : List (List Int)} {p : List Int} {vs : List Value} (hl : vs.length = ps.length) (h2 : w.ownsRow B 22 1 v ps.length vs)
    (h3 : ∀ (i : Nat) (x : Value) (p : List Int), vs[i]? = some x → ps[i]? = some p → w.ownsRow B 5 1 x p.length (p.map (Value.int .u8))) (hx : w.ownsRow B 5 1 x p.length (p.map (Value.int .u8)))
    (ho : w'.ownsRow B 22 1 v' (ps.length + 1) (vs ++ [x])) (hg : w.grownBy w' v.ownBlock) : OutAt B w' v' (ps ++ [p]) := by
  have keep : ∀ {y : Value} {q : List Int}, w.ownsRow B 5 1 y q.length (q.map (Value.int .u8)) → w'.ownsRow B 5 1 y q.length (q.map (Value.int .u8)) := fun hy =>
    owns_grown hy hg fun k hk e => owns_apart hy h2 (by decide) k hk e.symm
  refine ⟨vs ++ [x], by simp [hl], by rw [List.length_append]; exact ho, fun i y q hy hq => ?_⟩
  by_cases hi : i < ps.length
  · rw [List.getElem?_append_left (by omega)] at hy
    rw [List.getElem?_append_left hi] at hq
    exact keep (h3 i y q hy hq)
  · have hi2 := (List.getElem?_eq_some_iff.1 hq).1
    simp at hi2
    obtain rfl : i = ps.length := by omega
    rw [List.getElem?_append_right (by omega), hl] at hy
    rw [List.getElem?_append_right (by omega)] at hq
    simp at hy hq
    subst hy hq
    exact keep hx
theorem OutAt.pays {B : Nat} {w : World} {v : Value} {ps : List (List Int)} (h : OutAt B w v ps) (hm : ps.length ≤ maxLen) (hp : ∀ p ∈ ps, p.length ≤ maxLen ∧ ∀ n ∈ p, (Lit.int .u8 n).wf = true) : Pays (fun k => B ≤ k ∧ k < w.heap.size) w v ps := by
  obtain ⟨vs, h1, h2, h3⟩ := h
  have h2' : w.ownsRow B 22 1 v vs.length (vs.map id) := by rw [List.map_id, h1]; exact h2
  exact ⟨vs, h1, Rd.of_owns h2' (by omega), fun i x p hx hq => ⟨Rd.of_owns (h3 i x p hx hq) (hp p (List.mem_of_getElem? hq)).1, (hp p (List.mem_of_getElem? hq)).2⟩⟩

end Go.Proofs.Ytaembdlidaogdaa
