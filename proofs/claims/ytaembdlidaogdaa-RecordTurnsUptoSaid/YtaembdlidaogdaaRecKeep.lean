/- What is gathered of payloads that may be records: their bytes in one row of one's own, themselves in another. No program in sight. Conditions: none. -/
import Derived.Test.YtaembdlidaogdaaRecOut
import Derived.Test.YtaembdlidaogdaaRecLaw
import Derived.Test.YtaembdlidaogdaaOpenLists
import Derived.Test.YtaembdlidaogdaaRecPut
namespace Go.Proofs.Ytaembdlidaogdaa
open Go.RowKit

structure KA (B : Nat) (o k : Value) (ks : List (List Int)) (vs : List Value) (W : World) : Prop where
  out : W.ownsRow B 5 1 o (rowB ks).length ((rowB ks).map (Value.int .u8))
  len : vs.length = ks.length
  kept : W.ownsRow B 22 1 k ks.length vs
  each : ∀ (i : Nat) (x : Value) (p : List Int), vs[i]? = some x → ks[i]? = some p → ByB B W x p
theorem KA.bl {B : Nat} {o k : Value} {ks : List (List Int)} {vs : List Value} {W W' : World} (h : KA B o k ks vs W) (hB : B ≤ W.heap.size) (hb : Below W.heap.size W W') : KA B o k ks vs W' :=
  ⟨owns_bl h.out hb, h.len, owns_bl h.kept hb, fun i x p hx hp => (h.each i x p hx hp).below ⟨hb.os, hb.tape, hb.output, hb.size, fun k hk => hb.block k (by omega)⟩⟩
/-- Behind the append to the bytes. -/
theorem KA.mid {B : Nat} {o k o' : Value} {ks : List (List Int)} {vs : List Value} {W W' : World} {m : Nat} {ys : List Value} (h : KA B o k ks vs W) (hB : B ≤ W.heap.size) (_ : W'.ownsRow B 5 1 o' m ys) (hg : W.grownBy W' o.ownBlock) :
    W'.ownsRow B 22 1 k ks.length vs ∧ Below B W W' := by
  refine ⟨owns_grown h.kept hg fun j hj e => owns_apart h.kept h.out (by decide) j hj e.symm, (Below.refl B W).grown hg hB fun j hj => (h.out.lt j hj).1⟩
theorem KA.push {B : Nat} {o k o' k' x : Value} {ks : List (List Int)} {vs : List Value} {W W' V : World} {p : List Int} {tmp : Obj} (h : KA B o k ks vs W) (hB : B ≤ W.heap.size) (hx : ByB B W x p)
    (ho : W'.ownsRow B 5 1 o' ((rowB ks).length + (recB p).length) ((rowB ks).map (Value.int .u8) ++ (recB p).map (Value.int .u8))) (hg : W.grownBy W' o.ownBlock)
    (hk : V.ownsRow B 22 1 k' (ks.length + 1) (vs ++ [x])) (hg2 : (W'.alloc tmp).grownBy V k.ownBlock) : KA B o' k' (ks ++ [p]) (vs ++ [x]) V ∧ Below B W V := by
  obtain ⟨h1, b1⟩ := h.mid hB ho hg
  have hB2 := b1.size
  have hal : Below W'.heap.size W' (W'.alloc tmp) := bl_alloc (bl_refl W') _
  have h2 := owns_bl h1 hal
  have b2 : Below B W (W'.alloc tmp) := b1.trans ⟨hal.os, hal.tape, hal.output, hal.size, fun j hj => hal.block j (by omega)⟩
  have b3 : Below B W V := b2.grown hg2 (by have := hal.size; omega) fun j hj => (h2.lt j hj).1
  refine ⟨⟨?_, by simp [h.len], by rw [List.length_append]; exact hk, fun i y q hy hq => ?_⟩, b3⟩
  · have e : rowB (ks ++ [p]) = rowB ks ++ recB p := by rw [rowB_append, rowB_one]
    rw [e, List.length_append, List.map_append]
    have h3 := owns_bl ho hal
    exact owns_grown h3 hg2 fun j hj e => owns_apart h3 h2 (by decide) j hj e.symm
  · by_cases hi : i < ks.length
    · rw [List.getElem?_append_left (by have := h.len; omega)] at hy
      rw [List.getElem?_append_left hi] at hq
      exact (h.each i y q hy hq).below b3
    · have hi2 := (List.getElem?_eq_some_iff.1 hq).1
      simp at hi2
      obtain rfl : i = ks.length := by omega
      rw [List.getElem?_append_right (by have := h.len; omega), h.len] at hy
      rw [List.getElem?_append_right (by omega)] at hq
      simp at hy hq
      subst hy hq
      exact hx.below b3
theorem KA.lst {B : Nat} {o k : Value} {ks : List (List Int)} {vs : List Value} {W : World} (h : KA B o k ks vs W) (hm : ks.length ≤ maxLen) : Lst W k ks := by
  have h2' : W.ownsRow B 22 1 k vs.length (vs.map id) := by rw [List.map_id, h.len]; exact h.kept
  exact ⟨vs, h.len, Reads.of_owns h2' (by have := h.len; omega), fun i x p hx hp => (h.each i x p hx hp).1⟩
theorem rowB_le (l : List (List Int)) : (rowB (keepL l)).length ≤ 9 * bulkL l := by
  induction l with
  | nil => simp [keepL, rowB]
  | cons p l ih =>
    rw [bulkL, show p :: l = [p] ++ l from rfl, keep_append]
    by_cases h : recE p = 0
    · rw [keep_yes h, List.singleton_append, rowB, List.length_append, recB_length]; omega
    · rw [keep_no h, List.nil_append]; omega
theorem keep_le (l : List (List Int)) : (keepL l).length ≤ l.length := List.length_filter_le _ _
theorem keep_next {l : List (List Int)} {i : Nat} {p : List Int} (hp : l[i]? = some p) : keepL (l.take (i + 1)) = keepL (l.take i) ++ keepL [p] := by rw [take_snoc' hp, keep_append]
theorem ByB.form {B : Nat} {w : World} {v : Value} {p : List Int} (h : ByB B w v p) : ∃ ao cap, v = .slice ao p.length cap := by
  obtain ⟨⟨_, ao, cap, h, _⟩, _⟩ := h
  exact ⟨ao, cap, h⟩

end Go.Proofs.Ytaembdlidaogdaa
