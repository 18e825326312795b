/- An argument that is a struct of seven one-cell fields; a field that is a slice of integers. No program in sight. An argument that is a slice of structs (int, int, []byte): it reads as a list of acts. No program in sight. An argument that is a slice of structs (int, bool): it reads as a list of pairs. No program in sight. Conditions: as they stand. -/
import Derived.WalkKit
import Derived.ProofKit
import Derived.OpenShut
import Derived.SizedLaws
import Derived.Lib.SmallJoins
import Derived.Test.YthmdibagcbbgoaaM00
import Derived.Deep.Slices
import Derived.Deep.Fields
import Derived.ChangeSame
import Derived.Test.YthmdibagcbbgoaaM01
namespace Go.Proofs.Ythmdibagcbbgoaa
open Go.ChangeShapes Go.WideShapes Go.ChangeAt Go.RowKit Go.Joins Go.Deep

section
variable {H : Type} {enc : TypeId × Value → H} {P : Program} {w : World} {base : Nat} {spare : Nat → Bool} {held : Bool}

theorem array7 {α : Type} {cs : Array α} (h : cs.size = 7) : ∃ c0 c1 c2 c3 c4 c5 c6, cs = #[c0, c1, c2, c3, c4, c5, c6] := by
  obtain ⟨l⟩ := cs
  match l, h with
  | [c0, c1, c2, c3, c4, c5, c6], _ => exact ⟨c0, c1, c2, c3, c4, c5, c6, rfl⟩

theorem trod_struct7 {t : TypeId} {f0 f1 f2 f3 f4 f5 f6 : Field} {fuel : Nat} {cs : List Value} {x : DataW H × List MemPlace} (ht : P.underlying t = some (.struct #[f0, f1, f2, f3, f4, f5, f6])) (h : DataW.trod enc P w base spare held fuel t cs = some x) :
    ∃ y0 y1 y2 y3 y4 y5 y6 n, x = (.agg [y0.1, y1.1, y2.1, y3.1, y4.1, y5.1, y6.1], y0.2 ++ (y1.2 ++ (y2.2 ++ (y3.2 ++ (y4.2 ++ (y5.2 ++ y6.2)))))) ∧ cs.length = P.cellsOf t ∧ DataW.trod enc P w base spare held n f0.type ((cs.drop f0.offset).take (P.cellsOf f0.type)) = some y0 ∧ DataW.trod enc P w base spare held n f1.type ((cs.drop f1.offset).take (P.cellsOf f1.type)) = some y1 ∧ DataW.trod enc P w base spare held n f2.type ((cs.drop f2.offset).take (P.cellsOf f2.type)) = some y2 ∧ DataW.trod enc P w base spare held n f3.type ((cs.drop f3.offset).take (P.cellsOf f3.type)) = some y3 ∧ DataW.trod enc P w base spare held n f4.type ((cs.drop f4.offset).take (P.cellsOf f4.type)) = some y4 ∧ DataW.trod enc P w base spare held n f5.type ((cs.drop f5.offset).take (P.cellsOf f5.type)) = some y5 ∧ DataW.trod enc P w base spare held n f6.type ((cs.drop f6.offset).take (P.cellsOf f6.type)) = some y6 := by
  obtain ⟨xs, n, _, rfl, hl, hlen, hf⟩ := DataW.trod_struct ht h
  match xs, hlen with
  | [y0, y1, y2, y3, y4, y5, y6], _ => exact ⟨y0, y1, y2, y3, y4, y5, y6, n, by simp, hl, by simpa using hf 0 f0 rfl, by simpa using hf 1 f1 rfl, by simpa using hf 2 f2 rfl, by simpa using hf 3 f3 rfl, by simpa using hf 4 f4 rfl, by simpa using hf 5 f5 rfl, by simpa using hf 6 f6 rfl⟩

theorem open_agg7 {r : Reach} {b0 : Nat} {t : TypeId} {f0 f1 f2 f3 f4 f5 f6 : Field} {v : Value} {d : DataW H} {p : List MemPlace} (hs : P.underlying t = some (.struct #[f0, f1, f2, f3, f4, f5, f6])) (hone : oneCellFields P #[f0, f1, f2, f3, f4, f5, f6] = true) (hC : P.cellsOf t = 7)
    (hv : Value.okWide P w r b0 t v) (h : DataW.Trod enc P w base spare held t v d p) :
    ∃ (v0 v1 v2 v3 v4 v5 v6 : Value) (y0 y1 y2 y3 y4 y5 y6 : DataW H × List MemPlace) (n : Nat), v = .agg #[v0, v1, v2, v3, v4, v5, v6] ∧ d = .agg [y0.1, y1.1, y2.1, y3.1, y4.1, y5.1, y6.1] ∧ p = y0.2 ++ (y1.2 ++ (y2.2 ++ (y3.2 ++ (y4.2 ++ (y5.2 ++ y6.2))))) ∧ DataW.trod enc P w base spare held n f0.type [v0] = some y0 ∧ DataW.trod enc P w base spare held n f1.type [v1] = some y1 ∧ DataW.trod enc P w base spare held n f2.type [v2] = some y2 ∧ DataW.trod enc P w base spare held n f3.type [v3] = some y3 ∧ DataW.trod enc P w base spare held n f4.type [v4] = some y4 ∧ DataW.trod enc P w base spare held n f5.type [v5] = some y5 ∧ DataW.trod enc P w base spare held n f6.type [v6] = some y6 := by
  obtain ⟨cs, rfl, hsz⟩ := okWide_struct hs hv
  obtain ⟨c0, c1, c2, c3, c4, c5, c6, rfl⟩ := array7 (hsz.trans hC)
  obtain ⟨fuel, hf⟩ := h
  obtain ⟨y0, y1, y2, y3, y4, y5, y6, n, hx, _, h0, h1, h2, h3, h4, h5, h6⟩ := trod_struct7 hs hf
  obtain ⟨o0, k0⟩ := hone_of hone 0 f0 rfl
  obtain ⟨o1, k1⟩ := hone_of hone 1 f1 rfl
  obtain ⟨o2, k2⟩ := hone_of hone 2 f2 rfl
  obtain ⟨o3, k3⟩ := hone_of hone 3 f3 rfl
  obtain ⟨o4, k4⟩ := hone_of hone 4 f4 rfl
  obtain ⟨o5, k5⟩ := hone_of hone 5 f5 rfl
  obtain ⟨o6, k6⟩ := hone_of hone 6 f6 rfl
  simp only [Prod.mk.injEq] at hx
  exact ⟨c0, c1, c2, c3, c4, c5, c6, y0, y1, y2, y3, y4, y5, y6, n, rfl, hx.1, hx.2, by simpa [Value.cells, o0, k0] using h0, by simpa [Value.cells, o1, k1] using h1, by simpa [Value.cells, o2, k2] using h2, by simpa [Value.cells, o3, k3] using h3, by simpa [Value.cells, o4, k4] using h4, by simpa [Value.cells, o5, k5] using h5, by simpa [Value.cells, o6, k6] using h6⟩

/-- A field that is a slice of integers reads as a list. -/
theorem open_reads_cell {t e : TypeId} {k : IntKind} {B fuel : Nat} {c : Value} {y : DataW H × List MemPlace}
    (hT : P.underlying t = some (.slice e)) (hE : P.underlying e = some (.int k)) (hC : P.cellsOf e = 1)
    (h : DataW.trod enc P w 0 (fun _ => true) true fuel t [c] = some y)
    (hsz : ∀ el sp, y.1 = .slice el sp → (el.length + sp.length) * B ≤ reachBytes) :
    ∃ (xs : List Int) (ao : Option Addr) (cap : Nat), c = .slice ao xs.length cap ∧ Reads (Value.int k) w (.slice ao xs.length cap) xs ∧ (∀ n ∈ xs, (Lit.int k n).wf = true) ∧ xs.length * B ≤ reachBytes := by
  rcases open_ints hT hE hC h with ⟨hcs, _⟩ | ⟨a, l, cc, zs, hcs, _, hl, hm, hz, hx, hcell, hwz⟩
  · simp at hcs
    subst hcs
    exact ⟨[], none, 0, rfl, Reads.nil _ _, by simp, by simp⟩
  · simp at hcs
    subst hcs
    have hs := hsz (lits k (zs.take l)) (lits k (zs.drop l)) (by rw [hx])
    simp only [lits, List.length_map, List.length_take, List.length_drop] at hs
    have hz' : zs.length = cc := by simpa using hz
    have hlen : (zs.take l).length = l := by rw [List.length_take]; omega
    refine ⟨zs.take l, some a, cc, by rw [hlen], ⟨by rw [hlen]; omega, some a, cc, rfl, ⟨by rw [hlen]; omega, fun h => by cases h⟩, fun i x hx => ?_⟩, fun n hn => hwz n (List.mem_of_mem_take hn), ?_⟩
    · have hi : i < l := by have := (List.getElem?_eq_some_iff.1 hx).1; omega
      have hx' : zs[i]? = some x := by rw [List.getElem?_take, if_pos hi] at hx; exact hx
      have hci := hcell i (by omega)
      obtain ⟨b, off, spot⟩ := a
      have hspot : spot = none := by simpa [Addr.add] using World.cell?_spot (hcell 0 (by omega))
      subst hspot
      refine ⟨b, off, rfl, ?_⟩
      rw [Addr.add_lit] at hci
      rw [hci, List.getD_eq_getElem?_getD, hx']
      rfl
    · rw [hlen]
      refine Nat.le_trans (Nat.mul_le_mul_right _ ?_) hs
      omega

theorem sized_field {ts : List TypeId} {ds : List (DataW H)} (h : (DataW.weightsEach P ts ds).all (· ≤ reachBytes) = true) {j i : Nat} {t tf e : TypeId} {fs : Array Field} {parts el sp : List (DataW H)} (ht : ts[j]? = some t) (hd : ds[j]? = some (.agg parts))
    (hu : P.underlying t = some (.struct fs)) (hf : (fs.toList.map (·.type))[i]? = some tf) (hp : parts[i]? = some (.slice el sp)) (hus : P.underlying tf = some (.slice e)) : (el.length + sp.length) * P.bytesOf e ≤ reachBytes := by
  have := List.all_eq_true.1 h _ (DataW.weights_mem_each ht hd ((el.length + sp.length) * P.bytesOf e) (by
    simp only [DataW.weights, hu]
    exact DataW.weights_mem_each hf hp _ (by simp [DataW.weights, hus])))
  simpa using this

end
end Go.Proofs.Ythmdibagcbbgoaa

namespace Go.Proofs.Ythmdibagcbbgoaa
open Go.ChangeShapes Go.WideShapes Go.Deep Go.ChangeAt Go.RowKit

/-- A call: its kind, a number, bytes. -/
structure Act3 where
  k : Int
  n : Int
  p : List Int

/-- Bytes that lie below B where there are any. -/
def ByB (B : Nat) (w : World) (v : Value) (p : List Int) : Prop := Reads (Value.int .u8) w v p ∧ (∀ n ∈ p, (Lit.int .u8 n).wf = true) ∧ (p ≠ [] → ∀ k, v.ownBlock = some k → k < B)
theorem ByB.below {B : Nat} {w w' : World} {v : Value} {p : List Int} (h : ByB B w v p) (hb : Below B w w') : ByB B w' v p := by
  obtain ⟨hr, hw, hl⟩ := h
  refine ⟨?_, hw, hl⟩
  cases p with
  | nil =>
    obtain ⟨hm, ao, cap, hv, hlc, hc⟩ := hr
    exact ⟨hm, ao, cap, hv, hlc, fun i y hy => by simp at hy⟩
  | cons x r =>
    have h' : Rd (fun k => k < B) (Value.int .u8) w v (x :: r) := ⟨hr, fun k hk => hl (by simp) k hk⟩
    exact (h'.fr (G := fun k => B ≤ k) ⟨hb.os, hb.tape, hb.output, hb.size, fun k _ hn => hb.block k (by omega)⟩ (fun k hk => by omega)).1

/-- The slice value reads as a list of acts; all that it has lies below B. -/
def ActsAt (B : Nat) (w : World) (v : Value) (l : List Act3) : Prop :=
  l.length ≤ maxLen ∧ ∃ ao cap, v = .slice ao l.length cap ∧ l.length ≤ cap ∧ ∀ (i : Nat) (c : Act3), l[i]? = some c → ∃ b o x, ao = some ⟨b, o, none⟩ ∧ b < B ∧
    w.cell? ⟨b, o + i * 3, none⟩ = some (.int .i64 c.k) ∧ w.cell? ⟨b, o + (i * 3 + 1), none⟩ = some (.int .i64 c.n) ∧ w.cell? ⟨b, o + (i * 3 + 2), none⟩ = some x ∧ ByB B w x c.p ∧ c.p.length ≤ 140737488351232 ∧ (Lit.int .i64 c.k).wf = true ∧ (Lit.int .i64 c.n).wf = true
theorem ActsAt.below {B : Nat} {w w' : World} {v : Value} {l : List Act3} (h : ActsAt B w v l) (hb : Below B w w') : ActsAt B w' v l := by
  obtain ⟨hm, ao, cap, hv, hl, hc⟩ := h
  refine ⟨hm, ao, cap, hv, hl, fun i c hi => ?_⟩
  obtain ⟨b, o, x, ha, hlt, h0, h1, h2, hx, hle⟩ := hc i c hi
  have keep : ∀ {j : Nat} {u : Value}, w.cell? ⟨b, j, none⟩ = some u → w'.cell? ⟨b, j, none⟩ = some u := fun h => (hb.cell (p := ⟨b, _, none⟩) hlt).trans h
  exact ⟨b, o, x, ha, hlt, keep h0, keep h1, keep h2, hx.below hb, hle⟩
theorem ActsAt.at_ {B : Nat} {w : World} {ao : Option Addr} {n cap : Nat} {l : List Act3} (h : ActsAt B w (.slice ao n cap) l) {i : Nat} {c : Act3} (hi : l[i]? = some c) : ∃ b o x, ao = some ⟨b, o, none⟩ ∧ b < B ∧
    w.cell? ⟨b, o + i * 3, none⟩ = some (.int .i64 c.k) ∧ w.cell? ⟨b, o + (i * 3 + 1), none⟩ = some (.int .i64 c.n) ∧ w.cell? ⟨b, o + (i * 3 + 2), none⟩ = some x ∧ ByB B w x c.p ∧ c.p.length ≤ 140737488351232 ∧ (Lit.int .i64 c.k).wf = true ∧ (Lit.int .i64 c.n).wf = true := by
  obtain ⟨hm, ao', cap', hv, hl, hc⟩ := h
  cases hv
  exact hc i c hi
/-- The first of them. -/
theorem ActsAt.take {B : Nat} {w : World} {ao : Option Addr} {cap : Nat} {l : List Act3} (h : ActsAt B w (.slice ao l.length cap) l) (k : Nat) (hk : k ≤ l.length) : ActsAt B w (.slice ao k cap) (l.take k) := by
  obtain ⟨hm, ao', cap', hv, hl, hc⟩ := h
  cases hv
  have : (l.take k).length = k := by simp; omega
  refine ⟨by omega, ao, cap, by rw [this], by omega, fun i c hi => ?_⟩
  rw [List.getElem?_take] at hi
  split at hi
  · exact hc i c hi
  · cases hi

theorem list_of {α : Type} {Q : Nat → α → Prop} : ∀ (n : Nat), (∀ i, i < n → ∃ a, Q i a) → ∃ l : List α, l.length = n ∧ ∀ (i : Nat) a, l[i]? = some a → Q i a
  | 0, _ => ⟨[], rfl, fun i a h => by simp at h⟩
  | n + 1, h => by
    obtain ⟨l, hl, hq⟩ := list_of n (fun i hi => h i (by omega))
    obtain ⟨a, ha⟩ := h n (by omega)
    refine ⟨l ++ [a], by simp [hl], fun i b hb => ?_⟩
    by_cases hi : i < l.length
    · rw [List.getElem?_append_left hi] at hb; exact hq i b hb
    · have hlt := (List.getElem?_eq_some_iff.1 hb).1
      simp only [List.length_append, List.length_singleton] at hlt
      subst hl
      have e : i = l.length := by omega
      subst e
      rw [List.getElem?_append_right (Nat.le_refl _), Nat.sub_self] at hb
      cases hb
      exact ha

theorem weights_mem_all {H : Type} {P : Program} {e : TypeId} {d : DataW H} {n : Nat} (hn : n ∈ d.weights P e) : ∀ {l : List (DataW H)}, d ∈ l → n ∈ DataW.weightsAll P e l
  | [], h => by simp at h
  | x :: r, h => by
    simp only [DataW.weightsAll, List.mem_append]
    rcases List.mem_cons.1 h with h | h
    · subst h; exact .inl hn
    · exact .inr (weights_mem_all hn h)

section
variable {H : Type} {enc : TypeId × Value → H} {P : Program} {w : World} {base : Nat} {spare : Nat → Bool} {held : Bool}
theorem open_slice_fields {t e : TypeId} {fs : Array Field} {fuel : Nat} {cs : List Value} {x : DataW H × List MemPlace} (ht : P.underlying t = some (.slice e)) (he : P.underlying e = some (.struct fs))
    (hone : oneCellFields P fs = true) (hC : P.cellsOf e = fs.size) (h : DataW.trod enc P w base spare held fuel t cs = some x) :
    (cs = [.slice none 0 0] ∧ x = (.nil, [])) ∨
    ∃ (a : Addr) (len cap m : Nat) (D : Nat → DataW H) (Pl : Nat → List MemPlace), cs = [.slice (some a) len cap] ∧ base ≤ a.block ∧ len ≤ cap ∧ cap ≤ maxLen ∧ m = (if spare a.block then cap else len) ∧
      x = (.slice ((List.range len).map D) ((List.range (m - len)).map fun j => D (len + j)), MemPlace.row a (m * fs.size) ++ (List.range m).flatMap Pl) ∧
      ∀ i, i < m → ∃ (ys : List (DataW H × List MemPlace)) (n : Nat), D i = .agg (ys.map (·.1)) ∧ Pl i = ys.flatMap (·.2) ∧ ys.length = fs.size ∧
        ∀ (j : Nat) (f : Field), fs[j]? = some f → ∃ (v : Value) (y : DataW H × List MemPlace), w.cell? (a.add (i * fs.size + j)) = some v ∧ ys[j]? = some y ∧ DataW.trod enc P w base spare held n f.type [v] = some y := by
  rcases open_slice ht h with h0 | ⟨a, len, cap, m, n, D, Pl, hcs, hb, hl, hm, hmm, hx, hi⟩
  · exact .inl h0
  · refine .inr ⟨a, len, cap, m, D, Pl, hcs, hb, hl, hm, hmm, by rw [hC] at hx; exact hx, fun i him => ?_⟩
    obtain ⟨cs', hc, ht'⟩ := hi i him
    rw [hC] at hc
    obtain ⟨ys, n', hn', hy, hlen, hyl, hf⟩ := DataW.trod_struct he ht'
    obtain ⟨_, hcl, hat⟩ := World.cells?_some hc
    simp only [Prod.mk.injEq] at hy
    refine ⟨ys, n', hy.1, hy.2, hyl, fun j f hj => ?_⟩
    obtain ⟨ho, hk⟩ := hone_of hone j f hj
    have hjl : j < fs.size := (Array.getElem?_eq_some_iff.1 hj).1
    have hcell := hat j hjl
    have hv : cs'[j]? = some (cs'[j]'(by omega)) := List.getElem?_eq_getElem (by omega)
    have h1 := hf j f hj
    rw [ho, hk] at h1
    have hone' : (cs'.drop j).take 1 = [cs'[j]'(by omega)] := by
      rw [List.drop_eq_getElem_cons (by omega)]
      rfl
    rw [hone'] at h1
    have hys : ys[j]? = some (ys[j]'(by omega)) := List.getElem?_eq_getElem (by omega)
    refine ⟨_, _, ?_, hys, h1.trans hys⟩
    rw [← Go.Deep.add_add, hcell, hv]

theorem open_acts {r : Reach} {b0 : Nat} {t e ti tb tu : TypeId} {f0 f1 f2 : Field} {v : Value} {d : DataW H} {p : List MemPlace}
    (hT : P.underlying t = some (.slice e)) (hE : P.underlying e = some (.struct #[f0, f1, f2])) (hone : oneCellFields P #[f0, f1, f2] = true) (hC : P.cellsOf e = 3)
    (hf0 : f0.type = ti) (hf1 : f1.type = ti) (hf2 : f2.type = tb) (hI : P.underlying ti = some (.int .i64)) (hB : P.underlying tb = some (.slice tu)) (hU : P.underlying tu = some (.int .u8)) (hCu : P.cellsOf tu = 1) (hbu : P.bytesOf tu = 1)
    (hv : Value.okWide P w r b0 t v) (h : DataW.Trod enc P w 0 (fun _ => true) true t v d p)
    (hsz : ∀ el sp, d = .slice el sp → ∀ x ∈ el, ∀ parts es ss, x = .agg parts → parts[2]? = some (.slice es ss) → (es.length + ss.length) * P.bytesOf tu ≤ reachBytes) :
    ∃ l : List Act3, ActsAt w.heap.size w v l := by
  obtain ⟨a0, len0, cap0, rfl⟩ := okWide_slice hT hv
  obtain ⟨fuel, hf⟩ := h
  rcases open_slice_fields hT hE hone (by rw [hC]; rfl) hf with ⟨hcs, _⟩ | ⟨a, len, cap, m, D, Pl, hcs, _, hl, hm, hmm, hx, hi⟩
  · simp [Value.cells] at hcs
    obtain ⟨rfl, rfl, rfl⟩ := hcs
    exact ⟨[], by simp, none, 0, rfl, by simp, fun i c hc => by simp at hc⟩
  · simp [Value.cells] at hcs
    obtain ⟨rfl, rfl, rfl⟩ := hcs
    rw [if_pos rfl] at hmm
    subst hmm
    simp only [Prod.mk.injEq] at hx
    -- each element, opened
    obtain ⟨b, off, spot⟩ := a
    have key : ∀ i, i < len0 → ∃ c : Act3, b < w.heap.size ∧ spot = none ∧ ∃ x, w.cell? ⟨b, off + i * 3, none⟩ = some (.int .i64 c.k) ∧ w.cell? ⟨b, off + (i * 3 + 1), none⟩ = some (.int .i64 c.n) ∧ w.cell? ⟨b, off + (i * 3 + 2), none⟩ = some x ∧ ByB w.heap.size w x c.p ∧ c.p.length ≤ 140737488351232 ∧ (Lit.int .i64 c.k).wf = true ∧ (Lit.int .i64 c.n).wf = true := by
      intro i hil
      obtain ⟨ys, n, hD, hPl, hyl, hg⟩ := hi i (by omega)
      obtain ⟨v0, y0, hc0, hy0, ht0⟩ := hg 0 f0 rfl
      obtain ⟨v1, y1, hc1, hy1, ht1⟩ := hg 1 f1 rfl
      obtain ⟨v2, y2, hc2, hy2, ht2⟩ := hg 2 f2 rfl
      rw [hf0] at ht0
      rw [hf1] at ht1
      rw [hf2] at ht2
      have hsp : spot = none := by
        obtain ⟨_, _, _, _, _, g⟩ := hi 0 (by omega)
        obtain ⟨_, _, gc, _, _⟩ := g 0 f0 rfl
        simpa [Addr.add] using World.cell?_spot gc
      subst hsp
      have s3 : (#[f0, f1, f2] : Array Field).size = 3 := rfl
      rw [s3, Addr.add_lit] at hc0 hc1 hc2
      obtain ⟨z0, e0, _, g0⟩ := DataW.trod_int hI ht0
      obtain ⟨z1, e1, _, g1⟩ := DataW.trod_int hI ht1
      have q0 : v0 = .int .i64 z0 := by simpa using e0
      have q1 : v1 = .int .i64 z1 := by simpa using e1
      subst q0 q1
      obtain ⟨xs, xo, xc, hx2, hrd, hwf, hle⟩ := open_reads_cell (B := 1) hB hU hCu ht2 (fun es ss hes => by
        have := hsz _ _ hx.1 (D i) (List.mem_map.2 ⟨i, List.mem_range.2 hil, rfl⟩) _ es ss hD (by rw [List.getElem?_map, hy2]; simp [hes])
        rwa [hbu] at this)
      refine ⟨⟨z0, z1, xs⟩, cell_lt hc0, rfl, v2, by simpa using hc0, hc1, hc2, ⟨by rw [hx2]; exact hrd, hwf, fun hne k hk => ?_⟩, by show xs.length ≤ _; simp only [reachBytes] at hle; omega, g0, g1⟩
      -- the bytes' block is one of the argument's
      rw [hx2] at hk
      cases xo with
      | none => simp [Value.ownBlock] at hk
      | some ax =>
        simp [Value.ownBlock] at hk
        subst hk
        obtain ⟨_, ao', cap', hv', _, hcc⟩ := hrd
        cases hv'
        obtain ⟨y, hy⟩ := get_some (xs := xs) (k := 0) (List.length_pos_iff.2 hne)
        obtain ⟨bb, oo, hbb, hcell⟩ := hcc 0 y hy
        cases hbb
        exact cell_lt hcell
    obtain ⟨l, hll, hq⟩ := list_of (Q := fun i (c : Act3) => b < w.heap.size ∧ spot = none ∧ ∃ x, w.cell? ⟨b, off + i * 3, none⟩ = some (.int .i64 c.k) ∧ w.cell? ⟨b, off + (i * 3 + 1), none⟩ = some (.int .i64 c.n) ∧ w.cell? ⟨b, off + (i * 3 + 2), none⟩ = some x ∧ ByB w.heap.size w x c.p ∧ c.p.length ≤ 140737488351232 ∧ (Lit.int .i64 c.k).wf = true ∧ (Lit.int .i64 c.n).wf = true) len0 key
    refine ⟨l, by omega, some ⟨b, off, spot⟩, m, by rw [hll], by omega, fun i c hc => ?_⟩
    obtain ⟨h1, h2, x, h3⟩ := hq i c hc
    exact ⟨b, off, x, by rw [h2], h1, h3⟩

theorem sized_in {ts : List TypeId} {ds : List (DataW H)} (h : (DataW.weightsEach P ts ds).all (· ≤ reachBytes) = true) {j i : Nat} {t te tf e : TypeId} {fs : Array Field} {el0 sp0 parts el sp : List (DataW H)} (ht : ts[j]? = some t) (hd : ds[j]? = some (.slice el0 sp0))
    (hu0 : P.underlying t = some (.slice te)) (hx : DataW.agg parts ∈ el0) (hu : P.underlying te = some (.struct fs)) (hf : (fs.toList.map (·.type))[i]? = some tf) (hp : parts[i]? = some (.slice el sp)) (hus : P.underlying tf = some (.slice e)) : (el.length + sp.length) * P.bytesOf e ≤ reachBytes := by
  have := List.all_eq_true.1 h _ (DataW.weights_mem_each ht hd ((el.length + sp.length) * P.bytesOf e) (by
    simp only [DataW.weights, hu0]
    refine List.mem_cons_of_mem _ (List.mem_append_left _ (weights_mem_all ?_ hx))
    simp only [DataW.weights, hu]
    exact DataW.weights_mem_each hf hp _ (by simp [DataW.weights, hus])))
  simpa using this
end

end Go.Proofs.Ythmdibagcbbgoaa

namespace Go.Proofs.Ythmdibagcbbgoaa
open Go.ChangeShapes Go.WideShapes Go.Deep Go.ChangeAt Go.RowKit

/-- The slice value reads as a list of pairs; all that it has lies below B. -/
def WaybAt (B : Nat) (w : World) (v : Value) (l : List (Int × Bool)) : Prop :=
  l.length ≤ maxLen ∧ ∃ ao cap, v = .slice ao l.length cap ∧ l.length ≤ cap ∧ ∀ (i : Nat) (c : Int × Bool), l[i]? = some c → ∃ b o, ao = some ⟨b, o, none⟩ ∧ b < B ∧
    w.cell? ⟨b, o + i * 2, none⟩ = some (.int .i64 c.1) ∧ w.cell? ⟨b, o + (i * 2 + 1), none⟩ = some (.bool c.2) ∧ (Lit.int .i64 c.1).wf = true
theorem WaybAt.below {B : Nat} {w w' : World} {v : Value} {l : List (Int × Bool)} (h : WaybAt B w v l) (hb : Below B w w') : WaybAt B w' v l := by
  obtain ⟨hm, ao, cap, hv, hl, hc⟩ := h
  refine ⟨hm, ao, cap, hv, hl, fun i c hi => ?_⟩
  obtain ⟨b, o, ha, hlt, h0, h1, hle⟩ := hc i c hi
  have keep : ∀ {j : Nat} {u : Value}, w.cell? ⟨b, j, none⟩ = some u → w'.cell? ⟨b, j, none⟩ = some u := fun h => (hb.cell (p := ⟨b, _, none⟩) hlt).trans h
  exact ⟨b, o, ha, hlt, keep h0, keep h1, hle⟩
theorem WaybAt.at_ {B : Nat} {w : World} {ao : Option Addr} {n cap : Nat} {l : List (Int × Bool)} (h : WaybAt B w (.slice ao n cap) l) {i : Nat} {c : Int × Bool} (hi : l[i]? = some c) : ∃ b o, ao = some ⟨b, o, none⟩ ∧ b < B ∧
    w.cell? ⟨b, o + i * 2, none⟩ = some (.int .i64 c.1) ∧ w.cell? ⟨b, o + (i * 2 + 1), none⟩ = some (.bool c.2) ∧ (Lit.int .i64 c.1).wf = true := by
  obtain ⟨hm, ao', cap', hv, hl, hc⟩ := h
  cases hv
  exact hc i c hi

section
variable {H : Type} {enc : TypeId × Value → H} {P : Program} {w : World}
theorem open_wayb {r : Reach} {b0 : Nat} {t e ti tb : TypeId} {f0 f1 : Field} {v : Value} {d : DataW H} {p : List MemPlace}
    (hT : P.underlying t = some (.slice e)) (hE : P.underlying e = some (.struct #[f0, f1])) (hone : oneCellFields P #[f0, f1] = true) (hC : P.cellsOf e = 2)
    (hf0 : f0.type = ti) (hf1 : f1.type = tb) (hI : P.underlying ti = some (.int .i64)) (hB : P.underlying tb = some .bool)
    (hv : Value.okWide P w r b0 t v) (h : DataW.Trod enc P w 0 (fun _ => true) true t v d p) :
    ∃ l : List (Int × Bool), WaybAt w.heap.size w v l := by
  obtain ⟨a0, len0, cap0, rfl⟩ := okWide_slice hT hv
  obtain ⟨fuel, hf⟩ := h
  rcases open_slice_fields hT hE hone (by rw [hC]; rfl) hf with ⟨hcs, _⟩ | ⟨a, len, cap, m, D, Pl, hcs, _, hl, hm, hmm, hx, hi⟩
  · simp [Value.cells] at hcs
    obtain ⟨rfl, rfl, rfl⟩ := hcs
    exact ⟨[], by simp, none, 0, rfl, by simp, fun i c hc => by simp at hc⟩
  · simp [Value.cells] at hcs
    obtain ⟨rfl, rfl, rfl⟩ := hcs
    rw [if_pos rfl] at hmm
    subst hmm
    simp only [Prod.mk.injEq] at hx
    obtain ⟨b, off, spot⟩ := a
    have key : ∀ i, i < len0 → ∃ c : Int × Bool, b < w.heap.size ∧ spot = none ∧ w.cell? ⟨b, off + i * 2, none⟩ = some (.int .i64 c.1) ∧ w.cell? ⟨b, off + (i * 2 + 1), none⟩ = some (.bool c.2) ∧ (Lit.int .i64 c.1).wf = true := by
      intro i hil
      obtain ⟨ys, n, hD, hPl, hyl, hg⟩ := hi i (by omega)
      obtain ⟨v0, y0, hc0, hy0, ht0⟩ := hg 0 f0 rfl
      obtain ⟨v1, y1, hc1, hy1, ht1⟩ := hg 1 f1 rfl
      rw [hf0] at ht0
      rw [hf1] at ht1
      have hsp : spot = none := by
        obtain ⟨_, _, _, _, _, g⟩ := hi 0 (by omega)
        obtain ⟨_, _, gc, _, _⟩ := g 0 f0 rfl
        simpa [Addr.add] using World.cell?_spot gc
      subst hsp
      have s3 : (#[f0, f1] : Array Field).size = 2 := rfl
      rw [s3, Addr.add_lit] at hc0 hc1
      obtain ⟨z0, e0, _, g0⟩ := DataW.trod_int hI ht0
      obtain ⟨z1, e1, _⟩ := DataW.trod_bool hB ht1
      have q0 : v0 = .int .i64 z0 := by simpa using e0
      have q1 : v1 = .bool z1 := by simpa using e1
      subst q0 q1
      exact ⟨⟨z0, z1⟩, cell_lt hc0, rfl, by simpa using hc0, hc1, g0⟩
    obtain ⟨l, hll, hq⟩ := list_of (Q := fun i (c : Int × Bool) => b < w.heap.size ∧ spot = none ∧ w.cell? ⟨b, off + i * 2, none⟩ = some (.int .i64 c.1) ∧ w.cell? ⟨b, off + (i * 2 + 1), none⟩ = some (.bool c.2) ∧ (Lit.int .i64 c.1).wf = true) len0 key
    refine ⟨l, by omega, some ⟨b, off, spot⟩, m, by rw [hll], by omega, fun i c hc => ?_⟩
    obtain ⟨h1, h2, h3⟩ := hq i c hc
    exact ⟨b, off, by rw [h2], h1, h3⟩
end

end Go.Proofs.Ythmdibagcbbgoaa
