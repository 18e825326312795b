/- An argument that is a slice of structs (int, int, []byte): it reads as a list of acts. No program in sight. Conditions: none. -/
import Derived.Deep.Slices
import Derived.Deep.Fields
import Derived.ChangeSame
import Derived.Test.YtagbaoakablfpaaOpen7
import Derived.Test.YtagbaoakablfpaaFr
namespace Go.Proofs.Ytagbaoakablfpaa
open Go.ChangeShapes Go.WideShapes Go.Deep Go.ChangeAt Go.RowKit

/-- A call: its kind, a number, bytes. -/
structure Act3 where
  k : Int
  n : Int
  p : List Int

/-- Bytes that lie below B where there are any. -/
def ByB (B : Nat) (w : World) (v : Value) (p : List Int) : Prop := Reads (Value.int .u8) w v p ∧ (∀ n ∈ p, (Lit.int .u8 n).wf = true) ∧ (p ≠ [] → ∀ k, v.ownBlock = some k → k < B)
theorem ByB.below {B : Nat} {w w' : World} {v : Value} {p : List Int} (h : ByB B w v p) (hb : Below B w w') : ByB B w' v p := by
  obtain ⟨hr, hw, hl⟩ := h
  refine ⟨?_, hw, hl⟩
  cases p with
  | nil =>
    obtain ⟨hm, ao, cap, hv, hlc, hc⟩ := hr
    exact ⟨hm, ao, cap, hv, hlc, fun i y hy => by simp at hy⟩
  | cons x r =>
    have h' : Rd (fun k => k < B) (Value.int .u8) w v (x :: r) := ⟨hr, fun k hk => hl (by simp) k hk⟩
    exact (h'.fr (G := fun k => B ≤ k) ⟨hb.os, hb.tape, hb.output, hb.size, fun k _ hn => hb.block k (by omega)⟩ (fun k hk => by omega)).1

/-- The slice value reads as a list of acts; all that it has lies below B. -/
def ActsAt (B : Nat) (w : World) (v : Value) (l : List Act3) : Prop :=
  l.length ≤ maxLen ∧ ∃ ao cap, v = .slice ao l.length cap ∧ l.length ≤ cap ∧ ∀ (i : Nat) (c : Act3), l[i]? = some c → ∃ b o x, ao = some ⟨b, o, none⟩ ∧ b < B ∧
    w.cell? ⟨b, o + i * 3, none⟩ = some (.int .i64 c.k) ∧ w.cell? ⟨b, o + (i * 3 + 1), none⟩ = some (.int .i64 c.n) ∧ w.cell? ⟨b, o + (i * 3 + 2), none⟩ = some x ∧ ByB B w x c.p ∧ c.p.length ≤ 140737488351232 ∧ (Lit.int .i64 c.k).wf = true ∧ (Lit.int .i64 c.n).wf = true
theorem ActsAt.below {B : Nat} {w w' : World} {v : Value} {l : List Act3} (h : ActsAt B w v l) (hb : Below B w w') : ActsAt B w' v l := by
  obtain ⟨hm, ao, cap, hv, hl, hc⟩ := h
  refine ⟨hm, ao, cap, hv, hl, fun i c hi => ?_⟩
  obtain ⟨b, o, x, ha, hlt, h0, h1, h2, hx, hle⟩ := hc i c hi
  have keep : ∀ {j : Nat} {u : Value}, w.cell? ⟨b, j, none⟩ = some u → w'.cell? ⟨b, j, none⟩ = some u := fun h => (hb.cell (p := ⟨b, _, none⟩) hlt).trans h
  exact ⟨b, o, x, ha, hlt, keep h0, keep h1, keep h2, hx.below hb, hle⟩
theorem ActsAt.at_ {B : Nat} {w : World} {ao : Option Addr} {n cap : Nat} {l : List Act3} (h : ActsAt B w (.slice ao n cap) l) {i : Nat} {c : Act3} (hi : l[i]? = some c) : ∃ b o x, ao = some ⟨b, o, none⟩ ∧ b < B ∧
    w.cell? ⟨b, o + i * 3, none⟩ = some (.int .i64 c.k) ∧ w.cell? ⟨b, o + (i * 3 + 1), none⟩ = some (.int .i64 c.n) ∧ w.cell? ⟨b, o + (i * 3 + 2), none⟩ = some x ∧ ByB B w x c.p ∧ c.p.length ≤ 140737488351232 ∧ (Lit.int .i64 c.k).wf = true ∧ (Lit.int .i64 c.n).wf = true := by
  obtain ⟨hm, ao', cap', hv, hl, hc⟩ := h
  cases hv
  exact hc i c hi
/-- The first of them. -/
theorem ActsAt.take {B : Nat} {w : World} {ao : Option Addr} {cap : Nat} {l : List Act3} (h : ActsAt B w (.slice ao l.length cap) l) (k : Nat) (hk : k ≤ l.length) : ActsAt B w (.slice ao k cap) (l.take k) := by
  obtain ⟨hm, ao', cap', hv, hl, hc⟩ := h
  cases hv
  have : (l.take k).length = k := by simp; omega
  refine ⟨by omega, ao, cap, by rw [this], by omega, fun i c hi => ?_⟩
  rw [List.getElem?_take] at hi
  split at hi
  · exact hc i c hi
  · cases hi

theorem list_of {α : Type} {Q : Nat → α → Prop} : ∀ (n : Nat), (∀ i, i < n → ∃ a, Q i a) → ∃ l : List α, l.length = n ∧ ∀ (i : Nat) a, l[i]? = some a → Q i a
  | 0, _ => ⟨[], rfl, fun i a h => by simp at h⟩
  | n + 1, h => by
    obtain ⟨l, hl, hq⟩ := list_of n (fun i hi => h i (by omega))
    obtain ⟨a, ha⟩ := h n (by omega)
    refine ⟨l ++ [a], by simp [hl], fun i b hb => ?_⟩
    by_cases hi : i < l.length
    · rw [List.getElem?_append_left hi] at hb; exact hq i b hb
    · have hlt := (List.getElem?_eq_some_iff.1 hb).1
      simp only [List.length_append, List.length_singleton] at hlt
      subst hl
      have e : i = l.length := by omega
      subst e
      rw [List.getElem?_append_right (Nat.le_refl _), Nat.sub_self] at hb
      cases hb
      exact ha

theorem weights_mem_all {H : Type} {P : Program} {e : TypeId} {d : DataW H} {n : Nat} (hn : n ∈ d.weights P e) : ∀ {l : List (DataW H)}, d ∈ l → n ∈ DataW.weightsAll P e l
  | [], h => by simp at h
  | x :: r, h => by
    simp only [DataW.weightsAll, List.mem_append]
    rcases List.mem_cons.1 h with h | h
    · subst h; exact .inl hn
    · exact .inr (weights_mem_all hn h)

section
variable {H : Type} {enc : TypeId × Value → H} {P : Program} {w : World} {base : Nat} {spare : Nat → Bool} {held : Bool}
theorem open_slice_fields {t e : TypeId} {fs : Array Field} {fuel : Nat} {cs : List Value} {x : DataW H × List MemPlace} (ht : P.underlying t = some (.slice e)) (he : P.underlying e = some (.struct fs))
    (hone : oneCellFields P fs = true) (hC : P.cellsOf e = fs.size) (h : DataW.trod enc P w base spare held fuel t cs = some x) :
    (cs = [.slice none 0 0] ∧ x = (.nil, [])) ∨
    ∃ (a : Addr) (len cap m : Nat) (D : Nat → DataW H) (Pl : Nat → List MemPlace), cs = [.slice (some a) len cap] ∧ base ≤ a.block ∧ len ≤ cap ∧ cap ≤ maxLen ∧ m = (if spare a.block then cap else len) ∧
      x = (.slice ((List.range len).map D) ((List.range (m - len)).map fun j => D (len + j)), MemPlace.row a (m * fs.size) ++ (List.range m).flatMap Pl) ∧
      ∀ i, i < m → ∃ (ys : List (DataW H × List MemPlace)) (n : Nat), D i = .agg (ys.map (·.1)) ∧ Pl i = ys.flatMap (·.2) ∧ ys.length = fs.size ∧
        ∀ (j : Nat) (f : Field), fs[j]? = some f → ∃ (v : Value) (y : DataW H × List MemPlace), w.cell? (a.add (i * fs.size + j)) = some v ∧ ys[j]? = some y ∧ DataW.trod enc P w base spare held n f.type [v] = some y := by
  rcases open_slice ht h with h0 | ⟨a, len, cap, m, n, D, Pl, hcs, hb, hl, hm, hmm, hx, hi⟩
  · exact .inl h0
  · refine .inr ⟨a, len, cap, m, D, Pl, hcs, hb, hl, hm, hmm, by rw [hC] at hx; exact hx, fun i him => ?_⟩
    obtain ⟨cs', hc, ht'⟩ := hi i him
    rw [hC] at hc
    obtain ⟨ys, n', hn', hy, hlen, hyl, hf⟩ := DataW.trod_struct he ht'
    obtain ⟨_, hcl, hat⟩ := World.cells?_some hc
    simp only [Prod.mk.injEq] at hy
    refine ⟨ys, n', hy.1, hy.2, hyl, fun j f hj => ?_⟩
    obtain ⟨ho, hk⟩ := hone_of hone j f hj
    have hjl : j < fs.size := (Array.getElem?_eq_some_iff.1 hj).1
    have hcell := hat j hjl
    have hv : cs'[j]? = some (cs'[j]'(by omega)) := List.getElem?_eq_getElem (by omega)
    have h1 := hf j f hj
    rw [ho, hk] at h1
    have hone' : (cs'.drop j).take 1 = [cs'[j]'(by omega)] := by
      rw [List.drop_eq_getElem_cons (by omega)]
      rfl
    rw [hone'] at h1
    have hys : ys[j]? = some (ys[j]'(by omega)) := List.getElem?_eq_getElem (by omega)
    refine ⟨_, _, ?_, hys, h1.trans hys⟩
    rw [← Go.Deep.add_add, hcell, hv]

theorem open_acts {r : Reach} {b0 : Nat} {t e ti tb tu : TypeId} {f0 f1 f2 : Field} {v : Value} {d : DataW H} {p : List MemPlace}
    (hT : P.underlying t = some (.slice e)) (hE : P.underlying e = some (.struct #[f0, f1, f2])) (hone : oneCellFields P #[f0, f1, f2] = true) (hC : P.cellsOf e = 3)
    (hf0 : f0.type = ti) (hf1 : f1.type = ti) (hf2 : f2.type = tb) (hI : P.underlying ti = some (.int .i64)) (hB : P.underlying tb = some (.slice tu)) (hU : P.underlying tu = some (.int .u8)) (hCu : P.cellsOf tu = 1) (hbu : P.bytesOf tu = 1)
    (hv : Value.okWide P w r b0 t v) (h : DataW.Trod enc P w 0 (fun _ => true) true t v d p)
    (hsz : ∀ el sp, d = .slice el sp → ∀ x ∈ el, ∀ parts es ss, x = .agg parts → parts[2]? = some (.slice es ss) → (es.length + ss.length) * P.bytesOf tu ≤ reachBytes) :
    ∃ l : List Act3, ActsAt w.heap.size w v l := by
  obtain ⟨a0, len0, cap0, rfl⟩ := okWide_slice hT hv
  obtain ⟨fuel, hf⟩ := h
  rcases open_slice_fields hT hE hone (by rw [hC]; rfl) hf with ⟨hcs, _⟩ | ⟨a, len, cap, m, D, Pl, hcs, _, hl, hm, hmm, hx, hi⟩
  · simp [Value.cells] at hcs
    obtain ⟨rfl, rfl, rfl⟩ := hcs
    exact ⟨[], by simp, none, 0, rfl, by simp, fun i c hc => by simp at hc⟩
  · simp [Value.cells] at hcs
    obtain ⟨rfl, rfl, rfl⟩ := hcs
    rw [if_pos rfl] at hmm
    subst hmm
    simp only [Prod.mk.injEq] at hx
    -- each element, opened
    obtain ⟨b, off, spot⟩ := a
    have key : ∀ i, i < len0 → ∃ c : Act3, b < w.heap.size ∧ spot = none ∧ ∃ x, w.cell? ⟨b, off + i * 3, none⟩ = some (.int .i64 c.k) ∧ w.cell? ⟨b, off + (i * 3 + 1), none⟩ = some (.int .i64 c.n) ∧ w.cell? ⟨b, off + (i * 3 + 2), none⟩ = some x ∧ ByB w.heap.size w x c.p ∧ c.p.length ≤ 140737488351232 ∧ (Lit.int .i64 c.k).wf = true ∧ (Lit.int .i64 c.n).wf = true := by
      intro i hil
      obtain ⟨ys, n, hD, hPl, hyl, hg⟩ := hi i (by omega)
      obtain ⟨v0, y0, hc0, hy0, ht0⟩ := hg 0 f0 rfl
      obtain ⟨v1, y1, hc1, hy1, ht1⟩ := hg 1 f1 rfl
      obtain ⟨v2, y2, hc2, hy2, ht2⟩ := hg 2 f2 rfl
      rw [hf0] at ht0
      rw [hf1] at ht1
      rw [hf2] at ht2
      have hsp : spot = none := by
        obtain ⟨_, _, _, _, _, g⟩ := hi 0 (by omega)
        obtain ⟨_, _, gc, _, _⟩ := g 0 f0 rfl
        simpa [Addr.add] using World.cell?_spot gc
      subst hsp
      have s3 : (#[f0, f1, f2] : Array Field).size = 3 := rfl
      rw [s3, Addr.add_lit] at hc0 hc1 hc2
      obtain ⟨z0, e0, _, g0⟩ := DataW.trod_int hI ht0
      obtain ⟨z1, e1, _, g1⟩ := DataW.trod_int hI ht1
      have q0 : v0 = .int .i64 z0 := by simpa using e0
      have q1 : v1 = .int .i64 z1 := by simpa using e1
      subst q0 q1
      obtain ⟨xs, xo, xc, hx2, hrd, hwf, hle⟩ := open_reads_cell (B := 1) hB hU hCu ht2 (fun es ss hes => by
        have := hsz _ _ hx.1 (D i) (List.mem_map.2 ⟨i, List.mem_range.2 hil, rfl⟩) _ es ss hD (by rw [List.getElem?_map, hy2]; simp [hes])
        rwa [hbu] at this)
      refine ⟨⟨z0, z1, xs⟩, cell_lt hc0, rfl, v2, by simpa using hc0, hc1, hc2, ⟨by rw [hx2]; exact hrd, hwf, fun hne k hk => ?_⟩, by show xs.length ≤ _; simp only [reachBytes] at hle; omega, g0, g1⟩
      -- the bytes' block is one of the argument's
      rw [hx2] at hk
      cases xo with
      | none => simp [Value.ownBlock] at hk
      | some ax =>
        simp [Value.ownBlock] at hk
        subst hk
        obtain ⟨_, ao', cap', hv', _, hcc⟩ := hrd
        cases hv'
        obtain ⟨y, hy⟩ := get_some (xs := xs) (k := 0) (List.length_pos_iff.2 hne)
        obtain ⟨bb, oo, hbb, hcell⟩ := hcc 0 y hy
        cases hbb
        exact cell_lt hcell
    obtain ⟨l, hll, hq⟩ := list_of (Q := fun i (c : Act3) => b < w.heap.size ∧ spot = none ∧ ∃ x, w.cell? ⟨b, off + i * 3, none⟩ = some (.int .i64 c.k) ∧ w.cell? ⟨b, off + (i * 3 + 1), none⟩ = some (.int .i64 c.n) ∧ w.cell? ⟨b, off + (i * 3 + 2), none⟩ = some x ∧ ByB w.heap.size w x c.p ∧ c.p.length ≤ 140737488351232 ∧ (Lit.int .i64 c.k).wf = true ∧ (Lit.int .i64 c.n).wf = true) len0 key
    refine ⟨l, by omega, some ⟨b, off, spot⟩, m, by rw [hll], by omega, fun i c hc => ?_⟩
    obtain ⟨h1, h2, x, h3⟩ := hq i c hc
    exact ⟨b, off, x, by rw [h2], h1, h3⟩

theorem sized_in {ts : List TypeId} {ds : List (DataW H)} (h : (DataW.weightsEach P ts ds).all (· ≤ reachBytes) = true) {j i : Nat} {t te tf e : TypeId} {fs : Array Field} {el0 sp0 parts el sp : List (DataW H)} (ht : ts[j]? = some t) (hd : ds[j]? = some (.slice el0 sp0))
    (hu0 : P.underlying t = some (.slice te)) (hx : DataW.agg parts ∈ el0) (hu : P.underlying te = some (.struct fs)) (hf : (fs.toList.map (·.type))[i]? = some tf) (hp : parts[i]? = some (.slice el sp)) (hus : P.underlying tf = some (.slice e)) : (el.length + sp.length) * P.bytesOf e ≤ reachBytes := by
  have := List.all_eq_true.1 h _ (DataW.weights_mem_each ht hd ((el.length + sp.length) * P.bytesOf e) (by
    simp only [DataW.weights, hu0]
    refine List.mem_cons_of_mem _ (List.mem_append_left _ (weights_mem_all ?_ hx))
    simp only [DataW.weights, hu]
    exact DataW.weights_mem_each hf hp _ (by simp [DataW.weights, hus])))
  simpa using this
end

end Go.Proofs.Ytagbaoakablfpaa
