/- An argument that is a slice of structs (int, int): it reads as a list of pairs. No program in sight. Conditions: none. -/
import Derived.Test.YtagbaoakablfpaaOpenActs
namespace Go.Proofs.Ytagbaoakablfpaa
open Go.ChangeShapes Go.WideShapes Go.Deep Go.ChangeAt Go.RowKit

/-- The slice value reads as a list of pairs; all that it has lies below B. -/
def WaysAt (B : Nat) (w : World) (v : Value) (l : List (Int × Int)) : Prop :=
  l.length ≤ maxLen ∧ ∃ ao cap, v = .slice ao l.length cap ∧ l.length ≤ cap ∧ ∀ (i : Nat) (c : Int × Int), l[i]? = some c → ∃ b o, ao = some ⟨b, o, none⟩ ∧ b < B ∧
    w.cell? ⟨b, o + i * 2, none⟩ = some (.int .i64 c.1) ∧ w.cell? ⟨b, o + (i * 2 + 1), none⟩ = some (.int .i64 c.2) ∧ (Lit.int .i64 c.1).wf = true ∧ (Lit.int .i64 c.2).wf = true
theorem WaysAt.below {B : Nat} {w w' : World} {v : Value} {l : List (Int × Int)} (h : WaysAt B w v l) (hb : Below B w w') : WaysAt B w' v l := by
  obtain ⟨hm, ao, cap, hv, hl, hc⟩ := h
  refine ⟨hm, ao, cap, hv, hl, fun i c hi => ?_⟩
  obtain ⟨b, o, ha, hlt, h0, h1, hle⟩ := hc i c hi
  have keep : ∀ {j : Nat} {u : Value}, w.cell? ⟨b, j, none⟩ = some u → w'.cell? ⟨b, j, none⟩ = some u := fun h => (hb.cell (p := ⟨b, _, none⟩) hlt).trans h
  exact ⟨b, o, ha, hlt, keep h0, keep h1, hle⟩
theorem WaysAt.at_ {B : Nat} {w : World} {ao : Option Addr} {n cap : Nat} {l : List (Int × Int)} (h : WaysAt B w (.slice ao n cap) l) {i : Nat} {c : Int × Int} (hi : l[i]? = some c) : ∃ b o, ao = some ⟨b, o, none⟩ ∧ b < B ∧
    w.cell? ⟨b, o + i * 2, none⟩ = some (.int .i64 c.1) ∧ w.cell? ⟨b, o + (i * 2 + 1), none⟩ = some (.int .i64 c.2) ∧ (Lit.int .i64 c.1).wf = true ∧ (Lit.int .i64 c.2).wf = true := by
  obtain ⟨hm, ao', cap', hv, hl, hc⟩ := h
  cases hv
  exact hc i c hi

section
variable {H : Type} {enc : TypeId × Value → H} {P : Program} {w : World}
theorem open_ways {r : Reach} {b0 : Nat} {t e ti : TypeId} {f0 f1 : Field} {v : Value} {d : DataW H} {p : List MemPlace}
    (hT : P.underlying t = some (.slice e)) (hE : P.underlying e = some (.struct #[f0, f1])) (hone : oneCellFields P #[f0, f1] = true) (hC : P.cellsOf e = 2)
    (hf0 : f0.type = ti) (hf1 : f1.type = ti) (hI : P.underlying ti = some (.int .i64))
    (hv : Value.okWide P w r b0 t v) (h : DataW.Trod enc P w 0 (fun _ => true) true t v d p) :
    ∃ l : List (Int × Int), WaysAt w.heap.size w v l := by
  obtain ⟨a0, len0, cap0, rfl⟩ := okWide_slice hT hv
  obtain ⟨fuel, hf⟩ := h
  rcases open_slice_fields hT hE hone (by rw [hC]; rfl) hf with ⟨hcs, _⟩ | ⟨a, len, cap, m, D, Pl, hcs, _, hl, hm, hmm, hx, hi⟩
  · simp [Value.cells] at hcs
    obtain ⟨rfl, rfl, rfl⟩ := hcs
    exact ⟨[], by simp, none, 0, rfl, by simp, fun i c hc => by simp at hc⟩
  · simp [Value.cells] at hcs
    obtain ⟨rfl, rfl, rfl⟩ := hcs
    rw [if_pos rfl] at hmm
    subst hmm
    simp only [Prod.mk.injEq] at hx
    obtain ⟨b, off, spot⟩ := a
    have key : ∀ i, i < len0 → ∃ c : Int × Int, b < w.heap.size ∧ spot = none ∧ w.cell? ⟨b, off + i * 2, none⟩ = some (.int .i64 c.1) ∧ w.cell? ⟨b, off + (i * 2 + 1), none⟩ = some (.int .i64 c.2) ∧ (Lit.int .i64 c.1).wf = true ∧ (Lit.int .i64 c.2).wf = true := by
      intro i hil
      obtain ⟨ys, n, hD, hPl, hyl, hg⟩ := hi i (by omega)
      obtain ⟨v0, y0, hc0, hy0, ht0⟩ := hg 0 f0 rfl
      obtain ⟨v1, y1, hc1, hy1, ht1⟩ := hg 1 f1 rfl
      rw [hf0] at ht0
      rw [hf1] at ht1
      have hsp : spot = none := by
        obtain ⟨_, _, _, _, _, g⟩ := hi 0 (by omega)
        obtain ⟨_, _, gc, _, _⟩ := g 0 f0 rfl
        simpa [Addr.add] using World.cell?_spot gc
      subst hsp
      have s3 : (#[f0, f1] : Array Field).size = 2 := rfl
      rw [s3, Addr.add_lit] at hc0 hc1
      obtain ⟨z0, e0, _, g0⟩ := DataW.trod_int hI ht0
      obtain ⟨z1, e1, _, g1⟩ := DataW.trod_int hI ht1
      have q0 : v0 = .int .i64 z0 := by simpa using e0
      have q1 : v1 = .int .i64 z1 := by simpa using e1
      subst q0 q1
      exact ⟨⟨z0, z1⟩, cell_lt hc0, rfl, by simpa using hc0, hc1, g0, g1⟩
    obtain ⟨l, hll, hq⟩ := list_of (Q := fun i (c : Int × Int) => b < w.heap.size ∧ spot = none ∧ w.cell? ⟨b, off + i * 2, none⟩ = some (.int .i64 c.1) ∧ w.cell? ⟨b, off + (i * 2 + 1), none⟩ = some (.int .i64 c.2) ∧ (Lit.int .i64 c.1).wf = true ∧ (Lit.int .i64 c.2).wf = true) len0 key
    refine ⟨l, by omega, some ⟨b, off, spot⟩, m, by rw [hll], by omega, fun i c hc => ?_⟩
    obtain ⟨h1, h2, h3⟩ := hq i c hc
    exact ⟨b, off, by rw [h2], h1, h3⟩
end

end Go.Proofs.Ytagbaoakablfpaa
