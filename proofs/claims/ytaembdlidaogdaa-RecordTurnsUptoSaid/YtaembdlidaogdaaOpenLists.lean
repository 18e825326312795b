/- An argument that is a slice of slices of bytes: it reads as a list of lists, of the bulk that the second form counts. Conditions: none. -/
import Derived.Test.YtaembdlidaogdaaOpenActs
import Derived.Test.YtaembdlidaogdaaBulk
import Derived.Test.YtaembdlidaogdaaLst
namespace Go.Proofs.Ytaembdlidaogdaa
open Go.ChangeShapes Go.WideShapes Go.Deep Go.ChangeAt Go.RowKit

/-- The slice value reads as a list of lists of bytes; all that it has lies below B. -/
def ListsAt (B : Nat) (w : World) (v : Value) (l : List (List Int)) : Prop :=
  l.length ≤ maxLen ∧ ∃ ao cap, v = .slice ao l.length cap ∧ (l.length ≤ cap ∧ (ao = none → l.length = 0)) ∧ ∀ (i : Nat) (p : List Int), l[i]? = some p → ∃ b o x, ao = some ⟨b, o, none⟩ ∧ b < B ∧ w.cell? ⟨b, o + i, none⟩ = some x ∧ ByB B w x p
theorem ListsAt.below {B : Nat} {w w' : World} {v : Value} {l : List (List Int)} (h : ListsAt B w v l) (hb : Below B w w') : ListsAt B w' v l := by
  obtain ⟨hm, ao, cap, hv, hl, hc⟩ := h
  refine ⟨hm, ao, cap, hv, hl, fun i p hp => ?_⟩
  obtain ⟨b, o, x, ha, hlt, h0, hx⟩ := hc i p hp
  exact ⟨b, o, x, ha, hlt, (hb.cell (p := ⟨b, _, none⟩) hlt).trans h0, hx.below hb⟩
theorem ListsAt.at_ {B : Nat} {w : World} {ao : Option Addr} {n cap : Nat} {l : List (List Int)} (h : ListsAt B w (.slice ao n cap) l) {i : Nat} {p : List Int} (hp : l[i]? = some p) : ∃ b o x, ao = some ⟨b, o, none⟩ ∧ b < B ∧ w.cell? ⟨b, o + i, none⟩ = some x ∧ ByB B w x p := by
  obtain ⟨hm, ao', cap', hv, hl, hc⟩ := h
  cases hv
  exact hc i p hp
theorem ListsAt.form {B : Nat} {w : World} {v : Value} {l : List (List Int)} (h : ListsAt B w v l) : ∃ ao cap, v = .slice ao l.length cap ∧ l.length ≤ cap := by
  obtain ⟨hm, ao, cap, hv, hl, hc⟩ := h
  exact ⟨ao, cap, hv, hl.1⟩
/-- What the second form counts of it. -/
def bulkL : List (List Int) → Nat
  | [] => 0
  | p :: l => p.length + 1 + bulkL l
theorem bulkL_append (a b : List (List Int)) : bulkL (a ++ b) = bulkL a + bulkL b := by
  induction a with
  | nil => simp [bulkL]
  | cons p a ih => rw [List.cons_append, bulkL, bulkL, ih]; omega
theorem bulkL_len (l : List (List Int)) : l.length ≤ bulkL l := by
  induction l with
  | nil => simp
  | cons p l ih => rw [bulkL, List.length_cons]; omega
theorem bulkL_take (l : List (List Int)) (k : Nat) : bulkL (l.take k) ≤ bulkL l := by
  have := bulkL_append (l.take k) (l.drop k)
  rw [List.take_append_drop] at this
  omega

section
variable {H : Type} {enc : TypeId × Value → H} {P : Program} {w : World}
theorem open_bytes_cell {t e : TypeId} {k : IntKind} {N fuel : Nat} {c : Value} {y : DataW H × List MemPlace}
    (hT : P.underlying t = some (.slice e)) (hE : P.underlying e = some (.int k)) (hC : P.cellsOf e = 1)
    (h : DataW.trod enc P w 0 (fun _ => true) true fuel t [c] = some y)
    (hsz : ∀ el sp, y.1 = .slice el sp → el.length + sp.length ≤ N) :
    ∃ (xs : List Int) (ao : Option Addr) (cap : Nat), c = .slice ao xs.length cap ∧ Reads (Value.int k) w (.slice ao xs.length cap) xs ∧ (∀ n ∈ xs, (Lit.int k n).wf = true) ∧ xs.length ≤ N := by
  rcases open_ints hT hE hC h with ⟨hcs, _⟩ | ⟨a, l, cc, zs, hcs, _, hl, hm, hz, hx, hcell, hwz⟩
  · simp at hcs
    subst hcs
    exact ⟨[], none, 0, rfl, Reads.nil _ _, by simp, by simp⟩
  · simp at hcs
    subst hcs
    have hs := hsz (lits k (zs.take l)) (lits k (zs.drop l)) (by rw [hx])
    simp only [lits, List.length_map, List.length_take, List.length_drop] at hs
    have hz' : zs.length = cc := by simpa using hz
    have hlen : (zs.take l).length = l := by rw [List.length_take]; omega
    refine ⟨zs.take l, some a, cc, by rw [hlen], ⟨by rw [hlen]; omega, some a, cc, rfl, ⟨by rw [hlen]; omega, fun h => by cases h⟩, fun i x hx => ?_⟩, fun n hn => hwz n (List.mem_of_mem_take hn), by rw [hlen]; omega⟩
    have hi : i < l := by have := (List.getElem?_eq_some_iff.1 hx).1; omega
    have hx' : zs[i]? = some x := by rw [List.getElem?_take, if_pos hi] at hx; exact hx
    have hci := hcell i (by omega)
    obtain ⟨b, off, spot⟩ := a
    have hspot : spot = none := by simpa [Addr.add] using World.cell?_spot (hcell 0 (by omega))
    subst hspot
    refine ⟨b, off, rfl, ?_⟩
    rw [Addr.add_lit] at hci
    rw [hci, List.getD_eq_getElem?_getD, hx']
    rfl

theorem bulk_map {D : Nat → DataW H} : ∀ (l : List (List Int)) (k : Nat), (∀ (i : Nat) p, l[i]? = some p → p.length + 1 ≤ Rows.uptoBulk (D (k + i))) → bulkL l ≤ Rows.uptoBulkAll ((List.range' k l.length).map D)
  | [], _, _ => Nat.zero_le _
  | p :: l, k, h => by
    rw [List.length_cons, List.range'_succ, List.map_cons, Rows.uptoBulkAll, bulkL]
    have h0 : p.length + 1 ≤ Rows.uptoBulk (D k) := h 0 p rfl
    have h1 := bulk_map l (k + 1) (fun i q hq => by have := h (i + 1) q hq; rwa [show k + (i + 1) = k + 1 + i by omega] at this)
    omega

theorem open_lists {r : Reach} {b0 : Nat} {t tb tu : TypeId} {v : Value} {d : DataW H} {p : List MemPlace}
    (hT : P.underlying t = some (.slice tb)) (hB : P.underlying tb = some (.slice tu)) (hU : P.underlying tu = some (.int .u8)) (hC : P.cellsOf tb = 1) (hCu : P.cellsOf tu = 1)
    (hv : Value.okWide P w r b0 t v) (h : DataW.Trod enc P w 0 (fun _ => true) true t v d p) (hbk : Rows.uptoBulk d ≤ 1048576) :
    ∃ l : List (List Int), ListsAt w.heap.size w v l ∧ bulkL l ≤ 1048576 := by
  obtain ⟨a0, len0, cap0, rfl⟩ := okWide_slice hT hv
  obtain ⟨fuel, hf⟩ := h
  rcases open_slice1 hT hC hf with ⟨hcs, _⟩ | ⟨a, len, cap, m, n, V, D, Pl, hcs, _, hl, hm, hmm, hx, hi⟩
  · simp [Value.cells] at hcs
    obtain ⟨rfl, rfl, rfl⟩ := hcs
    exact ⟨[], ⟨by simp, none, 0, rfl, ⟨by simp, fun _ => rfl⟩, fun i c hc => by simp at hc⟩, by simp [bulkL]⟩
  · simp [Value.cells] at hcs
    obtain ⟨rfl, rfl, rfl⟩ := hcs
    rw [if_pos rfl] at hmm
    subst hmm
    simp only [Prod.mk.injEq] at hx
    obtain ⟨b, off, spot⟩ := a
    have key : ∀ i, i < len0 → ∃ c : List Int, b < w.heap.size ∧ spot = none ∧ c.length + 1 ≤ Rows.uptoBulk (D i) ∧ ∃ x, w.cell? ⟨b, off + i, none⟩ = some x ∧ ByB w.heap.size w x c := by
      intro i hil
      obtain ⟨hc0, ht0⟩ := hi i (by omega)
      have hsp : spot = none := by simpa [Addr.add] using World.cell?_spot (hi 0 (by omega)).1
      subst hsp
      rw [Addr.add_lit] at hc0
      obtain ⟨xs, xo, xc, hx2, hrd, hwf, hle⟩ := open_bytes_cell (N := Rows.uptoBulk (D i) - 1) hB hU hCu ht0 (fun es ss hes => by
        dsimp only at hes
        rw [hes, Rows.uptoBulk]
        have h3 := bulk_count es
        have h4 := bulk_count ss
        omega)
      have h1 := bulk_one (D i)
      refine ⟨xs, cell_lt hc0, rfl, by omega, V i, hc0, ⟨by rw [hx2]; exact hrd, hwf, fun hne k hk => ?_⟩⟩
      rw [hx2] at hk
      cases xo with
      | none => simp [Value.ownBlock] at hk
      | some ax =>
        simp [Value.ownBlock] at hk
        subst hk
        obtain ⟨_, ao', cap', hv', _, hcc⟩ := hrd
        cases hv'
        obtain ⟨y, hy⟩ := get_some (xs := xs) (k := 0) (List.length_pos_iff.2 hne)
        obtain ⟨bb, oo, hbb, hcell⟩ := hcc 0 y hy
        cases hbb
        exact cell_lt hcell
    obtain ⟨l, hll, hq⟩ := list_of (Q := fun i (c : List Int) => b < w.heap.size ∧ spot = none ∧ c.length + 1 ≤ Rows.uptoBulk (D i) ∧ ∃ x, w.cell? ⟨b, off + i, none⟩ = some x ∧ ByB w.heap.size w x c) len0 key
    refine ⟨l, ⟨by omega, some ⟨b, off, spot⟩, m, by rw [hll], ⟨by omega, fun h => by cases h⟩, fun i c hc => ?_⟩, ?_⟩
    · obtain ⟨h1, h2, _, x, h3⟩ := hq i c hc
      exact ⟨b, off, x, by rw [h2], h1, h3⟩
    · have h1 := bulk_map (D := D) l 0 (fun i p hp => by rw [Nat.zero_add]; exact (hq i p hp).2.2.1)
      rw [hx.1, Rows.uptoBulk, List.range_eq_range', ← hll] at hbk
      omega
end

end Go.Proofs.Ytaembdlidaogdaa
