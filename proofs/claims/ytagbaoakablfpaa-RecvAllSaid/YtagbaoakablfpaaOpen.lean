/- How an argument that is a slice of integers reads: as a list. No program in sight. Conditions: none. -/
import Derived.WalkKit
import Derived.ProofKit
import Derived.OpenShut
import Derived.SizedLaws
import Derived.Test.YtagbaoakablfpaaRead
namespace Go.Proofs.Ytagbaoakablfpaa
open Go.ChangeShapes Go.WideShapes Go.ChangeAt Go.RowKit

theorem open_reads {H : Type} {enc : TypeId × Value → H} {P : Program} {W : World} {r : Reach} {b0 : Nat} {t e : TypeId} {k : IntKind} {B : Nat} {v : Value} {d : DataW H} {p : List MemPlace}
    (hT : P.underlying t = some (.slice e)) (hE : P.underlying e = some (.int k)) (hC : P.cellsOf e = 1)
    (hv : Value.okWide P W r b0 t v) (h : DataW.Trod enc P W 0 (fun _ => true) true t v d p)
    (hsz : ∀ el sp, d = .slice el sp → (el.length + sp.length) * B ≤ reachBytes) :
    ∃ xs : List Int, Reads (Value.int k) W v xs ∧ (∀ n ∈ xs, (Lit.int k n).wf = true) ∧ xs.length * B ≤ reachBytes := by
  obtain ⟨a0, len0, cap0, rfl⟩ := okWide_slice hT hv
  obtain ⟨fuel, hf⟩ := h
  rcases open_ints hT hE hC hf with ⟨hcs, _⟩ | ⟨a, l, c, zs, hcs, _, hl, hm, hz, hx, hcell, hwz⟩
  · simp [Value.cells] at hcs
    obtain ⟨rfl, rfl, rfl⟩ := hcs
    exact ⟨[], Reads.nil _ _, by simp, by simp⟩
  · simp [Value.cells] at hcs
    obtain ⟨rfl, rfl, rfl⟩ := hcs
    simp only [Prod.mk.injEq] at hx
    have hs := hsz _ _ hx.1
    simp only [lits, List.length_map, List.length_take, List.length_drop] at hs
    have hz' : zs.length = cap0 := by simpa using hz
    have hlen : (zs.take len0).length = len0 := by rw [List.length_take]; omega
    refine ⟨zs.take len0, ⟨by rw [hlen]; omega, some a, cap0, by rw [hlen], ⟨by rw [hlen]; omega, fun h => by cases h⟩, fun i x hx => ?_⟩, fun n hn => hwz n (List.mem_of_mem_take hn), ?_⟩
    · have hi : i < len0 := by have := (List.getElem?_eq_some_iff.1 hx).1; omega
      have hx' : zs[i]? = some x := by rw [List.getElem?_take, if_pos hi] at hx; exact hx
      have hci := hcell i (by omega)
      obtain ⟨b, off, spot⟩ := a
      have hspot : spot = none := by simpa [Addr.add] using World.cell?_spot (hcell 0 (by omega))
      subst hspot
      refine ⟨b, off, rfl, ?_⟩
      rw [Addr.add_lit] at hci
      rw [hci, List.getD_eq_getElem?_getD, hx']
      rfl
    · rw [hlen]
      refine Nat.le_trans (Nat.mul_le_mul_right _ ?_) hs
      omega

end Go.Proofs.Ytagbaoakablfpaa
