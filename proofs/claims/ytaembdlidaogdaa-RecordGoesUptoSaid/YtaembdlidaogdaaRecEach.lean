/- record.Each: a copy of the row, boxed for the iterator. Conditions: as they stand. -/
import Derived.Test.YtaembdlidaogdaaRecScan
import Derived.Test.YtaembdlidaogdaaTurn
namespace Go.Proofs.Ytaembdlidaogdaa
open Go.RowKit

def EachR (xs : List Int) (w : World) (e : Ending) (w' : World) : Prop :=
  ∃ co cc B, e = .returned (.func (.func 29) #[] #[.pointer (some ⟨B, 0, none⟩)]) ∧ Below w.heap.size w w' ∧ w.heap.size ≤ B ∧ w'.heap[B]? = some (.cells #[.slice co xs.length cc] 22 (0, 0)) ∧ Rd (fun k => w.heap.size ≤ k ∧ k < B) (Value.int .u8) w' (.slice co xs.length cc) xs

set_option maxRecDepth 100000 in
set_option maxHeartbeats 1000000 in
theorem each_any (v : Value) (xs : List Int) (w : World) (hr : Reads (Value.int .u8) w v xs) (P1 : 0 + xs.length ≤ maxLen) (P2 : (0 + xs.length) * 1 ≤ 140737488355328) :
    Calls Try.prog 18 #[v] w (EachR xs w) := by
  obtain ⟨ao, cap, rfl⟩ : ∃ ao cap, v = .slice ao xs.length cap := by
    obtain ⟨_, ao, cap, h, _⟩ := hr
    exact ⟨ao, cap, h⟩
  have hmax := hr.1
  obtain ⟨i0, hi, hz0, hz1, hz2⟩ := info_parts infoByte
  have hrr := hr.below (bl_alloc (bl_refl w) (.cells #[] 5))
  go_enter Try.func18, Try.ntmps18
  go_wp2_with (at_builtin; refine wpList_append_r _ rfl _ _ 22 rfl w.heap.size 5 i0 (.int .u8 0) 1 Try.underlying22 hi hz0 hz1 hz2 rfl _ _ _ rfl (owns_empty w 5 (Nat.le_refl _)) (Value.int .u8) _ xs rfl hrr (by intros; rfl) P1 P2 (by simp) ?_; intro u w1 hO hg hne)
  have hb := bl_grown (bl_alloc (bl_refl w) (.cells #[] 5)) hg (by intro k hk; cases hk; exact Nat.le_refl _)
  simp only [Nat.zero_add, List.nil_append] at hO
  obtain ⟨co, cc, rfl⟩ := owns_form3 hO
  have hrd := Rd.of_owns hO hmax
  clear hg hne hrr
  refine (rows_any _ _ _ _).mono ?_
  rintro e w2 ⟨rfl, rfl⟩
  go_wp2
  go_ret
  exact ⟨co, cc, w1.heap.size, rfl, bl_alloc hb _, hb.size, heap_alloc_new _ _, hrd.below (bl_alloc (bl_refl _) _)⟩

end Go.Proofs.Ytaembdlidaogdaa
