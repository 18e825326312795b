/- The contract of portagelaw05.copied: the same control, its data in new memory. Conditions: no more bytes than an argument can have. -/
import Derived.WalkKit
import Derived.Lib.Hide
import Derived.Test.YtcglpdbnggekdaaCtlGet
import Derived.Test.YtcglpdbnggekdaaFr
namespace Go.Proofs.Ytcglpdbnggekdaa
open Go.RowKit

theorem own_two (w : World) (C D : Obj) (e : TypeId) : (((w.alloc C).alloc D).alloc (.cells #[] e)).ownsRow (w.heap.size + 2) e 1 (.slice (some ⟨w.heap.size + 2, 0, none⟩) 0 0) 0 [] := by
  have := owns_empty ((w.alloc C).alloc D) (base := w.heap.size + 2) e (by simp)
  rw [World.size_alloc, World.size_alloc] at this
  exact this
theorem size_three (w : World) (C D E : Obj) : w.heap.size + 2 ≤ (((w.alloc C).alloc D).alloc E).heap.size := by simp
/-- Two boxes behind an append to the row above them. -/
theorem boxes_kept {w W : World} {C D : Obj} {e : TypeId} {row : Option Nat} (hg : (((w.alloc C).alloc D).alloc (.cells #[] e)).grownBy W row) (hr : row = some (w.heap.size + 2)) : W.heap[w.heap.size]? = some C ∧ W.heap[w.heap.size + 1]? = some D := by
  obtain ⟨a, b, _, _⟩ := two_blocks w C D
  have hs := size_three w C D (.cells #[] e)
  exact ⟨(hg.block _ (by omega) (by rw [hr]; simp)).trans (kept_alloc a _), (hg.block _ (by omega) (by rw [hr]; simp)).trans (kept_alloc b _)⟩
theorem owns_fr {F : Nat → Prop} {w w' : World} {base : Nat} {e : TypeId} {s : Nat} {v : Value} {n : Nat} {xs : List Value} (h : w.ownsRow base e s v n xs) (hf : Fr F w w') (hn : ∀ k, v.ownBlock = some k → ¬ F k) : w'.ownsRow base e s v n xs := by
  refine ⟨h.1, ?_⟩
  rcases h.2 with h2 | ⟨g, cap, cur, rfl, hg, hrow, r⟩
  · exact .inl h2
  · exact .inr ⟨g, cap, cur, rfl, hg, hf.get hrow (hn g rfl), r⟩
theorem row_ge2 {n k : Nat} (h : (some (n + 2) : Option Nat) = some k) : n ≤ k := by cases h; omega

set_option maxRecDepth 100000 in
set_option maxHeartbeats 1000000 in
theorem copied_any (c : Ctl) (ao : Option Addr) (cap : Nat) (w : World) (hr : Reads (Value.int .u8) w (.slice ao c.data.length cap) c.data) (hle : c.data.length ≤ 140737488351232) :
    Calls Try.prog 10 #[c.val ao cap] w fun e w' => ∃ (ao' : Option Addr) (cap' : Nat), e = .returned (c.val ao' cap') ∧
      w'.ownsRow w.heap.size 5 1 (.slice ao' c.data.length cap') c.data.length (c.data.map (Value.int .u8)) ∧ Below w.heap.size w w' := by
  obtain ⟨i0, hi, hz0, hz1, hz2⟩ := info_parts infoByte
  obtain ⟨k, ns, nr, p, me, peer, ds⟩ := c
  simp only [Ctl.val] at *
  go_enter Try.func10, Try.ntmps10
  have hsrc := fun (o1 o2 o3 : Obj) => hr.below (bl_alloc (bl_alloc (bl_alloc (bl_refl w) o1) o2) o3)
  go_wp2_with (first | (at_builtin; refine wpList_append_r _ rfl (.tmp 3) (.tmp 5) 22 rfl (w.heap.size + 2) 5 i0 (.int .u8 0) 1 Try.underlying22 hi hz0 hz1 hz2 rfl _ _ _ rfl (own_two w _ _ _) (Value.int .u8) _ ds rfl (hsrc _ _ _) (by intros; rfl) (by simp [maxLen]; try omega) (by simp; try omega) (size_three w _ _ _) ?_; intro u7 W7 hO7 hg7 _; obtain ⟨hbox, hres⟩ := boxes_kept hg7 rfl; have f6 := frozen_of (j := 6) hbox; obtain ⟨d0, d1, d2, d3, d4, d5, d6⟩ := cells_of7 hbox; have hB7 : Below w.heap.size w W7 := bl_grown (bl_alloc (bl_alloc (bl_alloc (bl_refl w) _) _) _) hg7 (fun k hk => row_ge2 hk); clear hg7; obtain ⟨ao7, cap7, rfl⟩ := owns_form hO7; have hres2 := (Below.heap_setCell W7 ⟨w.heap.size, 6, none⟩ (.slice ao7 ds.length cap7) (w.heap.size + 1) (by simp)).trans hres) | (refine wpList_store_row rfl 24 _ _ rfl _ #[.int .i64 k, .int .i64 ns, .int .i64 nr, .bool p, .int .i64 me, .int .i64 peer, .slice ao7 ds.length cap7] rfl rfl 24 _ hres2 infoCtl rfl (one7 _ _ _ _ _ _ _ rfl rfl rfl rfl rfl rfl rfl) ?_))
  have hO7 : W7.ownsRow (w.heap.size + 2) 5 1 (.slice ao7 ds.length cap7) ds.length (ds.map (Value.int .u8)) := by simpa using hO7
  have hF : Fr (fun i => i = w.heap.size ∨ i = w.heap.size + 1) W7 ((W7.setCell ⟨w.heap.size, 6, none⟩ (.slice ao7 ds.length cap7)).setRow (w.heap.size + 1) #[.int .i64 k, .int .i64 ns, .int .i64 nr, .bool p, .int .i64 me, .int .i64 peer, .slice ao7 ds.length cap7]) :=
    ((Fr.refl _ _).setCell (p := ⟨w.heap.size, 6, none⟩) (.inl (.inl rfl)) _).setRow (.inl (.inr rfl)) _
  have hrow := setRow_heap (W7.setCell ⟨w.heap.size, 6, none⟩ (.slice ao7 ds.length cap7)) (w.heap.size + 1) _ #[.int .i64 k, .int .i64 ns, .int .i64 nr, .bool p, .int .i64 me, .int .i64 peer, .slice ao7 ds.length cap7] _ _ hres2
  generalize (W7.setCell ⟨w.heap.size, 6, none⟩ (.slice ao7 ds.length cap7)).setRow (w.heap.size + 1) #[.int .i64 k, .int .i64 ns, .int .i64 nr, .bool p, .int .i64 me, .int .i64 peer, .slice ao7 ds.length cap7] = W8 at hF hrow ⊢
  obtain ⟨e0, e1, e2, e3, e4, e5, e6⟩ := cells_of7 hrow
  try simp only [Exit.inBlock, Exit.then]
  refine bodyPost_ret (by simp [results, Try.results10, go_sem, e0, e1, e2, e3, e4, e5, e6]; try rfl) rfl ?_
  exact ⟨ao7, cap7, rfl, owns_mono (owns_fr hO7 hF (fun i hi => by have := (hO7.lt i hi).1; omega)) (by omega), bl_fr hB7 hF (by intro i hi; omega)⟩

end Go.Proofs.Ytcglpdbnggekdaa
