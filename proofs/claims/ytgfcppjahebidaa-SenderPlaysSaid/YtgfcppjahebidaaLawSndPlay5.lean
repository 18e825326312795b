/- portagelaw07.play where the sender begins anew. Conditions: as they stand. -/
import Derived.WalkKit
import Derived.Lib.Hide
import Derived.BigQuiet
import Derived.Handy
import Derived.Test.YtgfcppjahebidaaLawSndPlay4
import Derived.Test.YtgfcppjahebidaaOrd2
namespace Go.Proofs.Ytgfcppjahebidaa
open Go.RowKit

set_option maxRecDepth 100000 in
set_option maxHeartbeats 1000000 in
theorem play_reset (w0 : World) (g : Nat) (X : Nat → Obj → Prop) (s : Snd) (v : Value) (n : Int) (po : Option Addr) (pn pc : Nat) (w : World) (hD : Duo w0 g X s v w) :
    Calls Try.prog 23 #[.pointer (some ⟨g, 0, none⟩), refV s v, .agg #[.int .i64 4, .int .i64 n, .slice po pn pc]] w fun e w' => e = .returned (.tuple #[refV ⟨s.size, 0, [], 0⟩ (.slice none 0 0), .bool true]) ∧ Duo w0 g X ⟨s.size, 0, [], 0⟩ (.slice none 0 0) w' := by
  obtain ⟨ao, cap, rfl⟩ : ∃ ao cap, v = .slice ao s.ps.length cap := by
    obtain ⟨F, R, _, _, hp, _⟩ := hD
    obtain ⟨ao, cap, h, _⟩ := hp.form
    exact ⟨ao, cap, h⟩
  obtain ⟨W0, hW0⟩ : ∃ W0, ((w.alloc (.cells #[.int .i64 s.size, .int .i64 s.base, .slice ao s.ps.length cap, .int .i64 s.under] 51)).alloc (.cells #[.int .i64 4, .int .i64 n, .slice po pn pc] 40)).alloc (.cells #[.int .i64 0, .int .i64 0, .slice none 0 0, .int .i64 0] 51) = W0 := ⟨_, rfl⟩
  have hB0 : Below w.heap.size w W0 := by rw [← hW0]; exact bl_alloc (bl_alloc (bl_alloc (bl_refl w) _) _) _
  have hxA : W0.heap[w.heap.size]? = some (.cells #[.int .i64 s.size, .int .i64 s.base, .slice ao s.ps.length cap, .int .i64 s.under] 51 (0, 0)) := by rw [← hW0]; exact kept_alloc (kept_alloc (heap_alloc_new w _) _) _
  have hxC : W0.heap[w.heap.size + 1]? = some (.cells #[.int .i64 4, .int .i64 n, .slice po pn pc] 40 (0, 0)) := by
    rw [← hW0]
    refine kept_alloc ?_ _
    have := heap_alloc_new (w.alloc (.cells #[.int .i64 s.size, .int .i64 s.base, .slice ao s.ps.length cap, .int .i64 s.under] 51)) (.cells #[.int .i64 4, .int .i64 n, .slice po pn pc] 40)
    simpa using this
  obtain ⟨a0, a1, a2, a3⟩ := cells_of4 hxA
  have e0 : W0.cell? ⟨w.heap.size + 1, 0, none⟩ = some (.int .i64 4) := by rw [cell_of_row _ _ _ _ _ _ hxC]; rfl
  have hxZ : W0.heap[w.heap.size + 1 + 1]? = some (.cells #[.int .i64 0, .int .i64 0, .slice none 0 0, .int .i64 0] 51 (0, 0)) := by
    rw [← hW0]
    have := heap_alloc_new ((w.alloc (.cells #[.int .i64 s.size, .int .i64 s.base, .slice ao s.ps.length cap, .int .i64 s.under] 51)).alloc (.cells #[.int .i64 4, .int .i64 n, .slice po pn pc] 40)) (.cells #[.int .i64 0, .int .i64 0, .slice none 0 0, .int .i64 0] 51)
    simpa using this
  obtain ⟨F, R, hF, hsw, hpw, hR, hB, hX⟩ := hD
  have hFg := hsw.2.1
  have hs := hsw.below hB0
  have hp := hpw.below hB0
  have hFw := hsw.1
  have hgw := hFw g hsw.2.1
  have hw0 := lt_of_get hxZ
  have hBw := hB.size
  have hf1 : Hid (W0.heap.size = w.heap.size + 3) := by rw [← hW0]; show _ = _; simp
  have HS : ∀ w' : World, Fr (fun k => k = g) W0 w' → (fun w' => w'.cell? ⟨w.heap.size, 0, none⟩ = some (.int .i64 s.size) ∧ w'.cell? ⟨w.heap.size, 1, none⟩ = some (.int .i64 s.base) ∧ w'.cell? ⟨w.heap.size, 2, none⟩ = some (.slice ao s.ps.length cap) ∧ w'.cell? ⟨w.heap.size, 3, none⟩ = some (.int .i64 s.under)) w' := fun w' hf => by
    obtain ⟨c0, c1, c2, c3⟩ := cells_of4 (hf.get hxA (fun e => by have e : w.heap.size = g := e; omega))
    exact ⟨c0, c1, c2, c3⟩
  clear a0 a1 a2 a3 hpw
  unfold refV
  go_enter Try.func23, Try.ntmps23
  go_wp2_with fail
  try simp only [hW0]
  refine wp_region_order (fun w' => w'.cell? ⟨w.heap.size, 0, none⟩ = some (.int .i64 s.size) ∧ w'.cell? ⟨w.heap.size, 1, none⟩ = some (.int .i64 s.base) ∧ w'.cell? ⟨w.heap.size, 2, none⟩ = some (.slice ao s.ps.length cap) ∧ w'.cell? ⟨w.heap.size, 3, none⟩ = some (.int .i64 s.under))
    [(0, 1), (2, 0), (4, 0), (5, 1), (1, 2), (3, 2), (6, 2)] [(7, false), (8, false)] [7, 8] []
    (by kernel_rfl) (fun _ _ d _ _ h => by cases d <;> exact h) (by decide +kernel) (HS _ (.of_below (bl_drew (bl_refl _)))) ?_
  refine wpHead_take (v := ?_) rfl (by rfl) ?_ ?_
  rotate_left
  focus (rintro w1 ⟨q0, q1, q2, q3⟩; go_simp; try with_reducible rfl)
  simp only [Act.put, List.setIfInBounds_toArray]
  iterate 2
    refine wpHead_free (v := ?_) rfl (by rfl) ?_ ?_
    rotate_left
    focus (intro w1; go_simp; try with_reducible rfl)
    simp only [Act.put]
  refine wpHead_take (v := ?_) rfl (by rfl) ?_ ?_
  rotate_left
  focus (rintro w1 ⟨q0, q1, q2, q3⟩; go_simp; try with_reducible rfl)
  simp only [Act.put]
  refine wpHead_step rfl (by rfl) (fun K hK => ?_)
  go_simp; go_at_call 35
  have hv := rreset_any s (.slice ao s.ps.length cap) W0.drew
  unfold refV at hv
  refine hv.mono ?_; rintro e w1 ⟨rfl, hb1⟩; simp only []
  have hb1 := bl_trans (bl_drew (bl_refl W0)) hb1
  refine hK.out _ _ (HS _ (.of_below hb1)) ?_
  clear hK K hv
  try simp only [Act.put, List.setIfInBounds_toArray]
  refine wpHead_step rfl (by rfl) (fun K hK => ?_)
  go_simp; go_at_call 18
  refine (sreset_any F g s w1 (hs.below hb1)).mono ?_; rintro e w2 ⟨u, rfl, hu, hs2, hF2⟩; simp only []
  have hF02 : Fr (fun k => k = g) W0 w2 := (Fr.of_below hb1).trans hF2 (fun i h => .inl h)
  have hp2 := hp.fr hF02 (fun k hk (e : k = g) => (hR k hk).2 (e ▸ hsw.2.1))
  refine hK.out _ _ (HS _ hF02) ?_
  clear hK K
  try simp only [Act.put, List.setIfInBounds_toArray]
  refine wpHead_step rfl (by rfl) (fun K hK => ?_)
  go_simp; go_at_call 19
  refine (same03_eq u (.slice ao s.ps.length cap) s.ps w2 (Lst.of_pays hu) (Lst.of_pays hp2)).mono ?_; rintro e w3 ⟨rfl, hb3⟩; simp only []
  have hF03 : Fr (fun k => k = g) W0 w3 := hF02.then_below hb3
  refine hK.out _ _ (HS _ hF03) ?_
  clear hK K
  try simp only [Act.put, List.setIfInBounds_toArray]
  refine wpHead_nil ?_
  have zZ := hF03.get hxZ (fun e => by have e : _ = g := e; omega)
  have z0 := (cells_of4 zZ).1
  have z1 := (cells_of4 zZ).2.1
  have z2 := (cells_of4 zZ).2.2.1
  have z3 := (cells_of4 zZ).2.2.2
  have f0 := frozen_of' (j := 0) zZ
  have f1 := frozen_of' (j := 1) zZ
  have f2 := frozen_of' (j := 2) zZ
  have f3 := frozen_of' (j := 3) zZ
  refine wpTail_step rfl (by rfl) (fun K hK => ?_)
  go_simp
  refine hK.out _ _ ?_
  clear hK K
  try simp only [Act.put, List.setIfInBounds_toArray]
  refine wpTail_step rfl (by rfl) (fun K hK => ?_)
  go_simp
  refine hK.out _ _ ?_
  clear hK K
  try simp only [Act.put, List.setIfInBounds_toArray]
  refine wpTail_nil ?_
  have hW6 := set_four w3 (w.heap.size + 1 + 1) _ _ _ _ (.int .i64 s.size) (.int .i64 0) (.slice none 0 0) (.int .i64 0) _ zZ
  have hF6 := fr_four w3 (w.heap.size + 1 + 1) (.int .i64 s.size) (.int .i64 0) (.slice none 0 0) (.int .i64 0)
  generalize (((w3.setCell ⟨w.heap.size + 1 + 1, 0, none⟩ (.int .i64 s.size)).setCell ⟨w.heap.size + 1 + 1, 1, none⟩ (.int .i64 0)).setCell ⟨w.heap.size + 1 + 1, 2, none⟩ (.slice none 0 0)).setCell ⟨w.heap.size + 1 + 1, 3, none⟩ (.int .i64 0) = W6 at hW6 hF6 ⊢
  clear z0 z1 z2 z3 f0 f1 f2 f3 zZ
  obtain ⟨d0, d1, d2, d3⟩ := cells_of4 hW6
  go_wp2_with fail
  refine bodyPost_ret (by simp [results, Try.results23, go_sem, d0, d1, d2, d3]; try rfl) rfl ?_
  refine ⟨rfl, F, fun _ => False, hF, (hs2.below hb3).fr hF6 (fun k hk e => by have := hFw k hk; omega), Pays.nil _ _, fun k hk => hk.elim, bl_fr (bl_fr (bl_trans hB hB0) hF03 (fun k hk => by have hk : k = g := hk; subst hk; exact hF _ hsw.2.1)) hF6 (fun k hk => by omega), boxes_keep hX (((Fr.of_below hB0).trans hF03 (fun k h => .inl h)).trans hF6 (fun k h => .inr (by omega))) hFg (fun k h => .inl h) (fun k h => h.elim)⟩

end Go.Proofs.Ytgfcppjahebidaa
