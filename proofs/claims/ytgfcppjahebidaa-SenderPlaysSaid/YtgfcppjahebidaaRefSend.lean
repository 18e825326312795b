/- The reference's sender: Send. Conditions: as they stand. -/
import Derived.WalkKit
import Derived.Lib.Hide
import Derived.BigQuiet
import Derived.Handy
import Derived.IntWalk
import Derived.Test.YtgfcppjahebidaaRefSnd
import Derived.Test.YtgfcppjahebidaaSndSend
import Derived.Test.YtgfcppjahebidaaOrd2
namespace Go.Proofs.Ytgfcppjahebidaa
open Go.RowKit

set_option maxRecDepth 100000 in
set_option maxHeartbeats 1000000 in
theorem rsend_any (R : Nat → Prop) (s : Snd) (hok : s.Ok) (v : Value) (w : World) (hP : Pays R w v s.ps) :
    Calls Try.prog 32 #[refV s v] w fun e w' => ∃ u, e = .returned (.tuple #[refV s.send v, .int .i64 s.sendN, u, .bool s.can]) ∧ Byt R w' u s.sendP ∧ Below w.heap.size w w' := by
  obtain ⟨ao, cap, rfl, hc, _⟩ := hP.form
  cases hcan : s.can with
  | false =>
    have hn : s.sendN = 0 := by unfold Snd.sendN; rw [hcan]; rfl
    have hp : s.sendP = [] := by unfold Snd.sendP; rw [hcan]; rfl
    have hs : s.send = s := by unfold Snd.send; rw [hcan]; rfl
    rw [hn, hp, hs]
    have hor : (s.ps.length : Int) ≤ (s.under : Int) ∨ (s.under : Int) < (s.ps.length : Int) ∧ (s.size : Int) ≤ (s.under : Int) := by
      simp [Snd.can] at hcan
      omega
    clear hn hp hs hcan
    unfold refV
    rcases hor with h | ⟨h, h'⟩
    · go_enter Try.func32, Try.ntmps32
      go_wp2
      go_returns
      exact ⟨_, rfl, byt_nil _ _, by first | exact bl_alloc (bl_alloc (bl_refl w) _) _ | exact bl_drew (bl_alloc (bl_alloc (bl_refl w) _) _)⟩
    · go_enter Try.func32, Try.ntmps32
      go_wp2
      go_returns
      exact ⟨_, rfl, byt_nil _ _, by first | exact bl_alloc (bl_alloc (bl_refl w) _) _ | exact bl_drew (bl_alloc (bl_alloc (bl_refl w) _) _)⟩
  | true =>
    have hlt : s.under < s.ps.length ∧ s.under < s.size := by simpa [Snd.can] using hcan
    obtain ⟨q, hq⟩ := get_some hlt.1
    have hn : s.sendN = (s.base + s.under) % 128 := by unfold Snd.sendN; rw [if_pos hcan]
    have hp : s.sendP = q := by unfold Snd.sendP; rw [if_pos hcan, List.getD_eq_getElem?_getD, hq]; rfl
    have hs : s.send = { s with under := s.under + 1 } := by unfold Snd.send; rw [if_pos hcan]
    rw [hn, hp, hs]
    obtain ⟨b, o, x, rfl, hb, hcell, hx⟩ := hP.at_ hq
    have hcell := below_cell (bl_alloc (bl_refl w) (.cells #[.int .i64 s.size, .int .i64 s.base, .slice (some ⟨b, o, none⟩) s.ps.length cap, .int .i64 s.under] 51)) hcell
    have hcell := fun cs : Array Value => below_cell (bl_alloc (bl_refl _) (.cells cs 51)) hcell
    obtain ⟨xo, xc, rfl⟩ : ∃ xo xc, x = .slice xo q.length xc := by
      obtain ⟨⟨⟨_, xo, xc, h, _⟩, _⟩, _⟩ := hx
      exact ⟨xo, xc, h⟩
    have i1 : (s.under : Int) < (s.ps.length : Int) := by omega
    have i2 : (s.under : Int) < (s.size : Int) := by omega
    have hbs := hok.base
    have hsz := hok.size2
    have hN : ((s.base : Int) + (s.under : Int)) % 128 = (((s.base + s.under) % 128 : Nat) : Int) := by omega
    generalize (s.base + s.under) % 128 = N at hN ⊢
    have HS : ∀ cs : Array Value, (fun w' : World => w'.cell? ⟨w.heap.size, 0, none⟩ = some (.int .i64 s.size) ∧ w'.cell? ⟨w.heap.size, 1, none⟩ = some (.int .i64 s.base) ∧ w'.cell? ⟨w.heap.size, 2, none⟩ = some (.slice (some ⟨b, o, none⟩) s.ps.length cap) ∧ w'.cell? ⟨w.heap.size, 3, none⟩ = some (.int .i64 s.under) ∧ w'.cell? ⟨b, o + s.under, none⟩ = some (.slice xo q.length xc)) ((w.alloc (.cells #[.int .i64 s.size, .int .i64 s.base, .slice (some ⟨b, o, none⟩) s.ps.length cap, .int .i64 s.under] 51)).alloc (.cells cs 51)) := fun cs => by
      obtain ⟨c0, c1, c2, c3⟩ := cells_of4 (kept_alloc (heap_alloc_new w (.cells #[.int .i64 s.size, .int .i64 s.base, .slice (some ⟨b, o, none⟩) s.ps.length cap, .int .i64 s.under] 51)) (.cells cs 51))
      exact ⟨c0, c1, c2, c3, hcell cs⟩
    unfold refV
    clear hn hp hs hcan hlt hq
    go_enter Try.func32, Try.ntmps32
    go_wp2_with fail
    refine wp_region_order (fun w' => w'.cell? ⟨w.heap.size, 0, none⟩ = some (.int .i64 s.size) ∧ w'.cell? ⟨w.heap.size, 1, none⟩ = some (.int .i64 s.base) ∧ w'.cell? ⟨w.heap.size, 2, none⟩ = some (.slice (some ⟨b, o, none⟩) s.ps.length cap) ∧ w'.cell? ⟨w.heap.size, 3, none⟩ = some (.int .i64 s.under) ∧ w'.cell? ⟨b, o + s.under, none⟩ = some (.slice xo q.length xc))
      [(0, 0), (1, 1), (2, 0), (3, 1), (4, 0), (5, 1), (6, 0), (7, 1), (8, 0), (9, 0), (10, 0), (11, 1), (12, 0), (13, 1), (14, 0), (16, 0), (17, 1), (18, 0), (19, 1), (20, 1), (21, 1), (15, 2), (22, 2), (23, 0), (24, 0)] [(25, false)] [25] []
      (by kernel_rfl) (fun _ _ d _ _ h => by cases d <;> exact h) (by decide +kernel) (HS _) ?_
    refine wpHead_free (v := ?_) rfl (by rfl) ?_ ?_
    rotate_left
    focus (intro w1; go_simp; try with_reducible rfl)
    simp only [Act.put, List.setIfInBounds_toArray]
    refine wpHead_take (v := ?_) rfl (by rfl) ?_ ?_
    rotate_left
    focus (rintro w1 ⟨q0, q1, q2, q3, q4⟩; go_simp; try with_reducible rfl)
    simp only [Act.put]
    refine wpHead_free (v := ?_) rfl (by rfl) ?_ ?_
    rotate_left
    focus (intro w1; go_simp; try with_reducible rfl)
    simp only [Act.put]
    refine wpHead_take (v := ?_) rfl (by rfl) ?_ ?_
    rotate_left
    focus (rintro w1 ⟨q0, q1, q2, q3, q4⟩; go_simp; try with_reducible rfl)
    simp only [Act.put]
    refine wpHead_free (v := ?_) rfl (by rfl) ?_ ?_
    rotate_left
    focus (intro w1; go_simp; try with_reducible rfl)
    simp only [Act.put]
    refine wpHead_take (v := ?_) rfl (by rfl) ?_ ?_
    rotate_left
    focus (rintro w1 ⟨q0, q1, q2, q3, q4⟩; go_simp; try with_reducible rfl)
    simp only [Act.put]
    refine wpHead_free (v := ?_) rfl (by rfl) ?_ ?_
    rotate_left
    focus (intro w1; go_simp; try with_reducible rfl)
    simp only [Act.put]
    refine wpHead_take (v := ?_) rfl (by rfl) ?_ ?_
    rotate_left
    focus (rintro w1 ⟨q0, q1, q2, q3, q4⟩; go_simp; try with_reducible rfl)
    simp only [Act.put]
    refine wpHead_free (v := ?_) rfl (by rfl) ?_ ?_
    rotate_left
    focus (intro w1; go_simp; try with_reducible rfl)
    simp only [Act.put]
    refine wpHead_free (v := ?_) rfl (by rfl) ?_ ?_
    rotate_left
    focus (intro w1; go_simp; try with_reducible rfl)
    simp only [Act.put]
    refine wpHead_free (v := ?_) rfl (by rfl) ?_ ?_
    rotate_left
    focus (intro w1; go_simp; try with_reducible rfl)
    simp only [Act.put]
    refine wpHead_take (v := ?_) rfl (by rfl) ?_ ?_
    rotate_left
    focus (rintro w1 ⟨q0, q1, q2, q3, q4⟩; go_simp; try with_reducible rfl)
    simp only [Act.put]
    refine wpHead_free (v := ?_) rfl (by rfl) ?_ ?_
    rotate_left
    focus (intro w1; go_simp; try with_reducible rfl)
    simp only [Act.put]
    refine wpHead_take (v := ?_) rfl (by rfl) ?_ ?_
    rotate_left
    focus (rintro w1 ⟨q0, q1, q2, q3, q4⟩; go_simp; try with_reducible rfl)
    simp only [Act.put]
    refine wpHead_free (v := ?_) rfl (by rfl) ?_ ?_
    rotate_left
    focus (intro w1; go_simp; try with_reducible rfl)
    simp only [Act.put]
    refine wpHead_free (v := ?_) rfl (by rfl) ?_ ?_
    rotate_left
    focus (intro w1; go_simp; try with_reducible rfl)
    simp only [Act.put]
    refine wpHead_take (v := ?_) rfl (by rfl) ?_ ?_
    rotate_left
    focus (rintro w1 ⟨q0, q1, q2, q3, q4⟩; go_simp; try with_reducible rfl)
    simp only [Act.put]
    refine wpHead_free (v := ?_) rfl (by rfl) ?_ ?_
    rotate_left
    focus (intro w1; go_simp; try with_reducible rfl)
    simp only [Act.put]
    refine wpHead_take (v := ?_) rfl (by rfl) ?_ ?_
    rotate_left
    focus (rintro w1 ⟨q0, q1, q2, q3, q4⟩; go_simp; try with_reducible rfl)
    simp only [Act.put]
    refine wpHead_take (v := ?_) rfl (by rfl) ?_ ?_
    rotate_left
    focus (rintro w1 ⟨q0, q1, q2, q3, q4⟩; go_simp; try with_reducible rfl)
    simp only [Act.put]
    refine wpHead_take (v := ?_) rfl (by rfl) ?_ ?_
    rotate_left
    focus (rintro w1 ⟨q0, q1, q2, q3, q4⟩; go_simp; try with_reducible rfl)
    simp only [Act.put]
    refine wpHead_step rfl (by rfl) (fun K hK => ?_)
    go_simp; go_at_call 30; refine (rreduce_any _ _).mono ?_; rintro e w' ⟨rfl, rfl⟩; simp only []
    refine hK.out _ _ (HS _) ?_
    clear hK K
    try simp only [Act.put, List.setIfInBounds_toArray]
    refine wpHead_step rfl (by rfl) (fun K hK => ?_)
    go_simp
    refine hK.out _ _ (HS _) ?_
    clear hK K
    try simp only [Act.put, List.setIfInBounds_toArray]
    iterate 2
      refine wpHead_free (v := ?_) rfl (by rfl) ?_ ?_
      rotate_left
      focus (intro w1; go_simp; try with_reducible rfl)
      simp only [Act.put]
    refine wpHead_nil ?_
    refine wpTail_step rfl (by rfl) (fun K hK => ?_)
    go_simp
    refine hK.out _ _ ?_
    clear hK K
    try simp only [Act.put, List.setIfInBounds_toArray]
    refine wpTail_nil ?_
    -- behind the region
    go_wp2
    go_returns
    have w1 : IntKind.i64.wrap ((s.base : Int) + (s.under : Int)) = (s.base : Int) + (s.under : Int) := IntWalk.i64_in _ (by omega)
    have w2 : IntKind.i64.wrap ((s.under : Int) + 1) = ((s.under + 1 : Nat) : Int) := (IntWalk.i64_in _ (by omega)).trans (by omega)
    try rw [w1, hN]
    try rw [w2]
    refine ⟨_, rfl, hx.below ?_, ?_⟩ <;> first | exact bl_alloc (bl_alloc (bl_refl w) _) _ | exact bl_drew (bl_alloc (bl_alloc (bl_refl w) _) _)

end Go.Proofs.Ytgfcppjahebidaa
