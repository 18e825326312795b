/- portagelaw07.play at an acknowledgement. Conditions: as they stand. -/
import Derived.WalkKit
import Derived.Lib.Hide
import Derived.BigQuiet
import Derived.Handy
import Derived.Test.YtgfcppjahebidaaLawSndPlay
namespace Go.Proofs.Ytgfcppjahebidaa
open Go.RowKit

set_option maxRecDepth 100000 in
set_option maxHeartbeats 1000000 in
theorem play_ack (w0 : World) (g : Nat) (X : Nat → Obj → Prop) (s : Snd) (hok : s.Ok) (v : Value) (n : Int) (po : Option Addr) (pn pc : Nat) (w : World) (hD : Duo w0 g X s v w) :
    Calls Try.prog 23 #[.pointer (some ⟨g, 0, none⟩), refV s v, .agg #[.int .i64 2, .int .i64 n, .slice po pn pc]] w fun e w' => ∃ v', e = .returned (.tuple #[refV (s.ack n) v', .bool true]) ∧ Duo w0 g X (s.ack n) v' w' := by
  obtain ⟨ao, cap, rfl⟩ : ∃ ao cap, v = .slice ao s.ps.length cap := by
    obtain ⟨F, R, _, _, hp, _⟩ := hD
    obtain ⟨ao, cap, h, _⟩ := hp.form
    exact ⟨ao, cap, h⟩
  obtain ⟨W0, hW0⟩ : ∃ W0, ((w.alloc (.cells #[.int .i64 s.size, .int .i64 s.base, .slice ao s.ps.length cap, .int .i64 s.under] 51)).alloc (.cells #[.int .i64 2, .int .i64 n, .slice po pn pc] 40)).alloc (.cells #[.int .i64 0, .int .i64 0, .slice none 0 0, .int .i64 0] 51) = W0 := ⟨_, rfl⟩
  have hB0 : Below w.heap.size w W0 := by rw [← hW0]; exact bl_alloc (bl_alloc (bl_alloc (bl_refl w) _) _) _
  have hxA : W0.heap[w.heap.size]? = some (.cells #[.int .i64 s.size, .int .i64 s.base, .slice ao s.ps.length cap, .int .i64 s.under] 51 (0, 0)) := by rw [← hW0]; exact kept_alloc (kept_alloc (heap_alloc_new w _) _) _
  have hxC : W0.heap[w.heap.size + 1]? = some (.cells #[.int .i64 2, .int .i64 n, .slice po pn pc] 40 (0, 0)) := by
    rw [← hW0]
    refine kept_alloc ?_ _
    have := heap_alloc_new (w.alloc (.cells #[.int .i64 s.size, .int .i64 s.base, .slice ao s.ps.length cap, .int .i64 s.under] 51)) (.cells #[.int .i64 2, .int .i64 n, .slice po pn pc] 40)
    simpa using this
  obtain ⟨a0, a1, a2, a3⟩ := cells_of4 hxA
  have e0 : W0.cell? ⟨w.heap.size + 1, 0, none⟩ = some (.int .i64 2) := by rw [cell_of_row _ _ _ _ _ _ hxC]; rfl
  have e1 : W0.cell? ⟨w.heap.size + 1, 1, none⟩ = some (.int .i64 n) := by rw [cell_of_row _ _ _ _ _ _ hxC]; rfl
  have hxZ : W0.heap[w.heap.size + 1 + 1]? = some (.cells #[.int .i64 0, .int .i64 0, .slice none 0 0, .int .i64 0] 51 (0, 0)) := by
    rw [← hW0]
    have := heap_alloc_new ((w.alloc (.cells #[.int .i64 s.size, .int .i64 s.base, .slice ao s.ps.length cap, .int .i64 s.under] 51)).alloc (.cells #[.int .i64 2, .int .i64 n, .slice po pn pc] 40)) (.cells #[.int .i64 0, .int .i64 0, .slice none 0 0, .int .i64 0] 51)
    simpa using this
  obtain ⟨F, R, hF, hsw, hpw, hR, hB, hX⟩ := hD
  have hFg := hsw.2.1
  have hs := hsw.below hB0
  have hp := hpw.below hB0
  have hFw := hsw.1
  have hv := rack_any R s hok (.slice ao s.ps.length cap) n _ hp
  unfold refV at hv ⊢
  go_enter Try.func23, Try.ntmps23
  go_wp2_with fail
  try simp only [hW0]
  refine hv.mono ?_
  rintro e w2 ⟨u, rfl, hu, hb2⟩
  obtain ⟨uo, uc, rfl, _⟩ := hu.form
  have xC := bl_get hb2 hxC
  have c1 : w2.cell? ⟨w.heap.size + 1, 1, none⟩ = some (.int .i64 n) := by rw [cell_of_row _ _ _ _ _ _ xC]; rfl
  have c1' := fun cs : Array Value => below_cell (bl_alloc (bl_refl w2) (.cells cs 51)) c1
  go_wp2_with fail
  refine (sack_any F g s hok n _ ((hs.below hb2).below (bl_alloc (bl_refl w2) _))).mono ?_
  rintro e w3 ⟨rfl, hs3, hF3⟩
  have hw2 := hb2.size
  have hw0 := lt_of_get hxZ
  have hbox := hF3.get (heap_alloc_new w2 (.cells #[.int .i64 (s.ack n).size, .int .i64 (s.ack n).base, .slice uo (s.ack n).ps.length uc, .int .i64 (s.ack n).under] 51)) (fun h => by have := hFw _ h; omega)
  have zZ := hF3.get (kept_alloc (bl_get hb2 hxZ) (.cells #[.int .i64 (s.ack n).size, .int .i64 (s.ack n).base, .slice uo (s.ack n).ps.length uc, .int .i64 (s.ack n).under] 51)) (fun h => by have := hFw _ h; omega)
  obtain ⟨b0, b1, b2, b3⟩ := cells_of4 hbox
  obtain ⟨z0, z1, z2, z3⟩ := cells_of4 zZ
  have f0 := frozen_of' (j := 0) zZ
  have f1 := frozen_of' (j := 1) zZ
  have f2 := frozen_of' (j := 2) zZ
  have f3 := frozen_of' (j := 3) zZ
  clear a0 a1 a2 a3 e0 e1 c1 c1'
  go_wp2_with fail
  have hW6 := set_four w3 (w.heap.size + 1 + 1) _ _ _ _ (.int .i64 (s.ack n).size) (.int .i64 (s.ack n).base) (.slice uo (s.ack n).ps.length uc) (.int .i64 (s.ack n).under) _ zZ
  have hF6 := fr_four w3 (w.heap.size + 1 + 1) (.int .i64 (s.ack n).size) (.int .i64 (s.ack n).base) (.slice uo (s.ack n).ps.length uc) (.int .i64 (s.ack n).under)
  generalize (((w3.setCell ⟨w.heap.size + 1 + 1, 0, none⟩ (.int .i64 (s.ack n).size)).setCell ⟨w.heap.size + 1 + 1, 1, none⟩ (.int .i64 (s.ack n).base)).setCell ⟨w.heap.size + 1 + 1, 2, none⟩ (.slice uo (s.ack n).ps.length uc)).setCell ⟨w.heap.size + 1 + 1, 3, none⟩ (.int .i64 (s.ack n).under) = W6 at hW6 hF6 ⊢
  clear b0 b1 b2 b3 z0 z1 z2 z3 f0 f1 f2 f3 zZ hbox
  obtain ⟨d0, d1, d2, d3⟩ := cells_of4 hW6
  have hlt6 := lt_of_get hW6
  have hBw := hB.size
  refine bodyPost_ret (by simp [results, Try.results23, go_sem, d0, d1, d2, d3]; try rfl) rfl ?_
  exact ⟨_, rfl, F, R, hF, hs3.fr hF6 (fun k hk e => by have := hFw k hk; omega), ((hu.below (bl_alloc (bl_refl w2) _)).fr hF3 (fun k hk => (hR k hk).2)).fr hF6 (fun k hk e => by have := (hR k hk).1; omega), fun k hk => ⟨by have := (hR k hk).1; omega, (hR k hk).2⟩,
    bl_fr (bl_fr (bl_alloc (bl_trans (bl_trans hB hB0) hb2) _) hF3 hF) hF6 (fun k hk => by omega), boxes_keepF hX (((Fr.of_below (bl_alloc (bl_trans hB0 hb2) _)).trans hF3 (fun k h => .inl h)).trans hF6 (fun k h => .inr (by omega))) (fun k h => .inl h) (fun k h => .inl h)⟩

end Go.Proofs.Ytgfcppjahebidaa
