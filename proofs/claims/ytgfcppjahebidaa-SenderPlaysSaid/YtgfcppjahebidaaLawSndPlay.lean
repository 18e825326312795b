/- portagelaw07.play, kind by kind: Again, and what is no call. Conditions: as they stand. -/
import Derived.WalkKit
import Derived.Lib.Hide
import Derived.BigQuiet
import Derived.Handy
import Derived.Test.YtgfcppjahebidaaSndDuo
namespace Go.Proofs.Ytgfcppjahebidaa
open Go.RowKit

set_option maxRecDepth 100000 in
set_option maxHeartbeats 1000000 in
theorem play_none (w0 : World) (g : Nat) (X : Nat → Obj → Prop) (s : Snd) (v : Value) (k n : Int) (po : Option Addr) (pn pc : Nat) (hk : k < 0 ∨ 4 < k) (w : World) (hD : Duo w0 g X s v w) :
    Calls Try.prog 23 #[.pointer (some ⟨g, 0, none⟩), refV s v, .agg #[.int .i64 k, .int .i64 n, .slice po pn pc]] w fun e w' => e = .returned (.tuple #[refV s v, .bool true]) ∧ Duo w0 g X s v w' := by
  obtain ⟨ao, cap, rfl⟩ : ∃ ao cap, v = .slice ao s.ps.length cap := by
    obtain ⟨F, R, _, _, hp, _⟩ := hD
    obtain ⟨ao, cap, h, _⟩ := hp.form
    exact ⟨ao, cap, h⟩
  have k0 : k ≠ 0 := by omega
  have k1 : k ≠ 1 := by omega
  have k2 : k ≠ 2 := by omega
  have k3 : k ≠ 3 := by omega
  have k4 : k ≠ 4 := by omega
  unfold refV
  clear hk
  go_enter Try.func23, Try.ntmps23
  go_wp2
  go_returns
  exact ⟨rfl, hD.below (bl_alloc (bl_alloc (bl_alloc (bl_refl w) _) _) _)⟩

set_option maxRecDepth 100000 in
set_option maxHeartbeats 1000000 in
theorem play_again (w0 : World) (g : Nat) (X : Nat → Obj → Prop) (s : Snd) (hok : s.Ok) (v : Value) (n : Int) (po : Option Addr) (pn pc : Nat) (w : World) (hD : Duo w0 g X s v w) :
    Calls Try.prog 23 #[.pointer (some ⟨g, 0, none⟩), refV s v, .agg #[.int .i64 3, .int .i64 n, .slice po pn pc]] w fun e w' => e = .returned (.tuple #[refV s v, .bool true]) ∧ Duo w0 g X s v w' := by
  obtain ⟨ao, cap, rfl⟩ : ∃ ao cap, v = .slice ao s.ps.length cap := by
    obtain ⟨F, R, _, _, hp, _⟩ := hD
    obtain ⟨ao, cap, h, _⟩ := hp.form
    exact ⟨ao, cap, h⟩
  obtain ⟨W0, hW0⟩ : ∃ W0, ((w.alloc (.cells #[.int .i64 s.size, .int .i64 s.base, .slice ao s.ps.length cap, .int .i64 s.under] 51)).alloc (.cells #[.int .i64 3, .int .i64 n, .slice po pn pc] 40)).alloc (.cells #[.int .i64 0, .int .i64 0, .slice none 0 0, .int .i64 0] 51) = W0 := ⟨_, rfl⟩
  have hB0 : Below w.heap.size w W0 := by rw [← hW0]; exact bl_alloc (bl_alloc (bl_alloc (bl_refl w) _) _) _
  have hxA : W0.heap[w.heap.size]? = some (.cells #[.int .i64 s.size, .int .i64 s.base, .slice ao s.ps.length cap, .int .i64 s.under] 51 (0, 0)) := by rw [← hW0]; exact kept_alloc (kept_alloc (heap_alloc_new w _) _) _
  have hxC : W0.heap[w.heap.size + 1]? = some (.cells #[.int .i64 3, .int .i64 n, .slice po pn pc] 40 (0, 0)) := by
    rw [← hW0]
    refine kept_alloc ?_ _
    have := heap_alloc_new (w.alloc (.cells #[.int .i64 s.size, .int .i64 s.base, .slice ao s.ps.length cap, .int .i64 s.under] 51)) (.cells #[.int .i64 3, .int .i64 n, .slice po pn pc] 40)
    simpa using this
  obtain ⟨a0, a1, a2, a3⟩ := cells_of4 hxA
  have e0 : W0.cell? ⟨w.heap.size + 1, 0, none⟩ = some (.int .i64 3) := by rw [cell_of_row _ _ _ _ _ _ hxC]; rfl
  have e1 : W0.cell? ⟨w.heap.size + 1, 1, none⟩ = some (.int .i64 n) := by rw [cell_of_row _ _ _ _ _ _ hxC]; rfl
  have hxZ : W0.heap[w.heap.size + 1 + 1]? = some (.cells #[.int .i64 0, .int .i64 0, .slice none 0 0, .int .i64 0] 51 (0, 0)) := by
    rw [← hW0]
    have := heap_alloc_new ((w.alloc (.cells #[.int .i64 s.size, .int .i64 s.base, .slice ao s.ps.length cap, .int .i64 s.under] 51)).alloc (.cells #[.int .i64 3, .int .i64 n, .slice po pn pc] 40)) (.cells #[.int .i64 0, .int .i64 0, .slice none 0 0, .int .i64 0] 51)
    simpa using this
  have hD3 := hD.below hB0
  obtain ⟨F, R, hF, hs, hp, hR, hB, _⟩ := hD3
  have hv := ragain_any R s hok (.slice ao s.ps.length cap) n _ hp
  unfold refV at hv ⊢
  go_enter Try.func23, Try.ntmps23
  go_wp2_with fail
  try simp only [hW0]
  refine hv.mono ?_
  rintro e w2 ⟨u, rfl, hu, hb2⟩
  have hs2 := hs.below hb2
  have xC := bl_get hb2 hxC
  have c1 : w2.cell? ⟨w.heap.size + 1, 1, none⟩ = some (.int .i64 n) := by rw [cell_of_row _ _ _ _ _ _ xC]; rfl
  go_wp2_with fail
  refine (sagain_any F g s hok n _ hs2).mono ?_
  rintro e w3 ⟨q, rfl, hq, hb3⟩
  have hb03 := bl_trans hb2 hb3
  have zZ := bl_get hb03 hxZ
  obtain ⟨b0, b1, b2, b3⟩ := cells_of4 (bl_get hb03 hxA)
  obtain ⟨z0, z1, z2, z3⟩ := cells_of4 zZ
  have f0 := frozen_of' (j := 0) zZ
  have f1 := frozen_of' (j := 1) zZ
  have f2 := frozen_of' (j := 2) zZ
  have f3 := frozen_of' (j := 3) zZ
  have v1 := conv_reads (hu.below hb3).1.1
  have v2 := conv_reads hq.1.1
  clear a0 a1 a2 a3 e0 e1 c1
  go_wp2_with fail
  have hW6 := set_four w3 (w.heap.size + 1 + 1) _ _ _ _ (.int .i64 s.size) (.int .i64 s.base) (.slice ao s.ps.length cap) (.int .i64 s.under) _ zZ
  have hF6 := fr_four w3 (w.heap.size + 1 + 1) (.int .i64 s.size) (.int .i64 s.base) (.slice ao s.ps.length cap) (.int .i64 s.under)
  generalize (((w3.setCell ⟨w.heap.size + 1 + 1, 0, none⟩ (.int .i64 s.size)).setCell ⟨w.heap.size + 1 + 1, 1, none⟩ (.int .i64 s.base)).setCell ⟨w.heap.size + 1 + 1, 2, none⟩ (.slice ao s.ps.length cap)).setCell ⟨w.heap.size + 1 + 1, 3, none⟩ (.int .i64 s.under) = W6 at hW6 hF6 ⊢
  have hBf : Below w.heap.size w W6 := bl_fr (bl_trans hB0 hb03) hF6 (fun k hk => by omega)
  clear b0 b1 b2 b3 z0 z1 z2 z3 f0 f1 f2 f3 v1 v2 zZ
  obtain ⟨d0, d1, d2, d3⟩ := cells_of4 hW6
  refine bodyPost_ret (by simp [results, Try.results23, go_sem, d0, d1, d2, d3]; try rfl) rfl ?_
  exact ⟨rfl, hD.below hBf⟩

end Go.Proofs.Ytgfcppjahebidaa
