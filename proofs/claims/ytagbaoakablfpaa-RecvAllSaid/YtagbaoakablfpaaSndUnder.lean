/- The contract of sender.Under. Conditions: as they stand. -/
import Derived.RangeFuncNested
import Derived.RangeFuncBound
import Derived.RangeFuncCalls
import Derived.RangeFuncLeaves
import Derived.Shelf.Abstract
import Derived.Shelf.RegionOpen
import Derived.WalkKit
import Derived.OwnWalkIn
import Derived.TacticsInMore
import Derived.LoopNIn
import Derived.LoopIn
import Derived.Maps.AppendAt
import Derived.Lib.Hide
import Derived.Stop.RegionWithIn
import Derived.Deep.RegionHeld3
import Derived.Test.YtagbaoakablfpaaWinRefL
import Derived.Test.YtagbaoakablfpaaBox
import Derived.Test.YtagbaoakablfpaaSndPush2
namespace Go.Proofs.Ytagbaoakablfpaa
open Go.RowKit Go.Shelf
attribute [local go_sem] Oper.semAt_some

set_option maxRecDepth 100000 in
set_option maxHeartbeats 1000000 in
theorem under_cells (a size base under : Nat) (av : Value) (w : World) (hb : w.heap[a]? = some (.cells #[.int .i64 size, .int .i64 base, av, .int .i64 under] 73 (0, 0))) (hu : under ≤ 63) :
    Calls Try.prog 20 #[.pointer (some ⟨a, 0, none⟩)] w fun e w' => ∃ u, e = .returned u ∧
      w'.ownsRow w.heap.size 3 1 u (vals (win base under)).length ((vals (win base under)).map (Value.int .i64)) ∧ Below w.heap.size w w' := by
  obtain ⟨i0, hi, hz0, hz1, hz2⟩ := info_parts infoInt
  obtain ⟨c0, c1, c2, c3⟩ := cells_of4 hb
  refine (callsIn_wide (n := 9)).1 ?_
  refine callsIn_of_wp_marks Try.func20 rfl trivial ?_ rfl
  simp only [Try.ntmps20, List.size_toArray, List.length_cons, List.length_nil, Nat.reduceAdd, Nat.reduceSub, Array.replicate_succ, Array.replicate_zero, List.push_toArray, List.append_toArray, List.nil_append, List.cons_append]
  gi_wp2_with fail
  have c1 : ∀ o' : Obj, (w.alloc o').cell? ⟨a, 1, none⟩ = some (.int .i64 base) := fun o' => below_cell (bl_alloc (bl_refl w) o') c1
  have c3 : ∀ o' : Obj, (w.alloc o').cell? ⟨a, 3, none⟩ = some (.int .i64 under) := fun o' => below_cell (bl_alloc (bl_refl w) o') c3
  refine Code.wpIn_mono NoPanic.imp ?_
  gi_region_with (refine ⟨trivial, ?_⟩; gi_at_call 34; refine (callsIn_wide.2 (each_in _ _ _)).mono ?_; rintro e w' ⟨rfl, rfl⟩)
  all_goals
    refine NoPanic.normal ?_
    gi_wp2_with fail
    obtain ⟨W0, hW0⟩ : ∃ W0, (((w.alloc (.cells #[.slice none 0 0] 28)).alloc (.cells #[.int .i64 base] 3)).alloc (.cells #[.int .i64 under] 3)).drew = W0 := ⟨_, rfl⟩
    have bO : Boxed W0 w.heap.size 28 (.slice none 0 0) := by
      subst hW0; exact ((Boxed.new w 28 (.slice none 0 0)).alloc _).alloc _
    have bB : Boxed W0 (w.heap.size + 1) 3 (.int .i64 base) := by
      subst hW0; have := Boxed.new (w.alloc (.cells #[.slice none 0 0] 28)) 3 (.int .i64 base); rw [World.size_alloc] at this; exact this.alloc _
    have bS : Boxed W0 (w.heap.size + 2) 3 (.int .i64 under) := by
      subst hW0; have := Boxed.new ((w.alloc (.cells #[.slice none 0 0] 28)).alloc (.cells #[.int .i64 base] 3)) 3 (.int .i64 under); rw [World.size_alloc, World.size_alloc] at this; exact this
    have hsz : W0.heap.size = w.heap.size + 3 := by subst hW0; show ((((w.alloc _).alloc _).alloc _).heap.size) = _; simp
    have hB0 : Below w.heap.size w W0 := by subst hW0; exact bl_drew (bl_alloc (bl_alloc (bl_alloc (bl_refl w) _) _) _)
    rw [hW0]
    clear hW0 c0 c1 c2 c3 hb
    refine wpIn_rangeFunc_ownG rfl (by decide) (gf := 39) (lb := #[.pointer (some ⟨w.heap.size + 1 + 1, 0, none⟩), .pointer (some ⟨w.heap.size + 1, 0, none⟩)]) rfl trivial (enters_of Try.func39 (by kernel_rfl) rfl)
      (each_stops 8 (by decide) (w.heap.size + 1) (w.heap.size + 2) base under W0 bB.cell bS.cell) KeepB.trans (keepB_put (by omega)) (Below.refl _ _) (fun _ => rfl)
      (fun pre W => (∃ u, Boxed W w.heap.size 28 u ∧ W.ownsRow W0.heap.size 3 1 u (vals pre).length ((vals pre).map (Value.int .i64)) ∧ True) ∧ Below w.heap.size w W ∧ W0.heap.size ≤ W.heap.size)
      (fun _ _ _ => False)
      (OwnFrom.and (Own.from (holdsRow_own W0.heap.size w.heap.size 28 3 1 (fun pre => (vals pre).length) (fun pre => (vals pre).map (Value.int .i64)) (fun _ _ => True)) _)
        (OwnFrom.and (ownFrom_below (Nat.le_refl _) (by omega)) (fun _ _ _ _ hs hg _ => Nat.le_trans hs hg.size)))
      (fun _ _ _ _ _ hs _ _ => hs)
      ⟨⟨_, bO, World.ownsRow_nil _ _ _ _, trivial⟩, hB0, Nat.le_refl _⟩
      (fun x => { tmps := #[Value.pointer (some { block := a, off := 0 }), undef, Value.slice none 0 0,
            Value.pointer (some { block := w.heap.size, off := 0 }), .int .i64 x.1, Value.pointer (some { block := a, off := 0 }),
            Value.bool false, Value.pointer (some { block := a, off := 0 }),
            Value.pointer (some { block := a, off := 0 }), Value.pointer (some { block := a, off := 1 }),
            Value.int IntKind.i64 base, Value.pointer (some { block := a, off := 0 }),
            Value.pointer (some { block := a, off := 0 }), Value.pointer (some { block := a, off := 3 }),
            Value.int IntKind.i64 under,
            Value.func (Fn.func 39) #[]
              #[Value.pointer (some { block := w.heap.size + 1 + 1, off := 0 }),
                Value.pointer (some { block := w.heap.size + 1, off := 0 })],
            .int .i64 x.1, undef, undef, undef, undef, undef], defers := [] }) ?assign ?body ?done ?stop
    case assign =>
      intro r x W K hK
      gi_wp2
      exact hK
    case body =>
      rintro r pre x W ⟨⟨u, hv, hrow, _⟩, hB, hz⟩ hlt
      have hc := hv.cell
      have hpl : (vals pre).length ≤ 128 := by
        have h1 : pre.length < winLen under := hlt
        have h2 := winLen_le (under : Int)
        simp [vals]; omega
      gi_wp2_with (gi_at_builtin; refine wpListIn_append_own _ rfl _ _ 28 rfl W0.heap.size 3 i0 (.int .i64 0) 1 8 Try.underlying28 hi hz0 hz1 hz2 rfl (by decide) _ _ _ rfl (hrow.alloc _) ⟨W.heap.size, 0, none⟩ 1 1 [.int .i64 x.1] rfl rfl (cell_one_new _ _ _) (by simp [Value.oneCell']) (by unfold maxLen; omega) (by omega) (by simp; omega) ?_; intro v' w2 hown' hgrow _; obtain ⟨g', cap', rfl⟩ := ownsRow_succ hown'; obtain ⟨hv1, hv2, hr2, hk2, hb2, hkk⟩ := boxed_app (n₀ := w.heap.size) hv (by decide) hrow (by omega) (by omega) hown' hgrow; have hc1 := hv1.cell; have hf1 := hv1.frozen)
      exact ⟨hk2.from _, hkk _ (by omega) (by omega) (by omega), ⟨_, hv2, by simpa [vals] using hr2, trivial⟩, hB.trans hb2, Nat.le_trans hz hk2.size⟩
    case done =>
      rintro D ys W hD hys ⟨⟨u, hv, hrow, _⟩, hB, hz⟩ hK
      subst hys
      have hc := hv.cell
      have hwl : winLen under = under := by unfold winLen; omega
      rw [hwl] at hrow
      gi_wp2
      refine ⟨by simp, .inl ⟨_, _, rfl, run_takeDeferred hK, ?_⟩⟩
      exact ⟨_, results_tmp rfl _ _ _, u, rfl, ownsRow_mono (ownsRow_putObj hrow _ hK rfl) (by omega), hB.trans (belowK_b (w := w) (Nat.le_refl _) W D _ _ (by omega) hK rfl rfl)⟩
    case stop =>
      rintro D c pre W _ _ h _
      exact h.elim

/-- The numbers under way. -/
def Snd.unders (s : Snd) : List Int := vals (win s.base s.under)
theorem sunder_any (F : Nat → Prop) (a : Nat) (s : Snd) (hok : s.Ok) (w : World) (hs : SndAt F w a s) :
    Calls Try.prog 20 #[.pointer (some ⟨a, 0, none⟩)] w fun e w' => ∃ u, e = .returned u ∧ Rd (fun k => w.heap.size ≤ k) (Value.int .i64) w' u s.unders ∧ Below w.heap.size w w' := by
  obtain ⟨h1, h2, av, vs, D, hb, hA, hl, hav, hD, hp⟩ := hs
  have hu : s.under ≤ 63 := Nat.le_trans hok.under2 hok.size2
  refine (under_cells a s.size s.base s.under av w hb hu).mono ?_
  rintro e w' ⟨u, rfl, hO, hB⟩
  exact ⟨u, rfl, (Rd.of_owns hO (by simp [vals, win_length, maxLen]; omega)).mono (fun k hk => hk.1), hB⟩

end Go.Proofs.Ytagbaoakablfpaa
