/- record.First at a whole record: the walk. Conditions: as they stand. -/
import Derived.Test.YtaembdlidaogdaaRecFst1
import Derived.Laws.AppendOwnNone
namespace Go.Proofs.Ytaembdlidaogdaa
open Go.RowKit

set_option maxRecDepth 100000 in
set_option maxHeartbeats 400000 in
theorem first_off (ao qo : Option Addr) (n cap L S T c1 : Nat) (w : World) (h0 : ((L : Int) == 0) = false) (h1 : ¬ (65536 : Int) < (L : Int)) (c8 : IntKind.u64.wrap (wrap64 ((n : Int) - 8)) = ((n - 8 : Nat) : Int)) (h2 : ¬ ((n - 8 : Nat) : Int) < (L : Int))
    (hcu : IntKind.i64.wrap (L : Int) = (L : Int)) (hcw : wrap64 (8 + (L : Int)) = 8 + (L : Int)) (csum : IntKind.u64.wrap (T : Int) = (T : Int)) (hT : ((T : Int) != (S : Int)) = true)
    (hcut : ∀ W, (Instr.sliceAt 22 (.slice ao n cap) (some (.int .i64 8)) (some (.int .i64 (8 + (L : Int)))) none).run Try.prog W = .ok (.slice qo L c1) W)
    (hfr : ∀ W, (Instr.sliceAt 22 (.slice ao n cap) none (some (.int .i64 4)) none).run Try.prog W = .ok (.slice ao 4 cap) W)
    (hg1 : Calls Try.prog 23 #[.slice ao n cap, .int .i64 0, .int .i64 4] w fun e w' => e = .returned (.tuple #[.int .u64 L, .int .i64 0]) ∧ w = w')
    (hg2 : Calls Try.prog 23 #[.slice ao n cap, .int .i64 4, .int .i64 4] w fun e w' => e = .returned (.tuple #[.int .u64 S, .int .i64 0]) ∧ w = w')
    (hsum : Calls Try.prog 20 #[.slice (some ⟨w.heap.size, 0, none⟩) 2 2] (w.alloc (.cells #[.slice ao 4 cap, .slice qo L c1] 22)) fun e w' => e = .returned (.int .u32 T) ∧ w.alloc (.cells #[.slice ao 4 cap, .slice qo L c1] 22) = w') :
    Calls Try.prog 12 #[.slice ao n cap] w (NoneR (w.alloc (.cells #[.slice ao 4 cap, .slice qo L c1] 22))) := by
  have hg1 := Lib.hid hg1
  have hg2 := Lib.hid hg2
  have hsum := Lib.hid hsum
  go_enter Try.func12, Try.ntmps12
  go_wp2_with fail
  refine hg1.out.mono ?_
  rintro e w' ⟨rfl, rfl⟩
  go_wp2_with fail
  refine hg2.out.mono ?_
  rintro e w' ⟨rfl, rfl⟩
  go_wp2_with fail
  refine hsum.out.mono ?_
  rintro e w' ⟨rfl, rfl⟩
  go_wp2
  go_ret2
  exact ⟨rfl, rfl⟩
set_option maxRecDepth 100000 in
set_option maxHeartbeats 400000 in
theorem first_on (ao qo : Option Addr) (n cap L S T c1 : Nat) (w : World) (p : List Int) (hpl : p.length = L) (h0 : ((L : Int) == 0) = false) (h1 : ¬ (65536 : Int) < (L : Int)) (c8 : IntKind.u64.wrap (wrap64 ((n : Int) - 8)) = ((n - 8 : Nat) : Int)) (h2 : ¬ ((n - 8 : Nat) : Int) < (L : Int))
    (hcu : IntKind.i64.wrap (L : Int) = (L : Int)) (hcw : wrap64 (8 + (L : Int)) = 8 + (L : Int)) (csum : IntKind.u64.wrap (T : Int) = (T : Int)) (hT : ((T : Int) != (S : Int)) = false)
    (hcut : ∀ W, (Instr.sliceAt 22 (.slice ao n cap) (some (.int .i64 8)) (some (.int .i64 (8 + (L : Int)))) none).run Try.prog W = .ok (.slice qo L c1) W)
    (hfr : ∀ W, (Instr.sliceAt 22 (.slice ao n cap) none (some (.int .i64 4)) none).run Try.prog W = .ok (.slice ao 4 cap) W)
    (hg1 : Calls Try.prog 23 #[.slice ao n cap, .int .i64 0, .int .i64 4] w fun e w' => e = .returned (.tuple #[.int .u64 L, .int .i64 0]) ∧ w = w')
    (hg2 : Calls Try.prog 23 #[.slice ao n cap, .int .i64 4, .int .i64 4] w fun e w' => e = .returned (.tuple #[.int .u64 S, .int .i64 0]) ∧ w = w')
    (HR : Reads (Value.int .u8) ((w.alloc (.cells #[.slice ao 4 cap, .slice qo L c1] 22)).alloc (.cells #[] 5)) (.slice qo L c1) p)
    (hsum : Calls Try.prog 20 #[.slice (some ⟨w.heap.size, 0, none⟩) 2 2] (w.alloc (.cells #[.slice ao 4 cap, .slice qo L c1] 22)) fun e w' => e = .returned (.int .u32 T) ∧ w.alloc (.cells #[.slice ao 4 cap, .slice qo L c1] 22) = w') :
    Calls Try.prog 12 #[.slice ao n cap] w fun e w' => ∃ u, e = .returned (.tuple #[u, .int .i64 (8 + (L : Int))]) ∧ w'.ownsRow (w.alloc (.cells #[.slice ao 4 cap, .slice qo L c1] 22)).heap.size 5 1 u p.length (p.map (Value.int .u8)) ∧ Below (w.alloc (.cells #[.slice ao 4 cap, .slice qo L c1] 22)).heap.size (w.alloc (.cells #[.slice ao 4 cap, .slice qo L c1] 22)) w' := by
  subst hpl
  obtain ⟨i0, hi, hz0, hz1, hz2⟩ := info_parts infoByte
  have P1 : 0 + p.length ≤ maxLen := by simp only [maxLen]; omega
  have P2 : (0 + p.length) * 1 ≤ 140737488355328 := by omega
  have hg1 := Lib.hid hg1
  have hg2 := Lib.hid hg2
  have hsum := Lib.hid hsum
  go_enter Try.func12, Try.ntmps12
  go_wp2_with fail
  refine hg1.out.mono ?_
  rintro e w' ⟨rfl, rfl⟩
  go_wp2_with fail
  refine hg2.out.mono ?_
  rintro e w' ⟨rfl, rfl⟩
  go_wp2_with fail
  refine hsum.out.mono ?_
  rintro e w' ⟨rfl, rfl⟩
  generalize hW1 : w.alloc (.cells #[.slice ao 4 cap, .slice qo p.length c1] 22) = W1 at HR ⊢
  go_wp2_with (at_builtin; refine wpList_append_r _ rfl _ _ 22 rfl W1.heap.size 5 i0 (.int .u8 0) 1 Try.underlying22 hi hz0 hz1 hz2 rfl _ _ _ rfl (owns_empty W1 5 (Nat.le_refl _)) (Value.int .u8) _ p rfl HR (by intros; rfl) P1 P2 (by simp) ?_; intro u2 w2 hO2 hg2 hne2)
  go_ret2
  simp only [Nat.zero_add, List.nil_append] at hO2
  subst hW1
  exact ⟨u2, rfl, hO2, bl_grown (bl_alloc (bl_refl _) _) hg2 (by intro k hk; cases hk; exact Nat.le_refl _)⟩

end Go.Proofs.Ytaembdlidaogdaa
