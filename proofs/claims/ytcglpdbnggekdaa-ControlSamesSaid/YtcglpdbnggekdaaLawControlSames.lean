/- The statement 'ControlSames': for every input the law returns true, and each argument reads behind the call as it read before. Conditions: none. The frame was written by program (frame.py). -/
import Derived.Test.YtcglpdbnggekdaaRows
import Derived.WalkKit
import Derived.ProofKit
import Derived.OpenShut
import Derived.ChangeOld
import Derived.SizedLaws
import Derived.Lib.SmallJoins
import Derived.Test.YtcglpdbnggekdaaOpen
import Derived.Test.YtcglpdbnggekdaaLawCtlSames
import Derived.Test.YtcglpdbnggekdaaOpen7
namespace Go.Proofs.Ytcglpdbnggekdaa.controlSames
open Go.ChangeShapes Go.WideShapes Go.ChangeAt Go.RowKit Go.Joins
set_option linter.unusedVariables false

theorem own : ownKnob Try.prog.godebug = none := by kernel_rfl
theorem laidOut : laidOutB Try.prog = true := by kernel_rfl
set_option maxRecDepth 100000 in
theorem lifted (os : Os) (started : os.Started) (H : Type) (enc : TypeId × Value → H) :
    ReturnsInHanded {} Try.checked os 8 .any (Rows.controlSamesSpec.pre6 enc Try.prog Try.f8 Rows.controlSamesRow.domain false) (Rows.controlSamesSpec.post enc Try.prog Try.f8 false true false false) := by
  refine returnsInHanded_of_change_sized (C := Try.checked) own started (by kernel_rfl) Try.func8
    (ChangeSpec.witness6 (enc := enc) (C := Try.checked) false ⟨#[], #[.agg #[.int .i64 0, .int .i64 0, .int .i64 0, .bool false, .int .i64 0, .int .i64 0, .slice none 0 0], .agg #[.int .i64 0, .int .i64 0, .int .i64 0, .bool false, .int .i64 0, .int .i64 0, .slice none 0 0]], []⟩ 8 (by kernel_rfl) (by kernel_rfl) (by kernel_rfl) (by kernel_rfl)) ?_
  intro W base args ds gs before hval0 hW hcnd hsz0 _
  have hsz : (DataW.weightsEach Try.prog (Try.f8.params.toList ++ Rows.controlSamesSpec.plain.varTypes Try.prog) (ds ++ gs)).all (· ≤ reachBytes) = true := hsz0
  have hval : ∀ (j : Nat) t v, Try.f8.params[j]? = some t → args[j]? = some v → Value.okWide Try.prog W .any base t v := hval0
  have hW' := hW
  obtain ⟨p, q, hA0, hV, rfl, hfz, hnd⟩ := hW
  have hA : DataW.TrodAll enc Try.prog W 0 (fun _ => true) true Try.f8.params.toList args.toList ds p := hA0
  rw [Try.params8] at hA hval hsz
  obtain ⟨v0, vs0, d0, ds0, p0, q0, hargs, rfl, rfl, h0, r0⟩ := trodAll_cons hA
  obtain ⟨v1, vs1, d1, ds1, p1, q1, rfl, rfl, rfl, h1, r1⟩ := trodAll_cons r0
  obtain ⟨rfl, rfl, rfl⟩ := trodAll_nil r1
  obtain rfl : args = #[v0, v1] := by cases args; simp_all
  obtain ⟨rfl, rfl⟩ := trodVars_none hV
  have k0 := h0
  have lt0 : ∀ x ∈ p0, x.block < W.heap.size := by obtain ⟨m, hm⟩ := k0; exact DataW.trod_lt m _ _ _ hm
  have k1 := h1
  have lt1 : ∀ x ∈ p1, x.block < W.heap.size := by obtain ⟨m, hm⟩ := k1; exact DataW.trod_lt m _ _ _ hm
  obtain ⟨c0_0, c0_1, c0_2, c0_3, c0_4, c0_5, c0_6, y0_0, y0_1, y0_2, y0_3, y0_4, y0_5, y0_6, m0, rfl, rfl, rfl, hy0_0, hy0_1, hy0_2, hy0_3, hy0_4, hy0_5, hy0_6⟩ := open_agg7 Try.underlying24 (by kernel_rfl) (by kernel_rfl) (hval 0 24 v0 rfl rfl) h0
  obtain ⟨a0_0, e0_0, rfl, w0_0⟩ := DataW.trod_int Try.underlying3 hy0_0
  obtain rfl : c0_0 = _ := by simpa using e0_0
  obtain ⟨a0_1, e0_1, rfl, w0_1⟩ := DataW.trod_int Try.underlying3 hy0_1
  obtain rfl : c0_1 = _ := by simpa using e0_1
  obtain ⟨a0_2, e0_2, rfl, w0_2⟩ := DataW.trod_int Try.underlying3 hy0_2
  obtain rfl : c0_2 = _ := by simpa using e0_2
  obtain ⟨a0_3, e0_3, rfl⟩ := DataW.trod_bool Try.underlying4 hy0_3
  obtain rfl : c0_3 = _ := by simpa using e0_3
  obtain ⟨a0_4, e0_4, rfl, w0_4⟩ := DataW.trod_int Try.underlying3 hy0_4
  obtain rfl : c0_4 = _ := by simpa using e0_4
  obtain ⟨a0_5, e0_5, rfl, w0_5⟩ := DataW.trod_int Try.underlying3 hy0_5
  obtain rfl : c0_5 = _ := by simpa using e0_5
  obtain ⟨xs0_6, ao0_6, cap0_6, rfl, rd0_6, wf0_6, le0_6⟩ := open_reads_cell (B := 1) Try.underlying22 Try.underlying5 (by kernel_rfl) hy0_6 (fun el sp hd => by
    have := sized_field (el := el) (sp := sp) hsz (j := 0) (i := 6) (t := 24) (tf := 22) rfl rfl Try.underlying24 rfl (by simp [hd]) Try.underlying22
    rwa [(by kernel_rfl : Try.prog.bytesOf 5 = 1)] at this)
  obtain ⟨c1_0, c1_1, c1_2, c1_3, c1_4, c1_5, c1_6, y1_0, y1_1, y1_2, y1_3, y1_4, y1_5, y1_6, m1, rfl, rfl, rfl, hy1_0, hy1_1, hy1_2, hy1_3, hy1_4, hy1_5, hy1_6⟩ := open_agg7 Try.underlying24 (by kernel_rfl) (by kernel_rfl) (hval 1 24 v1 rfl rfl) h1
  obtain ⟨a1_0, e1_0, rfl, w1_0⟩ := DataW.trod_int Try.underlying3 hy1_0
  obtain rfl : c1_0 = _ := by simpa using e1_0
  obtain ⟨a1_1, e1_1, rfl, w1_1⟩ := DataW.trod_int Try.underlying3 hy1_1
  obtain rfl : c1_1 = _ := by simpa using e1_1
  obtain ⟨a1_2, e1_2, rfl, w1_2⟩ := DataW.trod_int Try.underlying3 hy1_2
  obtain rfl : c1_2 = _ := by simpa using e1_2
  obtain ⟨a1_3, e1_3, rfl⟩ := DataW.trod_bool Try.underlying4 hy1_3
  obtain rfl : c1_3 = _ := by simpa using e1_3
  obtain ⟨a1_4, e1_4, rfl, w1_4⟩ := DataW.trod_int Try.underlying3 hy1_4
  obtain rfl : c1_4 = _ := by simpa using e1_4
  obtain ⟨a1_5, e1_5, rfl, w1_5⟩ := DataW.trod_int Try.underlying3 hy1_5
  obtain rfl : c1_5 = _ := by simpa using e1_5
  obtain ⟨xs1_6, ao1_6, cap1_6, rfl, rd1_6, wf1_6, le1_6⟩ := open_reads_cell (B := 1) Try.underlying22 Try.underlying5 (by kernel_rfl) hy1_6 (fun el sp hd => by
    have := sized_field (el := el) (sp := sp) hsz (j := 1) (i := 6) (t := 24) (tf := 22) rfl rfl Try.underlying24 rfl (by simp [hd]) Try.underlying22
    rwa [(by kernel_rfl : Try.prog.bytesOf 5 = 1)] at this)
  clear hA0 hval0
  refine (walkControlSames (w := W) a0_0 w0_0 a0_1 w0_1 a0_2 w0_2 a0_3 a0_4 w0_4 a0_5 w0_5 ao0_6 cap0_6 xs0_6 rd0_6 wf0_6 le0_6 a1_0 w1_0 a1_1 w1_1 a1_2 w1_2 a1_3 a1_4 w1_4 a1_5 w1_5 ao1_6 cap1_6 xs1_6 rd1_6 wf1_6 le1_6).mono fun e W' ⟨he, bel⟩ => ?_
  subst he
  exact ⟨_, rfl, _, _, _, [], _, [], hW', trodAll_mk1 (shut_bool Try.underlying4 _), (trodAll_cons_mk (Below.trod laidOut (by kernel_rfl) (of_decide_eq_true (by kernel_rfl)) k0 bel lt0) (trodAll_cons_mk (Below.trod laidOut (by kernel_rfl) (of_decide_eq_true (by kernel_rfl)) k1 bel lt1) trodAll_mk0)), rfl, bel.frame _, fun h => by cases h⟩

theorem over : Rows.controlSamesRow.holds Try.pinned (OpenSpec.ofChange Rows.controlSamesSpec) :=
  OpenClaim.holds_of_wide 8 Try.f8 rfl rfl rfl rfl rfl rfl rfl ⟨rfl, rfl, rfl, rfl, rfl⟩ rfl rfl rfl rfl rfl (by kernel_rfl) Try.func8 (by kernel_rfl)
    (of_decide_eq_true (by kernel_rfl)) (by unfold Func.isWrapper; first | (rw [if_pos (by decide +kernel)]; kernel_rfl) | (rw [if_neg (by decide +kernel)]; exact ⟨rfl, rfl⟩))
    (fun os started H enc _ => lifted os started H enc)

theorem proved : Rows.ControlSamesSaid := over
#print axioms proved
end Go.Proofs.Ytcglpdbnggekdaa.controlSames
