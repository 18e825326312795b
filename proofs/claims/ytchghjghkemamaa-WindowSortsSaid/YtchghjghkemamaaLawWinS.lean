/- The walk of the law WindowSorts. Conditions: the list takes no more bytes than the form's reach. -/
import Derived.WalkKit
import Derived.Lib.Hide
import Derived.Test.YtchghjghkemamaaWinRefL
import Derived.Test.YtchghjghkemamaaWinAwake
namespace Go.Proofs.Ytchghjghkemamaa
open Go.RowKit
set_option linter.unusedVariables false

theorem sorted_le' (l : List Int) (b : Int) : (sorted l (win b 128)).length ≤ maxLen := by
  have := sorted_le l (win b 128); rw [win_length] at this; unfold maxLen; omega
theorem missed_le' (l : List Int) (b d : Int) : (missed l (win b (d % 128).toNat)).length ≤ maxLen := by
  have := missed_le l (win b (d % 128).toNat); rw [win_length] at this; unfold maxLen; omega

set_option maxHeartbeats 1000000 in
theorem walkWindowSorts (base : Int) (_ : (Lit.int .i64 base).wf = true) (to : Int) (_ : (Lit.int .i64 to).wf = true) (v : Value) (l : List Int) (w : World) (hr : Reads (Value.int .i64) w v l) (_ : ∀ n ∈ l, (Lit.int .i64 n).wf = true) (hle : l.length * 8 ≤ reachBytes) :
    Calls Try.prog 10 #[.int .i64 base, .int .i64 to, v] w fun e w' => e = .returned (.bool true) ∧ Below w.heap.size w w' := by
  obtain ⟨i0, hi, hz0, hz1, hz2⟩ := info_parts infoInt
  have hm := hr.1
  unfold reachBytes at hle
  have s1 := Lib.hid (sorted_le' l base)
  have s2 := Lib.hid (missed_le' l base (to - base))
  go_enter Try.func10, Try.ntmps10
  go_wp2_with (at_builtin; refine wpList_append_r _ rfl _ _ 29 rfl w.heap.size 3 i0 (.int .i64 0) 8 Try.underlying29 hi hz0 hz1 hz2 rfl _ _ _ rfl (owns_empty w _ (Nat.le_refl _)) (Value.int .i64) _ l rfl (hr.below (bl_alloc (bl_refl w) _)) (by intros; rfl) (by simp; exact hm) (by simp; omega) (by simp) ?_; intro g w1 hown hgrow _)
  have hb1 : Below w.heap.size w w1 := bl_grown (bl_alloc (bl_refl w) _) hgrow (owns_row_ge (owns_empty w 3 (Nat.le_refl _)))
  have hg : Reads (Value.int .i64) w1 g l := Reads.of_owns (base := w.heap.size) (e := 3) (by simpa using hown) hm
  clear hown hgrow
  refine (sort_any _ _ l _ hg).mono ?_
  rintro e w2 ⟨u1, rfl, ho1, hb2⟩
  go_wp2_with fail
  have hv2 := (hr.below hb1).below hb2
  refine (rsort_any _ _ l _ hv2).mono ?_
  rintro e w3 ⟨u2, rfl, ho2, hb3⟩
  go_wp2_with fail
  refine (same_any _ _ _ _ _ (Reads.owned ho1 s1.out hb3) (Reads.of_owns ho2 s1.out)).mono ?_
  rintro e w4 ⟨rfl, hb4⟩
  rw [decide_eq_true rfl]
  go_wp2_with fail
  have hg4 := ((hg.below hb2).below hb3).below hb4
  have hv4 := (hv2.below hb3).below hb4
  clear ho1 ho2
  refine (missing_any _ _ _ l _ hg4).mono ?_
  rintro e w5 ⟨u3, rfl, ho3, hb5⟩
  go_wp2_with fail
  refine (rmissing_any _ _ _ l _ (hv4.below hb5)).mono ?_
  rintro e w6 ⟨u4, rfl, ho4, hb6⟩
  go_wp2_with fail
  refine (same_any _ _ _ _ _ (Reads.owned ho3 s2.out hb6) (Reads.of_owns ho4 s2.out)).mono ?_
  rintro e w7 ⟨rfl, hb7⟩
  rw [decide_eq_true rfl]
  go_wp2_with fail
  have hg7 := ((hg4.below hb5).below hb6).below hb7
  have hv7 := ((hv4.below hb5).below hb6).below hb7
  clear ho3 ho4
  refine (same_any _ _ _ _ _ hg7 hv7).mono ?_
  rintro e w8 ⟨rfl, hb8⟩
  rw [decide_eq_true rfl]
  go_wp2_with fail
  refine (awake_any _).mono ?_
  rintro e w9 ⟨rfl, hb9⟩
  go_wp2
  go_ret
  exact ⟨rfl, bl_trans (bl_trans (bl_trans (bl_trans (bl_trans (bl_trans (bl_trans (bl_trans hb1 hb2) hb3) hb4) hb5) hb6) hb7) hb8) hb9⟩

end Go.Proofs.Ytchghjghkemamaa
