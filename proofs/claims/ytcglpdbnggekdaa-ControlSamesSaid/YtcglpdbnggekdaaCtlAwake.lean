/- portagelaw05.awake answers true, and leaves what was there alone. Conditions: none. -/
import Derived.WalkKit
import Derived.Lib.Hide
import Derived.Lib.SlBytesConst
import Derived.Test.YtcglpdbnggekdaaCtlGet1
import Derived.Test.YtcglpdbnggekdaaCtlSame
namespace Go.Proofs.Ytcglpdbnggekdaa
open Go.RowKit

theorem aw_out : (Ctl.mk 1 1 2 true 3 4 [97]).out = [3, 2, 5, 0, 3, 0, 4, 97] := by
  rw [Ctl.out_ok (by decide +kernel)]
  unfold Ctl.bytes Ctl.sec
  simp [bitN_t, be]
theorem aw_chk : (Ctl.mk 1 1 2 true 3 4 [97]).chk = 0 := by decide +kernel
theorem aw_me : getV [3, 2, 5, 0, 3, 0, 4, 97] 3 2 = 3 ∧ getE [3, 2, 5, 0, 3, 0, 4, 97] 3 2 = 0 := by decide +kernel
theorem aw_peer : getV [3, 2, 5, 0, 3, 0, 4, 97] 5 2 = 4 ∧ getE [3, 2, 5, 0, 3, 0, 4, 97] 5 2 = 0 := by decide +kernel
theorem aw_kind : kindN 2 = 1 := by decide +kernel
theorem aw_chk2 : chkN 1 (2 / 2) (5 / 2) (3 : Nat) (4 : Nat) ([3, 2, 5, 0, 3, 0, 4, 97].length - 7) = 0 := by decide +kernel
theorem aw_str : strOfNums [3, 2, 5, 0, 3, 0, 4, 97] = ⟨#[3, 2, 5, 0, 3, 0, 4, 97]⟩ := by decide +kernel
theorem aw_c : (⟨1, 2 / 2, 5 / 2, bits .and .u8 5 1 == 1, (3 : Nat), (4 : Nat), [3, 2, 5, 0, 3, 0, 4, 97].drop 7⟩ : Ctl) = ⟨1, 1, 2, true, 3, 4, [97]⟩ := by
  rw [show (bits .and .u8 5 1 == 1) = true by decide +kernel]; rfl
theorem aw_same : sameB ⟨1, 1, 2, true, 3, 4, [97]⟩ ⟨1, 1, 2, true, 3, 4, [97]⟩ = true := by simp [sameB]

theorem reads_mark (w : World) (x : Int) (e : TypeId) (fr : Nat × Nat) : Reads (Value.int .u8) (w.alloc (.cells #[.int .u8 x] e fr)) (.slice (some ⟨w.heap.size, 0, none⟩) 1 1) [x] := by
  refine ⟨by simp [maxLen], _, _, rfl, ⟨by simp, fun h => by cases h⟩, fun i z hz => ⟨_, _, rfl, ?_⟩⟩
  rw [World.cell?_alloc_mark]
  match i, hz with
  | 0, hz => simp at hz; subst hz; simp
  | n + 1, hz => simp at hz

set_option maxRecDepth 100000 in
set_option maxHeartbeats 1000000 in
theorem awake_any (w : World) :
    Calls Try.prog 13 #[] w fun e w' => e = .returned (.bool true) ∧ Below w.heap.size w w' := by
  have hcv : (convert 22 22 (.slice (some ⟨w.heap.size, 0, none⟩) 1 1)).run Try.prog (w.alloc (.cells #[.int .u8 97] 5)) = .ok (.slice (some ⟨w.heap.size, 0, none⟩) 1 1) (w.alloc (.cells #[.int .u8 97] 5 (1, 2))) := Lib.run_convert_bytes_const w 22 5 #[.int .u8 97] 1 1 Try.underlying22 Try.underlying5
  go_enter Try.func13, Try.ntmps13
  go_wp2_with fail
  have hr := (reads_mark w 97 5 (1, 2)).below (bl_alloc (bl_refl _) (.cells #[.int .i64 1, .int .i64 1, .int .i64 2, .bool true, .int .i64 3, .int .i64 4, .slice (some ⟨w.heap.size, 0, none⟩) 1 1] 24))
  have hbx := heap_alloc2_new w (.cells #[.int .u8 97] 5 (1, 2)) (.cells #[.int .i64 1, .int .i64 1, .int .i64 2, .bool true, .int .i64 3, .int .i64 4, .slice (some ⟨w.heap.size, 0, none⟩) 1 1] 24)
  have hB := bl_alloc (bl_alloc (bl_refl w) (.cells #[.int .u8 97] 5 (1, 2))) (.cells #[.int .i64 1, .int .i64 1, .int .i64 2, .bool true, .int .i64 3, .int .i64 4, .slice (some ⟨w.heap.size, 0, none⟩) 1 1] 24)
  generalize (w.alloc (.cells #[.int .u8 97] 5 (1, 2))).alloc (.cells #[.int .i64 1, .int .i64 1, .int .i64 2, .bool true, .int .i64 3, .int .i64 4, .slice (some ⟨w.heap.size, 0, none⟩) 1 1] 24) = W0 at hr hbx hB ⊢
  refine (cput_any ⟨1, 1, 2, true, 3, 4, [97]⟩ (some ⟨w.heap.size, 0, none⟩) 1 _ hr).mono ?_
  rintro e W1 ⟨u, rfl, hO, hb⟩
  rw [aw_chk]
  rw [aw_out] at hO
  have hu := Reads.of_owns hO (by simp [maxLen])
  obtain ⟨ao1, cap1, rfl⟩ := owns_form hO
  have hr := hr.below hb
  have hbx := bl_get hb hbx
  have hB := bl_trans hB hb
  clear hO hb
  go_wp2_with fail
  refine (get_v1 _ [3, 2, 5, 0, 3, 0, 4, 97] 2 5 rfl rfl (by simp) (by unfold Hid; decide) _ hu rfl aw_kind (by omega) (by omega) (by simp) 3 4 aw_me aw_peer (by omega) (by omega)).mono ?_
  rintro e W2 ⟨c, ao2, cap2, E, rfl, hO, hb, hc⟩
  rcases hc with ⟨_, rfl, rfl⟩ | ⟨hn, _⟩
  · rw [aw_c] at hO ⊢
    have hg := Reads.of_owns hO (by simp [maxLen])
    have hu := hu.below hb
    have hs : ∀ o' : Obj, (convert 22 9 (.slice ao1 8 cap1)).run Try.prog (W2.alloc o') = .ok (.string ⟨#[3, 2, 5, 0, 3, 0, 4, 97]⟩) (W2.alloc o') := fun o' => by
      have := conv_reads (hu.below (bl_alloc (bl_refl _) o'))
      rw [aw_str] at this
      exact this
    have hr := hr.below hb
    have hbx := bl_get hb hbx
    have hB := bl_trans hB hb
    clear hO hb hu hcv
    have d0 : ∀ o' : Obj, _ := fun o' => (cells_of7 (kept_alloc hbx o')).1
    have d1 : ∀ o' : Obj, _ := fun o' => (cells_of7 (kept_alloc hbx o')).2.1
    have d2 : ∀ o' : Obj, _ := fun o' => (cells_of7 (kept_alloc hbx o')).2.2.1
    have d3 : ∀ o' : Obj, _ := fun o' => (cells_of7 (kept_alloc hbx o')).2.2.2.1
    have d4 : ∀ o' : Obj, _ := fun o' => (cells_of7 (kept_alloc hbx o')).2.2.2.2.1
    have d5 : ∀ o' : Obj, _ := fun o' => (cells_of7 (kept_alloc hbx o')).2.2.2.2.2.1
    have d6 : ∀ o' : Obj, _ := fun o' => (cells_of7 (kept_alloc hbx o')).2.2.2.2.2.2
    simp only [Ctl.val]
    go_wp2_with fail
    refine (rsame_any ⟨1, 1, 2, true, 3, 4, [97]⟩ ⟨1, 1, 2, true, 3, 4, [97]⟩ (some ⟨w.heap.size, 0, none⟩) ao2 1 cap2 _ (hr.below (bl_alloc (bl_refl _) _)) (hg.below (bl_alloc (bl_refl _) _))).mono ?_
    rintro e W4 ⟨rfl, hb⟩
    rw [aw_same]
    go_wp2
    go_ret
    exact ⟨rfl, bl_trans (bl_alloc hB _) hb⟩
  · exact absurd aw_chk2 hn

end Go.Proofs.Ytcglpdbnggekdaa
