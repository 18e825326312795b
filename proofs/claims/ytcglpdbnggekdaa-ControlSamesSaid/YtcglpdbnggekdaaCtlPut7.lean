/- control.Put of a right control of kind 7. Written by program (gen_put.py). Conditions: none. -/
import Derived.WalkKit
import Derived.Lib.Hide
import Derived.Test.YtcglpdbnggekdaaCtlBase
namespace Go.Proofs.Ytcglpdbnggekdaa
open Go.RowKit

set_option maxRecDepth 100000 in
set_option maxHeartbeats 1000000 in
theorem cput_7 (ns nr me peer : Nat) (p : Bool) (ds : List Int) (ao : Option Addr) (cap : Nat) (hok : Hid (chkN 7 ns nr me peer ds.length = 0)) (_ : ns ≤ 127) (b2 : nr ≤ 127) (b3 : me ≤ 65535) (b4 : peer ≤ 65535) (hl : ds.length ≤ 121)
    (L : List Int) (hL : Hid (L = 3 :: ([15 + 16 * ((bitN p : Nat) : Int)] ++ (be me 2 ++ (be peer 2 ++ ds))))) (w : World) (hr : Reads (Value.int .u8) w (.slice ao ds.length cap) ds) :
    Calls Try.prog 11 #[.agg #[.int .i64 7, .int .i64 ns, .int .i64 nr, .bool p, .int .i64 me, .int .i64 peer, .slice ao ds.length cap]] w fun e w' => ∃ u, e = .returned (.tuple #[u, .int .i64 0]) ∧
      w'.ownsRow w.heap.size 5 1 u L.length (L.map (Value.int .u8)) ∧ Below w.heap.size w w' := by
  obtain ⟨i0, hi, hz0, hz1, hz2⟩ := info_parts infoByte
  have hbit := bitN_lt p
  go_enter Try.func11, Try.ntmps11
  go_wp2_with fail
  obtain ⟨c0, c1, c2, c3, c4, c5, c6⟩ := cells7 w (.int .i64 7) (.int .i64 ns) (.int .i64 nr) (.bool p) (.int .i64 me) (.int .i64 peer) (.slice ao ds.length cap) 24
  have hr := hr.below (bl_alloc (bl_refl w) (.cells #[.int .i64 7, .int .i64 ns, .int .i64 nr, .bool p, .int .i64 me, .int .i64 peer, .slice ao ds.length cap] 24))
  have hww := bl_alloc (bl_refl w) (.cells #[.int .i64 7, .int .i64 ns, .int .i64 nr, .bool p, .int .i64 me, .int .i64 peer, .slice ao ds.length cap] 24)
  generalize w.alloc (.cells #[.int .i64 7, .int .i64 ns, .int .i64 nr, .bool p, .int .i64 me, .int .i64 peer, .slice ao ds.length cap] 24) = w0 at c0 c1 c2 c3 c4 c5 c6 hr hww ⊢
  have hlow := low_val p b2
  have hpoll := poll_val p
  refine (check_any _ _ _ _ _ _ _ _ _ _).mono ?_
  rintro e w1 ⟨rfl, hB⟩
  rw [hok.out]
  have hsz := hB.size
  go_wp2_with fail
  have hO := owns_one w1 (base := w0.heap.size) (.int .u8 3) 5 hsz
  have hB := bl_alloc hB (.cells #[.int .u8 3] 5)
  generalize w1.alloc (.cells #[.int .u8 3] 5) = W2 at hO hB ⊢
  have d0 := below_cell hB c0
  have l2 := Later.cell (below_cell hB c2)
  have l3 := Later.cell (below_cell hB c3)
  refine wp_region_later (by kernel_rfl) (by kernel_rfl) ?_
  repeat (go_big_quiet_step ((first | (go_at_call 22; exact calls_later_same (bit_one p _)))))
  refine wpQuiet_nil ?_
  rintro _ ⟨x, rfl⟩
  have hO := owns_below' hO x.h
  have hB := bl_trans hB x.h
  generalize x.w = W3 at hB hO ⊢
  clear x l2 l3 d0
  have d0 := below_cell hB c0
  have d1 := below_cell hB c1
  have d3 := below_cell hB c3
  have hsz := hB.size
  go_wp2_with fail
  refine (bit_one p _).mono ?_
  rintro e w' ⟨rfl, rfl⟩
  go_wp2_with (at_builtin; refine wpList_append_r _ rfl (.tmp 23) (.tmp 29) 22 rfl w0.heap.size 5 i0 (.int .u8 0) 1 Try.underlying22 hi hz0 hz1 hz2 rfl _ _ _ rfl (owns_below' hO (bl_alloc (bl_refl _) _)) (Value.int .u8) _ _ rfl (reads_one (Value.int .u8) _ _ _) (by intros; rfl) (by simp [maxLen]) (by simp) (by simp; omega) ?_; intro u4 W4 hO4 hg4 _; have hB4 : Below w0.heap.size w0 W4 := bl_grown (bl_alloc hB _) hg4 (owns_row_ge hO); have d4 := below_cell hB4 c4; clear hg4 d0 d1 d3; obtain ⟨ao4, cap4, rfl⟩ := owns_form hO4)
  have hO4 : W4.ownsRow w0.heap.size 5 1 (.slice ao4 2 cap4) ([3, 15 + 16 * ((bitN p : Nat) : Int)] : List Int).length (([3, 15 + 16 * ((bitN p : Nat) : Int)] : List Int).map (Value.int .u8)) := by first | exact hO4 | (simpa [Int.mul_comm, hpoll] using hO4)
  obtain ⟨A, hA⟩ : ∃ A : List Int, A = [3, 15 + 16 * ((bitN p : Nat) : Int)] := ⟨_, rfl⟩
  have hAl : A.length = 2 := by rw [hA]; rfl
  rw [← hA] at hO4
  have hfin : L = A ++ be me 2 ++ be peer 2 ++ ds := by rw [hL.out, hA]; simp
  have HF := Lib.hid hfin
  clear hA hfin hlow hbit d4 hO hB hsz hL
  have d4 := below_cell hB4 c4
  have r4 := Reads.of_owns hO4 (by rw [hAl]; simp [maxLen])
  have hsz4 := hB4.size
  refine (put_good _ A me 2 (by omega) (by omega) (by unfold Hid; omega) _ r4 (by omega)).mono ?_
  rintro e W5 ⟨u5, rfl, hO5, hb5⟩
  have hB5 := bl_trans hB4 hb5
  have d5 := below_cell hB5 c5
  have hl5 : (A ++ be me 2).length = 4 := by rw [List.length_append, be_length, hAl]
  have r5 := Reads.of_owns hO5 (by rw [hl5]; simp [maxLen])
  obtain ⟨ao5, cap5, rfl⟩ := owns_form hO5
  rw [hl5] at r5 ⊢
  clear hb5 hO4 r4 hB4 d4
  go_wp2_with fail
  refine (put_good _ (A ++ be me 2) peer 2 (by omega) (by omega) (by unfold Hid; omega) _ r5 (by omega)).mono ?_
  rintro e W6 ⟨u6, rfl, hO6, hb6⟩
  have hB6 := bl_trans hB5 hb6
  have d6 := below_cell hB6 c6
  have hl6 : (A ++ be me 2 ++ be peer 2).length = 6 := by rw [List.length_append, hl5, be_length]
  have hsz5 := hB5.size
  have hsz6 := hB6.size
  have hrd := hr.below hB6
  have hO6 := owns_mono hO6 hsz5
  obtain ⟨ao6, cap6, rfl⟩ := owns_form hO6
  rw [hl6] at hO6 ⊢
  clear hb6 hO5 r5 hB5 d5
  go_wp2_with (at_builtin; refine wpList_append_r _ rfl (.tmp 96) (.tmp 98) 22 rfl w0.heap.size 5 i0 (.int .u8 0) 1 Try.underlying22 hi hz0 hz1 hz2 rfl _ _ _ rfl hO6 (Value.int .u8) _ ds rfl hrd (by intros; rfl) (by simp [maxLen]; omega) (by omega) (by omega) ?_; intro u7 W7 hO7 hg7 _; have hB7 : Below w0.heap.size w0 W7 := bl_grown hB6 hg7 (owns_row_ge hO6); clear hg7; obtain ⟨ao7, cap7, rfl⟩ := owns_form hO7)
  go_ret2
  refine ⟨_, rfl, ?_, bl_trans hww hB7⟩
  have := owns_mono hO7 hww.size
  rw [HF.out, List.length_append, hl6, List.map_append]
  exact this

end Go.Proofs.Ytcglpdbnggekdaa
