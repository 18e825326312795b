/- The walks of the laws of layer 6 WindowHalves and WindowTurns. Conditions: none. -/
import Derived.WalkKit
import Derived.Lib.Hide
import Derived.Test.YtchghjghkemamaaWinRef
import Derived.Test.YtchghjghkemamaaWinAwake
import Derived.Test.YtchghjghkemamaaLater
namespace Go.Proofs.Ytchghjghkemamaa
open Go.RowKit
set_option linter.unusedVariables false

theorem in_shift (base size n base' m : Int) (h : (m - base') % 128 = (n - base) % 128) (w : World) :
    Calls Try.prog 14 #[.int .i64 base', .int .i64 size, .int .i64 m] w fun e w' => e = .returned (.bool (decide ((n - base) % 128 < size))) ∧ w = w' := by
  rw [← h]; exact in_any _ _ _ _
theorem way_shift (base n base' m : Int) (h : (m - base') % 128 = (n - base) % 128) (w : World) :
    Calls Try.prog 11 #[.int .i64 base', .int .i64 m] w fun e w' => e = .returned (.int .i64 ((n - base) % 128)) ∧ w = w' := by
  rw [← h]; exact way_any _ _ _

set_option maxHeartbeats 1000000 in
theorem walkWindowTurns (b : Int) (_ : (Lit.int .i64 b).wf = true) (s : Int) (_ : (Lit.int .i64 s).wf = true) (n : Int) (_ : (Lit.int .i64 n).wf = true) (by_ : Int) (_ : (Lit.int .i64 by_).wf = true) (w : World) :
    Calls Try.prog 7 #[.agg #[.int .i64 b, .int .i64 s], .int .i64 n, .int .i64 by_] w fun e w' => e = .returned (.bool true) ∧ Below w.heap.size w w' := by
  have x0 : 0 ≤ b % 128 := by omega
  have x1 : b % 128 ≤ 127 := by omega
  have y0 : 0 ≤ by_ % 128 := by omega
  have y1 : by_ % 128 ≤ 127 := by omega
  have z0 : 0 ≤ n % 128 := by omega
  have z1 : n % 128 ≤ 127 := by omega
  have hsh : Hid ((n % 128 + by_ % 128 - (b % 128 + by_ % 128)) % 128 = (n - b) % 128) := by unfold Hid; omega
  go_enter Try.func7, Try.ntmps7
  go_wp2_with fail
  refine (reduce_any _ _).mono ?_
  rintro e w' ⟨rfl, rfl⟩
  go_wp2_with fail
  refine (reduce_any _ _).mono ?_
  rintro e w' ⟨rfl, rfl⟩
  go_wp2_with fail
  refine (reduce_any _ _).mono ?_
  rintro e w' ⟨rfl, rfl⟩
  go_wp2_with fail
  refine (reduce_any _ _).mono ?_
  rintro e w' ⟨rfl, rfl⟩
  go_wp2_with fail
  obtain ⟨W, hW⟩ : ∃ W, w.alloc (.cells #[.int .i64 b, .int .i64 s] 33) = W := ⟨_, rfl⟩
  have hc0 : W.cell? ⟨w.heap.size, 0, none⟩ = some (.int .i64 b) := by rw [← hW, cell_of_row _ _ _ _ _ _ (heap_alloc_new _ _)]; rfl
  have hc1 : W.cell? ⟨w.heap.size, 1, none⟩ = some (.int .i64 s) := by rw [← hW, cell_of_row _ _ _ _ _ _ (heap_alloc_new _ _)]; rfl
  have hB : Below w.heap.size w W := by rw [← hW]; exact bl_alloc (bl_refl w) _
  rw [hW]
  clear hW
  have hc0 := Later.cell hc0
  have hc1 := Later.cell hc1
  refine wp_region_later (by kernel_rfl) (by kernel_rfl) ?_
  repeat (go_big_quiet_step ((first | (go_at_call 13; exact calls_later (awake_any _)) | (go_at_call 14; exact calls_later_same (in_shift b s n _ _ (by first | rfl | exact hsh.out) _)) | (go_at_call 11; exact calls_later_same (way_shift b n _ _ (by first | rfl | exact hsh.out) _)))))
  refine wpQuiet_nil ?_
  rintro _ ⟨x, rfl⟩
  go_wp2
  go_ret
  exact ⟨rfl, bl_trans hB x.h⟩

theorem walkWindowHalves (a : Int) (_ : (Lit.int .i64 a).wf = true) (s : Int) (_ : (Lit.int .i64 s).wf = true) (n : Int) (_ : (Lit.int .i64 n).wf = true) (w : World) :
    Calls Try.prog 8 #[.int .i64 a, .int .i64 s, .int .i64 n] w fun e w' => e = .returned (.bool true) ∧ Below w.heap.size w w' := by
  by_cases h0 : s < 0
  · go_enter Try.func8, Try.ntmps8
    go_wp2_with fail
    refine (awake_any _).mono ?_
    rintro e w1 ⟨rfl, hb⟩
    go_wp2
    go_ret
    exact ⟨rfl, hb⟩
  · by_cases h1 : 64 < s
    · go_enter Try.func8, Try.ntmps8
      go_wp2_with fail
      refine (awake_any _).mono ?_
      rintro e w1 ⟨rfl, hb⟩
      go_wp2
      go_ret
      exact ⟨rfl, hb⟩
    · have x0 : 0 ≤ a % 128 := by omega
      have x1 : a % 128 ≤ 127 := by omega
      by_cases hin : (n - a) % 128 < s
      · have hd : decide ((n - a) % 128 < s) = true := by simpa using hin
        have hd2 : decide ((n - (a % 128 - s)) % 128 < s) = false := by simp; omega
        have Hd := Lib.hid hd
        have Hd2 := Lib.hid hd2
        clear hd hd2 hin
        go_enter Try.func8, Try.ntmps8
        go_wp2_with fail
        refine (reduce_any _ _).mono ?_
        rintro e w' ⟨rfl, rfl⟩
        go_wp2_with fail
        refine (in_any _ _ _ _).mono ?_
        rintro e w' ⟨rfl, rfl⟩
        rw [Hd.out]
        go_wp2_with fail
        refine (in_any _ _ _ _).mono ?_
        rintro e w' ⟨rfl, rfl⟩
        rw [Hd2.out]
        go_wp2_with fail
        refine (awake_any _).mono ?_
        rintro e w1 ⟨rfl, hb⟩
        go_wp2
        go_ret
        exact ⟨rfl, hb⟩
      · have hd : decide ((n - a) % 128 < s) = false := by simpa using hin
        have Hd := Lib.hid hd
        clear hd hin
        go_enter Try.func8, Try.ntmps8
        go_wp2_with fail
        refine (reduce_any _ _).mono ?_
        rintro e w' ⟨rfl, rfl⟩
        go_wp2_with fail
        refine (in_any _ _ _ _).mono ?_
        rintro e w' ⟨rfl, rfl⟩
        rw [Hd.out]
        go_wp2_with fail
        refine (awake_any _).mono ?_
        rintro e w1 ⟨rfl, hb⟩
        go_wp2
        go_ret
        exact ⟨rfl, hb⟩

end Go.Proofs.Ytchghjghkemamaa
