/- Contracts of the reference functions of layer 6 on lists: Each, Has, Sort, Missing. Conditions: none but that a list is no longer than an int can say. -/
import Derived.WalkKit
import Derived.Lib.Hide
import Derived.Maps.AppendAt
import Derived.Test.YtchghjghkemamaaWinRef
import Derived.Test.YtchghjghkemamaaWinMiss
import Derived.Test.YtchghjghkemamaaApp
namespace Go.Proofs.Ytchghjghkemamaa
open Go.RowKit

def vals (l : List N7) : List Int := l.map (·.1)

theorem hasN_take {l : List Int} {k : Nat} {x : Int} (hx : l[k]? = some x) (j : Int) : hasN (l.take (k + 1)) j = (hasN (l.take k) j || x % 128 == j) := by
  rw [take_snoc' hx, hasN_snoc]

set_option maxHeartbeats 1000000 in
theorem rhas_any (v : Value) (l : List Int) (j : Int) (w : World) (hr : Reads (Value.int .i64) w v l) :
    Calls Try.prog 29 #[v, .int .i64 j] w fun e w' => e = .returned (.bool (hasN l j)) ∧ w = w' := by
  obtain ⟨hm, ao, cap, rfl, _, hc⟩ := hr
  unfold maxLen at hm
  go_enter Try.func29, Try.ntmps29
  go_wp2
  go_loop [5] (fun k => ∃ i : Nat, i ≤ l.length ∧ k = .int .i64 i ∧ Hid (hasN (l.take i) j = false)) (fun k => l.length - (intOf k).toNat)
  case atStart => exact ⟨0, by omega, rfl, rfl⟩
  case round =>
    obtain ⟨k, hk, rfl, hH⟩ := hrel
    by_cases hlt : k < l.length
    · obtain ⟨b, o, x, rfl, hx, hcx⟩ := cell_nth hc hlt
      clear hc
      by_cases he : x % 128 = j
      · have hb : (x % 128 == j) = true := by simpa using he
        have hfin : Hid (hasN l j = true) := by
          have : x ∈ l := List.mem_of_getElem? hx.out
          unfold Hid hasN
          rw [List.any_eq_true]
          exact ⟨x, this, hb⟩
        clear he
        go_wp2_with (go_at_call 19; refine (rreduce_any _ _).mono ?_; rintro e w' ⟨rfl, rfl⟩)
        go_ret
        exact ⟨ret_bool hfin.out.symm, rfl⟩
      · have hb : (x % 128 == j) = false := by simpa using he
        have hfin : Hid (hasN (l.take (k + 1)) j = false) := by
          unfold Hid; rw [hasN_take hx.out, hH.out, hb]; rfl
        clear he
        go_wp2_with (go_at_call 19; refine (rreduce_any _ _).mono ?_; rintro e w' ⟨rfl, rfl⟩)
        go_round
        case rel => exact ⟨k + 1, by omega, by go_num, hfin⟩
        case measure => simp [intOf]; omega
    · obtain rfl : k = l.length := by omega
      clear hc
      rw [List.take_length] at hH
      go_wp2
      go_ret
      exact ⟨ret_bool hH.out.symm, rfl⟩

set_option maxRecDepth 100000 in
set_option maxHeartbeats 1000000 in
theorem reach_any (base size : Int) (w : World) :
    Calls Try.prog 17 #[.int .i64 base, .int .i64 size] w fun e w' => ∃ u, e = .returned u ∧
      w'.ownsRow w.heap.size 3 1 u (vals (win base (winLen size))).length ((vals (win base (winLen size))).map (Value.int .i64)) ∧ Below w.heap.size w w' := by
  obtain ⟨i0, hi, hz0, hz1, hz2⟩ := info_parts infoInt
  have hm2 := winLen_le size
  have hq : (128 ≤ size ∧ 128 ≤ winLen size) ∨ (0 < size ∧ size ≤ 128 ∧ size ≤ (winLen size : Int) ∧ (winLen size : Int) ≤ size) ∨ (size ≤ 0 ∧ winLen size ≤ 0) := by unfold winLen; omega
  go_enter Try.func17, Try.ntmps17
  go_wp2_with (go_at_call 19; refine (rreduce_any _ _).mono ?_; rintro e w' ⟨rfl, rfl⟩)
  go_loopw [5, 6, 7] (fun v n k wr => ∃ i : Nat, i ≤ winLen size ∧ k = .int .i64 i ∧ n = .int .i64 ((base + (i : Int)) % 128) ∧ wr.ownsRow w.heap.size 3 1 v (vals (win base i)).length ((vals (win base i)).map (Value.int .i64)) ∧ Below w.heap.size w wr)
    (fun _ _ k _ => winLen size - (intOf k).toNat)
  case atStart => exact ⟨0, by omega, rfl, by simp, by rw [win_zero]; exact owns_empty w _ (Nat.le_refl _), bl_alloc (bl_refl w) _⟩
  case round =>
    obtain ⟨k, hk, rfl, rfl, hown, hB⟩ := hrel
    have hlen : (vals (win base k)).length ≤ 128 := by simp [vals, win_length]; omega
    have hvs : Hid (vals (win base (k + 1)) = vals (win base k) ++ [(base + (k : Int)) % 128]) := by unfold Hid; rw [win_succ]; simp [vals, red]
    by_cases hlt : k < winLen size
    · have hs := hB.size
      have h1 : (k : Int) < 128 := by omega
      have h2 : (k : Int) < size := by omega
      go_wp2_with (first
        | (at_builtin; refine wpList_append_own _ rfl _ _ 29 rfl w.heap.size 3 i0 (.int .i64 0) 1 8 Try.underlying29 hi hz0 hz1 hz2 rfl (by decide) _ _ _ rfl (hown.alloc _) ⟨wr.heap.size, 0, none⟩ 1 1 [.int .i64 ((base + (k : Int)) % 128)] rfl rfl (cell_one_new _ _ _) (by simp [Value.oneCell']) (by unfold maxLen; omega) (by omega) (by simp; omega) ?_; intro v' w1 hown' hgrow _)
        | (go_at_call 21; refine (rnext_any _ _).mono ?_; rintro e w' ⟨rfl, rfl⟩))
      go_roundw
      case rel =>
        refine ⟨k + 1, by omega, by go_num, by congr 1; omega, ?_, bl_grown (bl_alloc hB _) hgrow (owns_row_ge hown)⟩
        rw [hvs.out]
        simpa using hown'
      case measure => simp [intOf]; omega
    · by_cases hs : (k : Int) < size
      · have h1 : ¬ (k : Int) < 128 := by omega
        go_wp2
        go_ret
        exact ⟨_, rfl, by rw [show winLen size = k by omega]; exact hown, hB⟩
      · go_wp2
        go_ret
        exact ⟨_, rfl, by rw [show winLen size = k by omega]; exact hown, hB⟩

theorem vals_get {l : List N7} {k : Nat} (h : k < (vals l).length) : ∃ x : N7, l[k]? = some x ∧ (vals l)[k]? = some x.1 := by
  have h' : k < l.length := by simpa [vals] using h
  exact ⟨l[k], List.getElem?_eq_getElem h', by simp [vals, h']⟩

set_option maxRecDepth 100000 in
set_option maxHeartbeats 1000000 in
theorem rsort_any (base : Int) (v : Value) (l : List Int) (w : World) (hr : Reads (Value.int .i64) w v l) :
    Calls Try.prog 24 #[.int .i64 base, v] w fun e w' => ∃ u, e = .returned u ∧
      w'.ownsRow w.heap.size 3 1 u (sorted l (win base 128)).length ((sorted l (win base 128)).map (Value.int .i64)) ∧ Below w.heap.size w w' := by
  obtain ⟨i0, hi, hz0, hz1, hz2⟩ := info_parts infoInt
  have hw128 : Hid ((win base 128).length = 128) := win_length _ _
  have hre := reach_any base 128
  rw [winLen128] at hre
  obtain ⟨ww, hww⟩ : ∃ ww, win base 128 = ww := ⟨_, rfl⟩
  rw [hww] at hre hw128 ⊢
  clear hww
  have hlv : (vals ww).length = 128 := by simp [vals, hw128.out]
  have HRE := Lib.hid hre
  clear hre
  go_enter Try.func24, Try.ntmps24
  go_wp2_with fail
  refine (HRE.out _).mono ?_
  rintro e w1 ⟨ua, rfl, hall, hb1⟩
  have hB1 : Below w.heap.size w w1 := bl_trans (bl_alloc (bl_refl w) _) hb1
  have hE : w1.ownsRow w.heap.size 3 1 (.slice (some ⟨w.heap.size, 0, none⟩) 0 0) 0 [] :=
    (owns_empty w 3 (Nat.le_refl w.heap.size)).kept (w' := w1) (row := none) ⟨hb1.os, hb1.tape, hb1.output, hb1.size, fun k hk _ => hb1.block k hk⟩ (.inr (by simp [Value.ownBlock]))
  obtain ⟨g, cap, cur, rfl, hge, hg, hcur⟩ := owns_block hall (by omega)
  have hne0 : some g ≠ Value.ownBlock (.slice (some ⟨w.heap.size, 0, none⟩) 0 0) := by simp at hge; simp [Value.ownBlock]; omega
  clear hall hb1 HRE
  rw [hlv]
  clear hlv
  go_wp2_with fail
  go_loopw [5, 7] (fun u k wr => ∃ i : Nat, i ≤ 128 ∧ k = .int .i64 i ∧ wr.ownsRow w.heap.size 3 1 u (sorted l (ww.take i)).length ((sorted l (ww.take i)).map (Value.int .i64)) ∧ Below w.heap.size w wr ∧ wr.heap[g]? = some (.cells cur 3 (0, 0)) ∧ some g ≠ u.ownBlock)
    (fun _ k _ => 128 - (intOf k).toNat)
  case atStart => exact ⟨0, by omega, rfl, by simpa [sorted] using hE, hB1, hg, hne0⟩
  case round =>
    obtain ⟨k, hk, rfl, hown, hB, hgr, hne⟩ := hrel
    clear hE hg hne0 hB1
    by_cases hlt : k < 128
    · obtain ⟨x, hx⟩ : ∃ x, ww[k]? = some x := get_some (by rw [hw128.out]; exact hlt)
      have hcx : wr.cell? ⟨g, k, none⟩ = some (.int .i64 x.1) := by
        rw [cell_of_row _ _ _ _ _ _ hgr]
        exact hcur k x.1 (by simp [vals, hx])
      have hsz := hB.size
      have hgl := lt_of_get hgr
      have hle := sorted_le l (ww.take k)
      have hle2 : (ww.take k).length ≤ k := List.length_take_le _ _
      have hR := hr.below hB
      have hx := Lib.hid hx
      clear hcur hr
      cases hh : hasN l x.1 with
      | true =>
        have hs : Hid (sorted l (ww.take (k + 1)) = sorted l (ww.take k) ++ [x.1]) := by unfold Hid; rw [take_snoc' hx.out, sorted_hit l _ hh]
        have HH := Lib.hid hh
        clear hh
        go_wp2_with fail
        refine (rhas_any _ l _ _ hR).mono ?_
        rintro e w' ⟨rfl, rfl⟩
        rw [HH.out]
        go_wp2_with (at_builtin; refine wpList_append_r _ rfl _ _ 29 rfl w.heap.size 3 i0 (.int .i64 0) 8 Try.underlying29 hi hz0 hz1 hz2 rfl _ _ _ rfl (hown.alloc _) (Value.int .i64) _ [x.1] rfl (reads_one _ _ _ _) (by simp [Value.oneCell']) (by simp [maxLen]; omega) (by simp; omega) (by simp; omega) ?_; intro v' w2 hown' hgrow hne')
        go_roundw
        case rel =>
          refine ⟨k + 1, by omega, by go_num, ?_, bl_grown (bl_alloc hB _) hgrow (owns_row_ge hown), kept_block (kept_alloc hgr _) hgrow hne, hne' g (by simp; omega) hne⟩
          rw [hs.out]; simpa using hown'
        case measure => simp [intOf]; omega
      | false =>
        have hs : Hid (sorted l (ww.take (k + 1)) = sorted l (ww.take k)) := by unfold Hid; rw [take_snoc' hx.out, sorted_miss l _ hh]
        have HH := Lib.hid hh
        clear hh
        go_wp2_with fail
        refine (rhas_any _ l _ _ hR).mono ?_
        rintro e w' ⟨rfl, rfl⟩
        rw [HH.out]
        go_wp2
        go_roundw
        case rel => exact ⟨k + 1, by omega, by go_num, by rw [hs.out]; exact hown, hB, hgr, hne⟩
        case measure => simp [intOf]; omega
    · obtain rfl : k = 128 := by omega
      rw [List.take_of_length_le (by rw [hw128.out]; omega)] at hown
      go_wp2
      go_ret
      exact ⟨_, rfl, hown, hB⟩

set_option maxRecDepth 100000 in
set_option maxHeartbeats 1000000 in
theorem rmissing_any (base to : Int) (v : Value) (l : List Int) (w : World) (hr : Reads (Value.int .i64) w v l) :
    Calls Try.prog 26 #[.int .i64 base, .int .i64 to, v] w fun e w' => ∃ u, e = .returned u ∧
      w'.ownsRow w.heap.size 3 1 u (missed l (win base ((to - base) % 128).toNat)).length ((missed l (win base ((to - base) % 128).toNat)).map (Value.int .i64)) ∧ Below w.heap.size w w' := by
  obtain ⟨i0, hi, hz0, hz1, hz2⟩ := info_parts infoInt
  go_enter Try.func26, Try.ntmps26
  go_wp2_with fail
  refine (rreduce_any _ _).mono ?_
  rintro e w' ⟨rfl, rfl⟩
  go_wp2_with fail
  go_loopw [7, 8] (fun u n wr => ∃ i : Nat, (i : Int) ≤ (to - base) % 128 ∧ n = .int .i64 ((base + (i : Int)) % 128) ∧ wr.ownsRow w.heap.size 3 1 u (missed l (win base i)).length ((missed l (win base i)).map (Value.int .i64)) ∧ Below w.heap.size w wr)
    (fun _ n _ => ((to - intOf n) % 128).toNat)
  case atStart => exact ⟨0, by omega, by simp, by rw [win_zero]; exact owns_empty w _ (Nat.le_refl _), bl_alloc (bl_refl w) _⟩
  case round =>
    obtain ⟨k, hk, rfl, hown, hB⟩ := hrel
    have hsz := hB.size
    have hle := missed_le l (win base k)
    rw [win_length] at hle
    have hR := hr.below hB
    have hj0 : 0 ≤ (base + (k : Int)) % 128 := by omega
    have hj1 : (base + (k : Int)) % 128 < 128 := by omega
    clear hr
    by_cases hlt : (k : Int) < (to - base) % 128
    · have hb : ((base + (k : Int)) % 128 != to % 128) = true := by simp; omega
      have hlt' := Lib.hid hlt
      clear hlt
      cases hh : hasN l ((base + (k : Int)) % 128) with
      | false =>
        have hs : Hid (missed l (win base (k + 1)) = missed l (win base k) ++ [(base + (k : Int)) % 128]) := by unfold Hid; rw [win_succ, missed_hit l _ hh]; rfl
        have HH := Lib.hid hh
        clear hh
        go_wp2_with fail
        refine (rreduce_any _ _).mono ?_
        rintro e w' ⟨rfl, rfl⟩
        go_wp2_with fail
        refine (rhas_any _ l _ _ hR).mono ?_
        rintro e w' ⟨rfl, rfl⟩
        rw [HH.out]
        go_wp2_with (first | (at_builtin; refine wpList_append_r _ rfl _ _ 29 rfl w.heap.size 3 i0 (.int .i64 0) 8 Try.underlying29 hi hz0 hz1 hz2 rfl _ _ _ rfl (hown.alloc _) (Value.int .i64) _ [(base + (k : Int)) % 128] rfl (reads_one _ _ _ _) (by simp [Value.oneCell']) (by simp [maxLen]; omega) (by simp; omega) (by simp; omega) ?_; intro v' w2 hown' hgrow hne') | (go_at_call 21; refine (rnext_any _ _).mono ?_; rintro e w' ⟨rfl, rfl⟩))
        go_roundw
        case rel =>
          have := hlt'.out
          refine ⟨k + 1, by omega, by congr 1; omega, ?_, bl_grown (bl_alloc hB _) hgrow (owns_row_ge hown)⟩
          rw [hs.out]; simpa using hown'
        case measure => have := hlt'.out; simp [intOf]; omega
      | true =>
        have hs : Hid (missed l (win base (k + 1)) = missed l (win base k)) := by unfold Hid; rw [win_succ, missed_miss l _ hh]
        have HH := Lib.hid hh
        clear hh
        go_wp2_with fail
        refine (rreduce_any _ _).mono ?_
        rintro e w' ⟨rfl, rfl⟩
        go_wp2_with fail
        refine (rhas_any _ l _ _ hR).mono ?_
        rintro e w' ⟨rfl, rfl⟩
        rw [HH.out]
        go_wp2_with (go_at_call 21; refine (rnext_any _ _).mono ?_; rintro e w' ⟨rfl, rfl⟩)
        go_roundw
        case rel => have := hlt'.out; exact ⟨k + 1, by omega, by congr 1; omega, by rw [hs.out]; exact hown, hB⟩
        case measure => have := hlt'.out; simp [intOf]; omega
    · have hb : ((base + (k : Int)) % 128 != to % 128) = false := by simp; omega
      have hkk : Hid (((to - base) % 128).toNat = k) := by unfold Hid; omega
      clear hlt
      go_wp2_with fail
      refine (rreduce_any _ _).mono ?_
      rintro e w' ⟨rfl, rfl⟩
      go_wp2
      go_ret
      exact ⟨_, rfl, by rw [hkk.out]; exact hown, hB⟩

end Go.Proofs.Ytchghjghkemamaa
