/- Contracts of the reference functions of layer 6 on lists: Each, Has, Sort, Missing. Conditions: none but that a list is no longer than an int can say. -/
import Derived.WalkKit
import Derived.Lib.Hide
import Derived.Maps.AppendAt
import Derived.Test.YtgfcppjahebidaaWinRef
import Derived.Test.YtgfcppjahebidaaWinMiss
import Derived.Test.YtgfcppjahebidaaApp
namespace Go.Proofs.Ytgfcppjahebidaa
open Go.RowKit

def vals (l : List N7) : List Int := l.map (·.1)

theorem hasN_take {l : List Int} {k : Nat} {x : Int} (hx : l[k]? = some x) (j : Int) : hasN (l.take (k + 1)) j = (hasN (l.take k) j || x % 128 == j) := by
  rw [take_snoc' hx, hasN_snoc]

set_option maxHeartbeats 1000000 in
theorem rhas_any (v : Value) (l : List Int) (j : Int) (w : World) (hr : Reads (Value.int .i64) w v l) :
    Calls Try.prog 21 #[v, .int .i64 j] w fun e w' => e = .returned (.bool (hasN l j)) ∧ w = w' := by
  obtain ⟨hm, ao, cap, rfl, _, hc⟩ := hr
  unfold maxLen at hm
  go_enter Try.func21, Try.ntmps21
  go_wp2
  go_loop [5] (fun k => ∃ i : Nat, i ≤ l.length ∧ k = .int .i64 i ∧ Hid (hasN (l.take i) j = false)) (fun k => l.length - (intOf k).toNat)
  case atStart => exact ⟨0, by omega, rfl, rfl⟩
  case round =>
    obtain ⟨k, hk, rfl, hH⟩ := hrel
    by_cases hlt : k < l.length
    · obtain ⟨b, o, x, rfl, hx, hcx⟩ := cell_nth hc hlt
      clear hc
      by_cases he : x % 128 = j
      · have hb : (x % 128 == j) = true := by simpa using he
        have hfin : Hid (hasN l j = true) := by
          have : x ∈ l := List.mem_of_getElem? hx.out
          unfold Hid hasN
          rw [List.any_eq_true]
          exact ⟨x, this, hb⟩
        clear he
        go_wp2_with (go_at_call 30; refine (rreduce_any _ _).mono ?_; rintro e w' ⟨rfl, rfl⟩)
        go_ret
        exact ⟨ret_bool hfin.out.symm, rfl⟩
      · have hb : (x % 128 == j) = false := by simpa using he
        have hfin : Hid (hasN (l.take (k + 1)) j = false) := by
          unfold Hid; rw [hasN_take hx.out, hH.out, hb]; rfl
        clear he
        go_wp2_with (go_at_call 30; refine (rreduce_any _ _).mono ?_; rintro e w' ⟨rfl, rfl⟩)
        go_round
        case rel => exact ⟨k + 1, by omega, by go_num, hfin⟩
        case measure => simp [intOf]; omega
    · obtain rfl : k = l.length := by omega
      clear hc
      rw [List.take_length] at hH
      go_wp2
      go_ret
      exact ⟨ret_bool hH.out.symm, rfl⟩

set_option maxRecDepth 100000 in
set_option maxHeartbeats 1000000 in
theorem reach_any (base size : Int) (w : World) :
    Calls Try.prog 36 #[.int .i64 base, .int .i64 size] w fun e w' => ∃ u, e = .returned u ∧
      w'.ownsRow w.heap.size 3 1 u (vals (win base (winLen size))).length ((vals (win base (winLen size))).map (Value.int .i64)) ∧ Below w.heap.size w w' := by
  obtain ⟨i0, hi, hz0, hz1, hz2⟩ := info_parts infoInt
  have hm2 := winLen_le size
  have hq : (128 ≤ size ∧ 128 ≤ winLen size) ∨ (0 < size ∧ size ≤ 128 ∧ size ≤ (winLen size : Int) ∧ (winLen size : Int) ≤ size) ∨ (size ≤ 0 ∧ winLen size ≤ 0) := by unfold winLen; omega
  go_enter Try.func36, Try.ntmps36
  go_wp2_with (go_at_call 30; refine (rreduce_any _ _).mono ?_; rintro e w' ⟨rfl, rfl⟩)
  go_loopw [5, 6, 7] (fun v n k wr => ∃ i : Nat, i ≤ winLen size ∧ k = .int .i64 i ∧ n = .int .i64 ((base + (i : Int)) % 128) ∧ wr.ownsRow w.heap.size 3 1 v (vals (win base i)).length ((vals (win base i)).map (Value.int .i64)) ∧ Below w.heap.size w wr)
    (fun _ _ k _ => winLen size - (intOf k).toNat)
  case atStart => exact ⟨0, by omega, rfl, by simp, by rw [win_zero]; exact owns_empty w _ (Nat.le_refl _), bl_alloc (bl_refl w) _⟩
  case round =>
    obtain ⟨k, hk, rfl, rfl, hown, hB⟩ := hrel
    have hlen : (vals (win base k)).length ≤ 128 := by simp [vals, win_length]; omega
    have hvs : Hid (vals (win base (k + 1)) = vals (win base k) ++ [(base + (k : Int)) % 128]) := by unfold Hid; rw [win_succ]; simp [vals, red]
    by_cases hlt : k < winLen size
    · have hs := hB.size
      have h1 : (k : Int) < 128 := by omega
      have h2 : (k : Int) < size := by omega
      go_wp2_with (first
        | (at_builtin; refine wpList_append_own _ rfl _ _ 41 rfl w.heap.size 3 i0 (.int .i64 0) 1 8 Try.underlying41 hi hz0 hz1 hz2 rfl (by decide) _ _ _ rfl (hown.alloc _) ⟨wr.heap.size, 0, none⟩ 1 1 [.int .i64 ((base + (k : Int)) % 128)] rfl rfl (cell_one_new _ _ _) (by simp [Value.oneCell']) (by unfold maxLen; omega) (by omega) (by simp; omega) ?_; intro v' w1 hown' hgrow _)
        | (go_at_call 40; refine (rnext_any _ _).mono ?_; rintro e w' ⟨rfl, rfl⟩))
      go_roundw
      case rel =>
        refine ⟨k + 1, by omega, by go_num, by congr 1; omega, ?_, bl_grown (bl_alloc hB _) hgrow (owns_row_ge hown)⟩
        rw [hvs.out]
        simpa using hown'
      case measure => simp [intOf]; omega
    · by_cases hs : (k : Int) < size
      · have h1 : ¬ (k : Int) < 128 := by omega
        go_wp2
        go_ret
        exact ⟨_, rfl, by rw [show winLen size = k by omega]; exact hown, hB⟩
      · go_wp2
        go_ret
        exact ⟨_, rfl, by rw [show winLen size = k by omega]; exact hown, hB⟩

theorem vals_get {l : List N7} {k : Nat} (h : k < (vals l).length) : ∃ x : N7, l[k]? = some x ∧ (vals l)[k]? = some x.1 := by
  have h' : k < l.length := by simpa [vals] using h
  exact ⟨l[k], List.getElem?_eq_getElem h', by simp [vals, h']⟩

end Go.Proofs.Ytgfcppjahebidaa
