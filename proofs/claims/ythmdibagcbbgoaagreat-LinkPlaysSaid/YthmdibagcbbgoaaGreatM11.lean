/- Contracts of the reference functions of layer 6 on lists: Each, Has, Sort, Missing. The contract of sender.Under. Colours of blocks: which part of a thing each block belongs to; rows of payloads of a colour. No program in sight. The contract of sender.Reset. Conditions: as they stand. -/
import Derived.WalkKit
import Derived.Lib.Hide
import Derived.Maps.AppendAt
import Derived.Test.YthmdibagcbbgoaaGreatM10
import Derived.Test.YthmdibagcbbgoaaGreatM04
import Derived.Test.YthmdibagcbbgoaaGreatM00
import Derived.RangeFuncNested
import Derived.RangeFuncBound
import Derived.RangeFuncCalls
import Derived.RangeFuncLeaves
import Derived.Shelf.Abstract
import Derived.Shelf.RegionOpen
import Derived.OwnWalkIn
import Derived.TacticsInMore
import Derived.LoopNIn
import Derived.LoopIn
import Derived.Stop.RegionWithIn
import Derived.Deep.RegionHeld3
import Derived.Test.YthmdibagcbbgoaaGreatM03
import Derived.Test.YthmdibagcbbgoaaGreatM08
import Derived.Test.YthmdibagcbbgoaaGreatM07
namespace Go.Proofs.YthmdibagcbbgoaaGreat
open Go.RowKit

def vals (l : List N7) : List Int := l.map (·.1)

theorem hasN_take {l : List Int} {k : Nat} {x : Int} (hx : l[k]? = some x) (j : Int) : hasN (l.take (k + 1)) j = (hasN (l.take k) j || x % 128 == j) := by
  rw [take_snoc' hx, hasN_snoc]

set_option maxHeartbeats 1000000 in
theorem rhas_any (v : Value) (l : List Int) (j : Int) (w : World) (hr : Reads (Value.int .i64) w v l) :
    Calls Tryz.prog 101 #[v, .int .i64 j] w fun e w' => e = .returned (.bool (hasN l j)) ∧ w = w' := by
  obtain ⟨hm, ao, cap, rfl, _, hc⟩ := hr
  unfold maxLen at hm
  go_enter Tryz.func101, Tryz.ntmps101
  go_wp2
  go_loop [5] (fun k => ∃ i : Nat, i ≤ l.length ∧ k = .int .i64 i ∧ Hid (hasN (l.take i) j = false)) (fun k => l.length - (intOf k).toNat)
  case atStart => exact ⟨0, by omega, rfl, rfl⟩
  case round =>
    obtain ⟨k, hk, rfl, hH⟩ := hrel
    by_cases hlt : k < l.length
    · obtain ⟨b, o, x, rfl, hx, hcx⟩ := cell_nth hc hlt
      clear hc
      by_cases he : x % 128 = j
      · have hb : (x % 128 == j) = true := by simpa using he
        have hfin : Hid (hasN l j = true) := by
          have : x ∈ l := List.mem_of_getElem? hx.out
          unfold Hid hasN
          rw [List.any_eq_true]
          exact ⟨x, this, hb⟩
        clear he
        go_wp2_with (go_at_call 85; refine (rreduce_any _ _).mono ?_; rintro e w' ⟨rfl, rfl⟩)
        go_ret
        exact ⟨ret_bool hfin.out.symm, rfl⟩
      · have hb : (x % 128 == j) = false := by simpa using he
        have hfin : Hid (hasN (l.take (k + 1)) j = false) := by
          unfold Hid; rw [hasN_take hx.out, hH.out, hb]; rfl
        clear he
        go_wp2_with (go_at_call 85; refine (rreduce_any _ _).mono ?_; rintro e w' ⟨rfl, rfl⟩)
        go_round
        case rel => exact ⟨k + 1, by omega, by go_num, hfin⟩
        case measure => simp [intOf]; omega
    · obtain rfl : k = l.length := by omega
      clear hc
      rw [List.take_length] at hH
      go_wp2
      go_ret
      exact ⟨ret_bool hH.out.symm, rfl⟩

set_option maxRecDepth 100000 in
set_option maxHeartbeats 1000000 in
theorem reach_any (base size : Int) (w : World) :
    Calls Tryz.prog 114 #[.int .i64 base, .int .i64 size] w fun e w' => ∃ u, e = .returned u ∧
      w'.ownsRow w.heap.size 3 1 u (vals (win base (winLen size))).length ((vals (win base (winLen size))).map (Value.int .i64)) ∧ Below w.heap.size w w' := by
  obtain ⟨i0, hi, hz0, hz1, hz2⟩ := info_parts infoInt
  have hm2 := winLen_le size
  have hq : (128 ≤ size ∧ 128 ≤ winLen size) ∨ (0 < size ∧ size ≤ 128 ∧ size ≤ (winLen size : Int) ∧ (winLen size : Int) ≤ size) ∨ (size ≤ 0 ∧ winLen size ≤ 0) := by unfold winLen; omega
  go_enter Tryz.func114, Tryz.ntmps114
  go_wp2_with (go_at_call 85; refine (rreduce_any _ _).mono ?_; rintro e w' ⟨rfl, rfl⟩)
  go_loopw [5, 6, 7] (fun v n k wr => ∃ i : Nat, i ≤ winLen size ∧ k = .int .i64 i ∧ n = .int .i64 ((base + (i : Int)) % 128) ∧ wr.ownsRow w.heap.size 3 1 v (vals (win base i)).length ((vals (win base i)).map (Value.int .i64)) ∧ Below w.heap.size w wr)
    (fun _ _ k _ => winLen size - (intOf k).toNat)
  case atStart => exact ⟨0, by omega, rfl, by simp, by rw [win_zero]; exact owns_empty w _ (Nat.le_refl _), bl_alloc (bl_refl w) _⟩
  case round =>
    obtain ⟨k, hk, rfl, rfl, hown, hB⟩ := hrel
    have hlen : (vals (win base k)).length ≤ 128 := by simp [vals, win_length]; omega
    have hvs : Hid (vals (win base (k + 1)) = vals (win base k) ++ [(base + (k : Int)) % 128]) := by unfold Hid; rw [win_succ]; simp [vals, red]
    by_cases hlt : k < winLen size
    · have hs := hB.size
      have h1 : (k : Int) < 128 := by omega
      have h2 : (k : Int) < size := by omega
      go_wp2_with (first
        | (at_builtin; refine wpList_append_own _ rfl _ _ 33 rfl w.heap.size 3 i0 (.int .i64 0) 1 8 Tryz.underlying33 hi hz0 hz1 hz2 rfl (by decide) _ _ _ rfl (hown.alloc _) ⟨wr.heap.size, 0, none⟩ 1 1 [.int .i64 ((base + (k : Int)) % 128)] rfl rfl (cell_one_new _ _ _) (by simp [Value.oneCell']) (by unfold maxLen; omega) (by omega) (by simp; omega) ?_; intro v' w1 hown' hgrow _)
        | (go_at_call 99; refine (rnext_any _ _).mono ?_; rintro e w' ⟨rfl, rfl⟩))
      go_roundw
      case rel =>
        refine ⟨k + 1, by omega, by go_num, by congr 1; omega, ?_, bl_grown (bl_alloc hB _) hgrow (owns_row_ge hown)⟩
        rw [hvs.out]
        simpa using hown'
      case measure => simp [intOf]; omega
    · by_cases hs : (k : Int) < size
      · have h1 : ¬ (k : Int) < 128 := by omega
        go_wp2
        go_ret
        exact ⟨_, rfl, by rw [show winLen size = k by omega]; exact hown, hB⟩
      · go_wp2
        go_ret
        exact ⟨_, rfl, by rw [show winLen size = k by omega]; exact hown, hB⟩

theorem vals_get {l : List N7} {k : Nat} (h : k < (vals l).length) : ∃ x : N7, l[k]? = some x ∧ (vals l)[k]? = some x.1 := by
  have h' : k < l.length := by simpa [vals] using h
  exact ⟨l[k], List.getElem?_eq_getElem h', by simp [vals, h']⟩

set_option maxRecDepth 100000 in
set_option maxHeartbeats 1000000 in
theorem rsort_any (base : Int) (v : Value) (l : List Int) (w : World) (hr : Reads (Value.int .i64) w v l) :
    Calls Tryz.prog 111 #[.int .i64 base, v] w fun e w' => ∃ u, e = .returned u ∧
      w'.ownsRow w.heap.size 3 1 u (sorted l (win base 128)).length ((sorted l (win base 128)).map (Value.int .i64)) ∧ Below w.heap.size w w' := by
  obtain ⟨i0, hi, hz0, hz1, hz2⟩ := info_parts infoInt
  have hw128 : Hid ((win base 128).length = 128) := win_length _ _
  have hre := reach_any base 128
  rw [winLen128] at hre
  obtain ⟨ww, hww⟩ : ∃ ww, win base 128 = ww := ⟨_, rfl⟩
  rw [hww] at hre hw128 ⊢
  clear hww
  have hlv : (vals ww).length = 128 := by simp [vals, hw128.out]
  have HRE := Lib.hid hre
  clear hre
  go_enter Tryz.func111, Tryz.ntmps111
  go_wp2_with fail
  refine (HRE.out _).mono ?_
  rintro e w1 ⟨ua, rfl, hall, hb1⟩
  have hB1 : Below w.heap.size w w1 := bl_trans (bl_alloc (bl_refl w) _) hb1
  have hE : w1.ownsRow w.heap.size 3 1 (.slice (some ⟨w.heap.size, 0, none⟩) 0 0) 0 [] :=
    (owns_empty w 3 (Nat.le_refl w.heap.size)).kept (w' := w1) (row := none) ⟨hb1.os, hb1.tape, hb1.output, hb1.size, fun k hk _ => hb1.block k hk⟩ (.inr (by simp [Value.ownBlock]))
  obtain ⟨g, cap, cur, rfl, hge, hg, hcur⟩ := owns_block hall (by omega)
  have hne0 : some g ≠ Value.ownBlock (.slice (some ⟨w.heap.size, 0, none⟩) 0 0) := by simp at hge; simp [Value.ownBlock]; omega
  clear hall hb1 HRE
  rw [hlv]
  clear hlv
  go_wp2_with fail
  go_loopw [5, 7] (fun u k wr => ∃ i : Nat, i ≤ 128 ∧ k = .int .i64 i ∧ wr.ownsRow w.heap.size 3 1 u (sorted l (ww.take i)).length ((sorted l (ww.take i)).map (Value.int .i64)) ∧ Below w.heap.size w wr ∧ wr.heap[g]? = some (.cells cur 3 (0, 0)) ∧ some g ≠ u.ownBlock)
    (fun _ k _ => 128 - (intOf k).toNat)
  case atStart => exact ⟨0, by omega, rfl, by simpa [sorted] using hE, hB1, hg, hne0⟩
  case round =>
    obtain ⟨k, hk, rfl, hown, hB, hgr, hne⟩ := hrel
    clear hE hg hne0 hB1
    by_cases hlt : k < 128
    · obtain ⟨x, hx⟩ : ∃ x, ww[k]? = some x := get_some (by rw [hw128.out]; exact hlt)
      have hcx : wr.cell? ⟨g, k, none⟩ = some (.int .i64 x.1) := by
        rw [cell_of_row _ _ _ _ _ _ hgr]
        exact hcur k x.1 (by simp [vals, hx])
      have hsz := hB.size
      have hgl := lt_of_get hgr
      have hle := sorted_le l (ww.take k)
      have hle2 : (ww.take k).length ≤ k := List.length_take_le _ _
      have hR := hr.below hB
      have hx := Lib.hid hx
      clear hcur hr
      cases hh : hasN l x.1 with
      | true =>
        have hs : Hid (sorted l (ww.take (k + 1)) = sorted l (ww.take k) ++ [x.1]) := by unfold Hid; rw [take_snoc' hx.out, sorted_hit l _ hh]
        have HH := Lib.hid hh
        clear hh
        go_wp2_with fail
        refine (rhas_any _ l _ _ hR).mono ?_
        rintro e w' ⟨rfl, rfl⟩
        rw [HH.out]
        go_wp2_with (at_builtin; refine wpList_append_r _ rfl _ _ 33 rfl w.heap.size 3 i0 (.int .i64 0) 8 Tryz.underlying33 hi hz0 hz1 hz2 rfl _ _ _ rfl (hown.alloc _) (Value.int .i64) _ [x.1] rfl (reads_one _ _ _ _) (by simp [Value.oneCell']) (by simp [maxLen]; omega) (by simp; omega) (by simp; omega) ?_; intro v' w2 hown' hgrow hne')
        go_roundw
        case rel =>
          refine ⟨k + 1, by omega, by go_num, ?_, bl_grown (bl_alloc hB _) hgrow (owns_row_ge hown), kept_block (kept_alloc hgr _) hgrow hne, hne' g (by simp; omega) hne⟩
          rw [hs.out]; simpa using hown'
        case measure => simp [intOf]; omega
      | false =>
        have hs : Hid (sorted l (ww.take (k + 1)) = sorted l (ww.take k)) := by unfold Hid; rw [take_snoc' hx.out, sorted_miss l _ hh]
        have HH := Lib.hid hh
        clear hh
        go_wp2_with fail
        refine (rhas_any _ l _ _ hR).mono ?_
        rintro e w' ⟨rfl, rfl⟩
        rw [HH.out]
        go_wp2
        go_roundw
        case rel => exact ⟨k + 1, by omega, by go_num, by rw [hs.out]; exact hown, hB, hgr, hne⟩
        case measure => simp [intOf]; omega
    · obtain rfl : k = 128 := by omega
      rw [List.take_of_length_le (by rw [hw128.out]; omega)] at hown
      go_wp2
      go_ret
      exact ⟨_, rfl, hown, hB⟩

set_option maxRecDepth 100000 in
set_option maxHeartbeats 1000000 in
theorem rmissing_any (base to : Int) (v : Value) (l : List Int) (w : World) (hr : Reads (Value.int .i64) w v l) :
    Calls Tryz.prog 108 #[.int .i64 base, .int .i64 to, v] w fun e w' => ∃ u, e = .returned u ∧
      w'.ownsRow w.heap.size 3 1 u (missed l (win base ((to - base) % 128).toNat)).length ((missed l (win base ((to - base) % 128).toNat)).map (Value.int .i64)) ∧ Below w.heap.size w w' := by
  obtain ⟨i0, hi, hz0, hz1, hz2⟩ := info_parts infoInt
  go_enter Tryz.func108, Tryz.ntmps108
  go_wp2_with fail
  refine (rreduce_any _ _).mono ?_
  rintro e w' ⟨rfl, rfl⟩
  go_wp2_with fail
  go_loopw [7, 8] (fun u n wr => ∃ i : Nat, (i : Int) ≤ (to - base) % 128 ∧ n = .int .i64 ((base + (i : Int)) % 128) ∧ wr.ownsRow w.heap.size 3 1 u (missed l (win base i)).length ((missed l (win base i)).map (Value.int .i64)) ∧ Below w.heap.size w wr)
    (fun _ n _ => ((to - intOf n) % 128).toNat)
  case atStart => exact ⟨0, by omega, by simp, by rw [win_zero]; exact owns_empty w _ (Nat.le_refl _), bl_alloc (bl_refl w) _⟩
  case round =>
    obtain ⟨k, hk, rfl, hown, hB⟩ := hrel
    have hsz := hB.size
    have hle := missed_le l (win base k)
    rw [win_length] at hle
    have hR := hr.below hB
    have hj0 : 0 ≤ (base + (k : Int)) % 128 := by omega
    have hj1 : (base + (k : Int)) % 128 < 128 := by omega
    clear hr
    by_cases hlt : (k : Int) < (to - base) % 128
    · have hb : ((base + (k : Int)) % 128 != to % 128) = true := by simp; omega
      have hlt' := Lib.hid hlt
      clear hlt
      cases hh : hasN l ((base + (k : Int)) % 128) with
      | false =>
        have hs : Hid (missed l (win base (k + 1)) = missed l (win base k) ++ [(base + (k : Int)) % 128]) := by unfold Hid; rw [win_succ, missed_hit l _ hh]; rfl
        have HH := Lib.hid hh
        clear hh
        go_wp2_with fail
        refine (rreduce_any _ _).mono ?_
        rintro e w' ⟨rfl, rfl⟩
        go_wp2_with fail
        refine (rhas_any _ l _ _ hR).mono ?_
        rintro e w' ⟨rfl, rfl⟩
        rw [HH.out]
        go_wp2_with (first | (at_builtin; refine wpList_append_r _ rfl _ _ 33 rfl w.heap.size 3 i0 (.int .i64 0) 8 Tryz.underlying33 hi hz0 hz1 hz2 rfl _ _ _ rfl (hown.alloc _) (Value.int .i64) _ [(base + (k : Int)) % 128] rfl (reads_one _ _ _ _) (by simp [Value.oneCell']) (by simp [maxLen]; omega) (by simp; omega) (by simp; omega) ?_; intro v' w2 hown' hgrow hne') | (go_at_call 99; refine (rnext_any _ _).mono ?_; rintro e w' ⟨rfl, rfl⟩))
        go_roundw
        case rel =>
          have := hlt'.out
          refine ⟨k + 1, by omega, by congr 1; omega, ?_, bl_grown (bl_alloc hB _) hgrow (owns_row_ge hown)⟩
          rw [hs.out]; simpa using hown'
        case measure => have := hlt'.out; simp [intOf]; omega
      | true =>
        have hs : Hid (missed l (win base (k + 1)) = missed l (win base k)) := by unfold Hid; rw [win_succ, missed_miss l _ hh]
        have HH := Lib.hid hh
        clear hh
        go_wp2_with fail
        refine (rreduce_any _ _).mono ?_
        rintro e w' ⟨rfl, rfl⟩
        go_wp2_with fail
        refine (rhas_any _ l _ _ hR).mono ?_
        rintro e w' ⟨rfl, rfl⟩
        rw [HH.out]
        go_wp2_with (go_at_call 99; refine (rnext_any _ _).mono ?_; rintro e w' ⟨rfl, rfl⟩)
        go_roundw
        case rel => have := hlt'.out; exact ⟨k + 1, by omega, by congr 1; omega, by rw [hs.out]; exact hown, hB⟩
        case measure => have := hlt'.out; simp [intOf]; omega
    · have hb : ((base + (k : Int)) % 128 != to % 128) = false := by simp; omega
      have hkk : Hid (((to - base) % 128).toNat = k) := by unfold Hid; omega
      clear hlt
      go_wp2_with fail
      refine (rreduce_any _ _).mono ?_
      rintro e w' ⟨rfl, rfl⟩
      go_wp2
      go_ret
      exact ⟨_, rfl, by rw [hkk.out]; exact hown, hB⟩

end Go.Proofs.YthmdibagcbbgoaaGreat

namespace Go.Proofs.YthmdibagcbbgoaaGreat
open Go.RowKit Go.Shelf
attribute [local go_sem] Oper.semAt_some

set_option maxRecDepth 100000 in
set_option maxHeartbeats 1000000 in
theorem under_cells (a size base under : Nat) (av : Value) (w : World) (hb : w.heap[a]? = some (.cells #[.int .i64 size, .int .i64 base, av, .int .i64 under] 86 (0, 0))) (hu : under ≤ 63) :
    Calls Tryz.prog 48 #[.pointer (some ⟨a, 0, none⟩)] w fun e w' => ∃ u, e = .returned u ∧
      w'.ownsRow w.heap.size 3 1 u (vals (win base under)).length ((vals (win base under)).map (Value.int .i64)) ∧ Below w.heap.size w w' := by
  obtain ⟨i0, hi, hz0, hz1, hz2⟩ := info_parts infoInt
  obtain ⟨c0, c1, c2, c3⟩ := cells_of4 hb
  refine (callsIn_wide (n := 9)).1 ?_
  refine callsIn_of_wp_marks Tryz.func48 rfl trivial ?_ rfl
  simp only [Tryz.ntmps48, List.size_toArray, List.length_cons, List.length_nil, Nat.reduceAdd, Nat.reduceSub, Array.replicate_succ, Array.replicate_zero, List.push_toArray, List.append_toArray, List.nil_append, List.cons_append]
  gi_wp2_with fail
  have c1 : ∀ o' : Obj, (w.alloc o').cell? ⟨a, 1, none⟩ = some (.int .i64 base) := fun o' => below_cell (bl_alloc (bl_refl w) o') c1
  have c3 : ∀ o' : Obj, (w.alloc o').cell? ⟨a, 3, none⟩ = some (.int .i64 under) := fun o' => below_cell (bl_alloc (bl_refl w) o') c3
  refine Code.wpIn_mono NoPanic.imp ?_
  gi_region_with (refine ⟨trivial, ?_⟩; gi_at_call 68; refine (callsIn_wide.2 (each_in _ _ _)).mono ?_; rintro e w' ⟨rfl, rfl⟩)
  all_goals
    refine NoPanic.normal ?_
    gi_wp2_with fail
    obtain ⟨W0, hW0⟩ : ∃ W0, (((w.alloc (.cells #[.slice none 0 0] 33)).alloc (.cells #[.int .i64 base] 3)).alloc (.cells #[.int .i64 under] 3)).drew = W0 := ⟨_, rfl⟩
    have bO : Boxed W0 w.heap.size 33 (.slice none 0 0) := by
      subst hW0; exact ((Boxed.new w 33 (.slice none 0 0)).alloc _).alloc _
    have bB : Boxed W0 (w.heap.size + 1) 3 (.int .i64 base) := by
      subst hW0; have := Boxed.new (w.alloc (.cells #[.slice none 0 0] 33)) 3 (.int .i64 base); rw [World.size_alloc] at this; exact this.alloc _
    have bS : Boxed W0 (w.heap.size + 2) 3 (.int .i64 under) := by
      subst hW0; have := Boxed.new ((w.alloc (.cells #[.slice none 0 0] 33)).alloc (.cells #[.int .i64 base] 3)) 3 (.int .i64 under); rw [World.size_alloc, World.size_alloc] at this; exact this
    have hsz : W0.heap.size = w.heap.size + 3 := by subst hW0; show ((((w.alloc _).alloc _).alloc _).heap.size) = _; simp
    have hB0 : Below w.heap.size w W0 := by subst hW0; exact bl_drew (bl_alloc (bl_alloc (bl_alloc (bl_refl w) _) _) _)
    rw [hW0]
    clear hW0 c0 c1 c2 c3 hb
    refine wpIn_rangeFunc_ownG rfl (by decide) (gf := 89) (lb := #[.pointer (some ⟨w.heap.size + 1 + 1, 0, none⟩), .pointer (some ⟨w.heap.size + 1, 0, none⟩)]) rfl trivial (enters_of Tryz.func89 (by kernel_rfl) rfl)
      (each_stops 8 (by decide) (w.heap.size + 1) (w.heap.size + 2) base under W0 bB.cell bS.cell) KeepB.trans (keepB_put (by omega)) (Below.refl _ _) (fun _ => rfl)
      (fun pre W => (∃ u, Boxed W w.heap.size 33 u ∧ W.ownsRow W0.heap.size 3 1 u (vals pre).length ((vals pre).map (Value.int .i64)) ∧ True) ∧ Below w.heap.size w W ∧ W0.heap.size ≤ W.heap.size)
      (fun _ _ _ => False)
      (OwnFrom.and (Own.from (holdsRow_own W0.heap.size w.heap.size 33 3 1 (fun pre => (vals pre).length) (fun pre => (vals pre).map (Value.int .i64)) (fun _ _ => True)) _)
        (OwnFrom.and (ownFrom_below (Nat.le_refl _) (by omega)) (fun _ _ _ _ hs hg _ => Nat.le_trans hs hg.size)))
      (fun _ _ _ _ _ hs _ _ => hs)
      ⟨⟨_, bO, World.ownsRow_nil _ _ _ _, trivial⟩, hB0, Nat.le_refl _⟩
      (fun x => { tmps := #[Value.pointer (some { block := a, off := 0 }), undef, Value.slice none 0 0,
            Value.pointer (some { block := w.heap.size, off := 0 }), .int .i64 x.1, Value.pointer (some { block := a, off := 0 }),
            Value.bool false, Value.pointer (some { block := a, off := 0 }),
            Value.pointer (some { block := a, off := 0 }), Value.pointer (some { block := a, off := 1 }),
            Value.int IntKind.i64 base, Value.pointer (some { block := a, off := 0 }),
            Value.pointer (some { block := a, off := 0 }), Value.pointer (some { block := a, off := 3 }),
            Value.int IntKind.i64 under,
            Value.func (Fn.func 89) #[]
              #[Value.pointer (some { block := w.heap.size + 1 + 1, off := 0 }),
                Value.pointer (some { block := w.heap.size + 1, off := 0 })],
            .int .i64 x.1, undef, undef, undef, undef, undef], defers := [] }) ?assign ?body ?done ?stop
    case assign =>
      intro r x W K hK
      gi_wp2
      exact hK
    case body =>
      rintro r pre x W ⟨⟨u, hv, hrow, _⟩, hB, hz⟩ hlt
      have hc := hv.cell
      have hpl : (vals pre).length ≤ 128 := by
        have h1 : pre.length < winLen under := hlt
        have h2 := winLen_le (under : Int)
        simp [vals]; omega
      gi_wp2_with (gi_at_builtin; refine wpListIn_append_own _ rfl _ _ 33 rfl W0.heap.size 3 i0 (.int .i64 0) 1 8 Tryz.underlying33 hi hz0 hz1 hz2 rfl (by decide) _ _ _ rfl (hrow.alloc _) ⟨W.heap.size, 0, none⟩ 1 1 [.int .i64 x.1] rfl rfl (cell_one_new _ _ _) (by simp [Value.oneCell']) (by unfold maxLen; omega) (by omega) (by simp; omega) ?_; intro v' w2 hown' hgrow _; obtain ⟨g', cap', rfl⟩ := ownsRow_succ hown'; obtain ⟨hv1, hv2, hr2, hk2, hb2, hkk⟩ := boxed_app (n₀ := w.heap.size) hv (by decide) hrow (by omega) (by omega) hown' hgrow; have hc1 := hv1.cell; have hf1 := hv1.frozen)
      exact ⟨hk2.from _, hkk _ (by omega) (by omega) (by omega), ⟨_, hv2, by simpa [vals] using hr2, trivial⟩, hB.trans hb2, Nat.le_trans hz hk2.size⟩
    case done =>
      rintro D ys W hD hys ⟨⟨u, hv, hrow, _⟩, hB, hz⟩ hK
      subst hys
      have hc := hv.cell
      have hwl : winLen under = under := by unfold winLen; omega
      rw [hwl] at hrow
      gi_wp2
      refine ⟨by simp, .inl ⟨_, _, rfl, run_takeDeferred hK, ?_⟩⟩
      exact ⟨_, results_tmp rfl _ _ _, u, rfl, ownsRow_mono (ownsRow_putObj hrow _ hK rfl) (by omega), hB.trans (belowK_b (w := w) (Nat.le_refl _) W D _ _ (by omega) hK rfl rfl)⟩
    case stop =>
      rintro D c pre W _ _ h _
      exact h.elim

/-- The numbers under way. -/
def Snd.unders (s : Snd) : List Int := vals (win s.base s.under)
theorem sunder_any (F : Nat → Prop) (a : Nat) (s : Snd) (hok : s.Ok) (w : World) (hs : SndAt F w a s) :
    Calls Tryz.prog 48 #[.pointer (some ⟨a, 0, none⟩)] w fun e w' => ∃ u, e = .returned u ∧ Rd (fun k => w.heap.size ≤ k) (Value.int .i64) w' u s.unders ∧ Below w.heap.size w w' := by
  obtain ⟨h1, h2, av, vs, D, hb, hA, hl, hav, hD, hp⟩ := hs
  have hu : s.under ≤ 63 := Nat.le_trans hok.under2 hok.size2
  refine (under_cells a s.size s.base s.under av w hb hu).mono ?_
  rintro e w' ⟨u, rfl, hO, hB⟩
  exact ⟨u, rfl, (Rd.of_owns hO (by simp [vals, win_length, maxLen]; omega)).mono (fun k hk => hk.1), hB⟩

end Go.Proofs.YthmdibagcbbgoaaGreat

namespace Go.Proofs.YthmdibagcbbgoaaGreat
open Go.RowKit

/-- New blocks get the colour n. -/
def paint (col : Nat → Nat) (w w' : World) (n : Nat) : Nat → Nat := fun k => if w.heap.size ≤ k ∧ k < w'.heap.size then n else col k
theorem paint_old {col : Nat → Nat} {w w' : World} {n k : Nat} (h : k < w.heap.size) : paint col w w' n k = col k := by unfold paint; rw [if_neg (by omega)]
theorem paint_new {col : Nat → Nat} {w w' : World} {n k : Nat} (h : w.heap.size ≤ k) (h2 : k < w'.heap.size) : paint col w w' n k = n := by unfold paint; rw [if_pos ⟨h, h2⟩]
def Cols (B : Nat) (col : Nat → Nat) (w : World) : Prop := B ≤ w.heap.size ∧ ∀ k, col k ≠ 0 → B ≤ k ∧ k < w.heap.size
section
variable {B : Nat} {col : Nat → Nat} {w w' : World} {c n : Nat}
theorem Cols.paint (h : Cols B col w) (hs : w.heap.size ≤ w'.heap.size) : Cols B (paint col w w' n) w' := by
  refine ⟨Nat.le_trans h.1 hs, fun k hk => ?_⟩
  have h1 := h.1
  by_cases hn : w.heap.size ≤ k ∧ k < w'.heap.size
  · exact ⟨by omega, hn.2⟩
  · unfold Go.Proofs.YthmdibagcbbgoaaGreat.paint at hk
    rw [if_neg hn] at hk
    have := h.2 k hk
    exact ⟨this.1, by omega⟩
theorem Cols.keep (h : Cols B col w) {k : Nat} (hk : col k = c) (hc : c ≠ 0) : Go.Proofs.YthmdibagcbbgoaaGreat.paint col w w' n k = c := by rw [paint_old (h.2 k (by omega)).2]; exact hk
theorem Cols.grow (h : Cols B col w) (hs : w.heap.size ≤ w'.heap.size) : Cols B col w' := ⟨Nat.le_trans h.1 hs, fun k hk => by have := h.2 k hk; omega⟩
theorem Cols.bl (h : Cols B col w) (hc : c ≠ 0) (hf : Fr (fun k => col k = c) w w') : Below B w w' :=
  ⟨hf.os, hf.tape, hf.output, hf.size, fun k hk => hf.block k (Nat.lt_of_lt_of_le hk h.1) fun e => by have := (h.2 k (by omega)).1; omega⟩
end
theorem SndAt.mono {F G : Nat → Prop} {w : World} {a : Nat} {s : Snd} (h : SndAt F w a s) (hs : ∀ k, F k → G k) (hG : ∀ k, G k → k < w.heap.size) : SndAt G w a s := by
  obtain ⟨h1, h2, av, vs, D, hb, hA, hl, hav, hD, hp⟩ := h
  exact ⟨hG, hs _ h2, av, vs, D, hb, hA, hl, fun k hk => ⟨hs _ (hav k hk).1, (hav k hk).2⟩, fun k hk => ⟨hs _ (hD k hk).1, (hD k hk).2⟩, hp⟩

/-- A row of its own of the colour c, its payloads of the colour 7. -/
def RowsAt (B : Nat) (col : Nat → Nat) (c : Nat) (w : World) (v : Value) (ps : List (List Int)) : Prop :=
  ∃ vs : List Value, vs.length = ps.length ∧ w.ownsRow B 44 1 v vs.length vs ∧ (∀ k, v.ownBlock = some k → col k = c) ∧ ∀ (i : Nat) (x : Value) (p : List Int), vs[i]? = some x → ps[i]? = some p → Byt (fun k => col k = 7) w x p
section
variable {B : Nat} {col : Nat → Nat} {w w' : World} {c n d : Nat} {v : Value} {ps : List (List Int)} {l : List (Int × List Int)}
theorem RowsAt.turn (h : RowsAt B col d w v ps) (hC : Cols B col w) (hf : Fr (fun k => col k = c) w w') (hd : d ≠ c) (h7 : c ≠ 7) (hd0 : d ≠ 0) : RowsAt B (paint col w w' n) d w' v ps := by
  obtain ⟨vs, h1, h2, h3, h4⟩ := h
  exact ⟨vs, h1, own_fr8 h2 hf (fun k hk e => hd ((h3 k hk).symm.trans e)), fun k hk => hC.keep (h3 k hk) hd0, fun i x p hx hp => ((h4 i x p hx hp).fr hf (fun k hk e => h7 (e.symm.trans hk))).mono fun k hk => hC.keep hk (by omega)⟩
theorem snd_turn {a : Nat} {s : Snd} (h : SndAt (fun k => col k = 2) w a s) (hC : Cols B col w) (hf : Fr (fun k => col k = c) w w') (hc : c ≠ 2) : SndAt (fun k => paint col w w' n k = 2) w' a s :=
  (h.fr hf (fun k hk e => hc (e.symm.trans hk))).mono (fun k hk => hC.keep hk (by omega)) (fun k hk => ((hC.paint (n := n) hf.size).2 k (by omega)).2)
theorem rcv_turn {a : Nat} {r : Rcv} (h : RcvAt (fun k => col k = 3) (fun k => col k = 7) w a r) (hC : Cols B col w) (hf : Fr (fun k => col k = c) w w') (hc : c ≠ 3) (h7 : c ≠ 7) : RcvAt (fun k => paint col w w' n k = 3) (fun k => paint col w w' n k = 7) w' a r :=
  (h.fr hf (fun k hk e => by rcases hk with hk | hk; exact hc (e.symm.trans hk); exact h7 (e.symm.trans hk))).mono (fun k hk => hC.keep hk (by omega)) (fun k hk => hC.keep hk (by omega)) (fun k hk e => by omega)
end

section
variable {B : Nat} {col : Nat → Nat} {w w' : World} {c d : Nat} {v : Value} {ps : List (List Int)} {l : List (Int × List Int)} {G : Nat → Prop}
theorem RowsAt.fr (h : RowsAt B col d w v ps) (hf : Fr G w w') (hd : ∀ k, col k = d ∨ col k = 7 → ¬ G k) : RowsAt B col d w' v ps := by
  obtain ⟨vs, h1, h2, h3, h4⟩ := h
  exact ⟨vs, h1, own_fr8 h2 hf (fun k hk => hd k (.inl (h3 k hk))), h3, fun i x p hx hp => (h4 i x p hx hp).fr hf (fun k hk => hd k (.inr hk))⟩
end
theorem fr_bl {B : Nat} {G : Nat → Prop} {w w' : World} (hf : Fr G w w') (h : ∀ k, G k → B ≤ k) (hB : B ≤ w.heap.size) : Below B w w' :=
  ⟨hf.os, hf.tape, hf.output, hf.size, fun k hk => hf.block k (Nat.lt_of_lt_of_le hk hB) fun g => by have := h k g; omega⟩
theorem set_five (W : World) (g j : Nat) (cs : Array Value) (t : TypeId) (v : Value) (h : W.heap[g]? = some (.cells cs t (0, 0))) : (W.setCell ⟨g, j, none⟩ v).heap[g]? = some (.cells (cs.setIfInBounds j v) t (0, 0)) := by
  simp [World.setCell, Array.getElem?_modify, h]
section
variable {P : Program} {ops : Array Oper} {rest : List Oper} {o : Oper} {a : Act} {Q : Exit → Act → World → Prop}
/-- append(row, l...): payloads that are in place already. -/
theorem wpList_rows (w : World) (hgd : o.guard = none) (s x : Operand) (t : TypeId)
    (ho : o.op = .call { callee := .builtin .append, args := #[s, x], argTypes := #[t, t] }) {i : TypeInfo}
    (ht : P.underlying t = some (.slice 44)) (hi : P.info? 44 = some i) (hz : i.zero = some (.slice none 0 0)) (hsize : i.size = 1) (hby : i.bytes = 24)
    {B : Nat} {col : Nat → Nat} {d : Nat} (hd : d ≠ 0) (hd7 : d ≠ 7) (hC : Cols B col w) {v : Value} {ps qs : List (List Int)} (hs : a.eval s = v) (hR : RowsAt B col d w v ps) {u : Value} (hx : a.eval x = u)
    {ys : List Value} (hr : Reads id w u ys) (hl : ys.length = qs.length) (hY : ∀ (i : Nat) (y : Value) (p : List Int), ys[i]? = some y → qs[i]? = some p → Byt (fun k => col k = 7) w y p) (hm : ps.length + qs.length ≤ 1000000)
    (h : ∀ v' w', RowsAt B (paint col w w' d) d w' v' (ps ++ qs) → Fr (fun k => col k = d) w w' → wpList P ops Q rest (a.put o.dst v') w') : wpList P ops Q (o :: rest) a w := by
  obtain ⟨vs, h1, h2, h3, h4⟩ := hR
  refine wpList_append_r w hgd s x t ho B _ i (.slice none 0 0) 24 ht hi hz hsize hby rfl v vs.length vs hs h2 id u ys hx hr (fun y hy => ?_) (by unfold maxLen; omega) (by omega) hC.1 ?_
  · obtain ⟨j, hj⟩ := List.mem_iff_getElem?.1 hy
    have hjl : j < qs.length := by rw [← hl]; exact (List.getElem?_eq_some_iff.1 hj).1
    obtain ⟨p, hp⟩ := get_some (xs := qs) (k := j) hjl
    obtain ⟨⟨⟨_, ao, cap, rfl, _⟩, _⟩, _⟩ := hY j y p hj hp
    rfl
  · intro v' w' hO hg hne
    have hF : Fr (fun k => col k = d) w w' := (Fr.refl _ w).grown hg (fun k hk => .inl (h3 k hk))
    refine h v' w' ⟨vs ++ ys, by simp [h1, hl], ?_, fun k hk => ?_, fun j y p hy hp => ?_⟩ hF
    · simpa using hO
    · by_cases hkl : k < w.heap.size
      · have h5 : v.ownBlock = some k := by
          apply Classical.byContradiction
          intro hc
          exact hne k hkl (fun e => hc e.symm) hk.symm
        exact hC.keep (h3 k h5) hd
      · exact paint_new (by omega) (hO.lt k hk).2
    · have keep : ∀ {z : Value} {q : List Int}, Byt (fun k => col k = 7) w z q → Byt (fun k => paint col w w' d k = 7) w' z q := fun hb => (hb.fr hF (fun k hk e => hd7 (e.symm.trans hk))).mono fun k hk => hC.keep hk (by omega)
      by_cases hj : j < vs.length
      · rw [List.getElem?_append_left hj] at hy
        rw [List.getElem?_append_left (by omega)] at hp
        exact keep (h4 j y p hy hp)
      · rw [List.getElem?_append_right (by omega)] at hy
        rw [List.getElem?_append_right (by omega), ← h1] at hp
        exact keep (hY _ y p hy hp)
end

end Go.Proofs.YthmdibagcbbgoaaGreat

namespace Go.Proofs.YthmdibagcbbgoaaGreat
open Go.RowKit

theorem reset_three (W : World) (g : Nat) (a b c d b' c' d' : Value) (t : TypeId) (h : W.heap[g]? = some (.cells #[a, b, c, d] t (0, 0))) : (((W.setCell ⟨g, 2, none⟩ c').setCell ⟨g, 3, none⟩ d').setCell ⟨g, 1, none⟩ b').heap[g]? = some (.cells #[a, b', c', d'] t (0, 0)) :=
  heap_set_box' _ _ _ _ _ _ (heap_set_box' _ _ _ _ _ _ (heap_set_box' _ _ _ _ _ _ h))
theorem reset_fr (W : World) (g : Nat) (b' c' d' : Value) : Fr (fun k => k = g) W (((W.setCell ⟨g, 2, none⟩ c').setCell ⟨g, 3, none⟩ d').setCell ⟨g, 1, none⟩ b') :=
  ((fr_cell W g 2 c').trans (fr_cell _ g 3 d') (fun _ h => .inl h)).trans (fr_cell _ g 1 b') (fun _ h => .inl h)

theorem sreset_any (F : Nat → Prop) (a : Nat) (s : Snd) (w : World) (hs : SndAt F w a s) :
    Calls Tryz.prog 90 #[.pointer (some ⟨a, 0, none⟩)] w fun e w' => ∃ u, e = .returned u ∧ Pays (fun k => F k ∧ k ≠ a) w' u s.ps ∧ SndAt F w' a ⟨s.size, 0, [], 0⟩ ∧ Fr (fun k => k = a) w w' := by
  obtain ⟨h1, h2, av, vs, D, hb, hA, hl, hav, hD, hp⟩ := hs
  obtain ⟨ao, cap, rfl, hcap, hcm, hnil⟩ := hA.form
  obtain ⟨c0, c1, c2, c3⟩ := cells_of4 hb
  have f1 := frozen_of' (j := 1) hb
  have f2 := frozen_of' (j := 2) hb
  have f3 := frozen_of' (j := 3) hb
  have hF := reset_fr w a (.int .i64 0) (.slice none 0 0) (.int .i64 0)
  have hb' := reset_three w a _ _ _ _ (.int .i64 0) (.slice none 0 0) (.int .i64 0) _ hb
  have HF := Lib.hid hF
  have HB := Lib.hid hb'
  have Hp := Lib.hid hp
  have Hl := Lib.hid hl
  clear hF hb' hb hp hl hcap hcm hnil
  have H1 := Lib.hid h1
  have Hav := Lib.hid hav
  have HD := Lib.hid hD
  clear h1 hav hD
  go_enter Tryz.func90, Tryz.ntmps90
  go_wp2
  go_ret
  have hs := HF.out.size
  refine ⟨_, rfl, ⟨vs, Hl.out, ⟨(hA.fr HF.out (fun k hk => (Hav.out k hk).2.1)).reads, fun k hk => ⟨(Hav.out k hk).1, (Hav.out k hk).2.1⟩⟩, fun i x p hx hq => ((Hp.out i x p hx hq).fr HF.out (fun k hk => (HD.out k hk).2)).mono (fun k hk => HD.out k hk)⟩,
    ⟨fun k hk => Nat.lt_of_lt_of_le (H1.out k hk) hs, h2, .slice none 0 0, [], fun _ => False, HB.out, ArrAt.nil _ _, rfl, fun k hk => by simp [Value.ownBlock] at hk, fun _ h => h.elim, fun i x p hx => by simp at hx⟩, HF.out⟩

end Go.Proofs.YthmdibagcbbgoaaGreat
