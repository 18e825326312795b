/- The contract of sender.Ack. Written by program (gen_ack.py). The contract of sender.Again. Contracts of the reference functions of layer 6 that only compute: Reduce, Way, In, Next, for every int. Conditions: as they stand. -/
import Derived.WalkKit
import Derived.Lib.Hide
import Derived.IntWalk
import Derived.Test.YthmdibagcbbgoaaGreatM08
import Derived.Test.YthmdibagcbbgoaaGreatM09
import Derived.Test.YthmdibagcbbgoaaGreatM02
import Derived.BigQuiet
import Derived.Deep.QuietTactic
import Derived.Deep.RegionHeld3
import Derived.Deep.DrawnRows
import Derived.Test.YthmdibagcbbgoaaGreatProg
import Derived.Test.YthmdibagcbbgoaaGreatM00
namespace Go.Proofs.YthmdibagcbbgoaaGreat
open Go.RowKit

/-- What an acknowledgement is told. -/
def Snd.ackE (s : Snd) (nr : Int) : Int := if nr < 0 ∨ 127 < nr then 1 else if (s.under : Int) < (nr - s.base) % 128 then 7 else 0
def Snd.ackN (s : Snd) (nr : Int) : Nat := if s.ackE nr = 0 then ((nr - s.base) % 128).toNat else 0
def Snd.ack (s : Snd) (nr : Int) : Snd := if s.ackE nr = 0 then ⟨s.size, nr.toNat, s.ps.drop (s.ackN nr), s.under - s.ackN nr⟩ else s
theorem ackE_zero {s : Snd} {nr : Int} (h : s.ackE nr = 0) : (0 ≤ nr ∧ nr ≤ 127) ∧ (nr - s.base) % 128 ≤ s.under := by
  unfold Snd.ackE at h
  by_cases h1 : nr < 0 ∨ 127 < nr
  · rw [if_pos h1] at h; omega
  rw [if_neg h1] at h
  by_cases h2 : (s.under : Int) < (nr - s.base) % 128
  · rw [if_pos h2] at h; omega
  omega
theorem ackN_zero {s : Snd} {nr : Int} (h : s.ackE nr = 0) : (s.ackN nr : Int) = (nr - s.base) % 128 ∧ s.ackN nr ≤ s.under := by
  have := ackE_zero h
  unfold Snd.ackN
  rw [if_pos h]
  omega
theorem Snd.ack_ok {s : Snd} (h : s.Ok) (nr : Int) : (s.ack nr).Ok := by
  unfold Snd.ack
  split
  · rename_i hz
    obtain ⟨h1, h2⟩ := ackE_zero hz
    have h3 := ackN_zero hz
    exact ⟨h.size1, h.size2, by simp; omega, by have := h.under1; simp; omega, by have := h.under2; simp; omega, by have := h.len; simp; omega, fun p hp => h.pay p (List.mem_of_mem_drop hp)⟩
  · exact h

theorem ack_bad (a : Nat) (s : Snd) (ao : Option Addr) (n cap : Nat) (nr : Int) (w : World) (hb : w.heap[a]? = some (.cells #[.int .i64 s.size, .int .i64 s.base, .slice ao n cap, .int .i64 s.under] 86 (0, 0))) (h : s.ackE nr ≠ 0) :
    Calls Tryz.prog 102 #[.pointer (some ⟨a, 0, none⟩), .int .i64 nr] w fun e w' => e = .returned (.tuple #[.int .i64 0, .int .i64 (s.ackE nr)]) ∧ w = w' := by
  obtain ⟨c0, c1, c2, c3⟩ := cells_of4 hb
  unfold Snd.ackE at *
  by_cases h1 : nr < 0
  · rw [if_pos (.inl h1)] at *
    clear h
    go_enter Tryz.func102, Tryz.ntmps102
    go_wp2
    go_ret2
    exact ⟨rfl, rfl⟩
  by_cases h2 : 127 < nr
  · rw [if_pos (.inr h2)] at *
    clear h
    have h3 : 128 ≤ nr := by omega
    go_enter Tryz.func102, Tryz.ntmps102
    go_wp2
    go_ret2
    exact ⟨rfl, rfl⟩
  rw [if_neg (by omega)] at *
  by_cases h3 : (s.under : Int) < (nr - s.base) % 128
  · rw [if_pos h3] at *
    have h4 : ¬ 128 ≤ nr := by omega
    clear h h2
    go_enter Tryz.func102, Tryz.ntmps102
    go_wp2_with fail
    refine (way_any _ _ _).mono ?_
    rintro e w1 ⟨rfl, rfl⟩
    go_wp2
    go_ret2
    exact ⟨rfl, rfl⟩
  · rw [if_neg h3] at h
    exact absurd rfl h

theorem held_23 {w w' : World} {g : Nat} {a b c d : Value} {t : TypeId} (hb : w.heap[g]? = some (.cells #[a, b, c, d] t (0, 0))) (h : Below w.heap.size w w') : Below w.heap.size w w' ∧ w'.cell? ⟨g, 2, none⟩ = some c ∧ w'.cell? ⟨g, 3, none⟩ = some d :=
  ⟨h, (cells_of4 (bl_get h hb)).2.2.1, (cells_of4 (bl_get h hb)).2.2.2⟩
theorem set_three (W : World) (g : Nat) (a b c d b' c' d' : Value) (t : TypeId) (h : W.heap[g]? = some (.cells #[a, b, c, d] t (0, 0))) : (((W.setCell ⟨g, 2, none⟩ c').setCell ⟨g, 3, none⟩ d').setCell ⟨g, 1, none⟩ b').heap[g]? = some (.cells #[a, b', c', d'] t (0, 0)) :=
  heap_set_box' _ _ _ _ _ _ (heap_set_box' _ _ _ _ _ _ (heap_set_box' _ _ _ _ _ _ h))
theorem fr_three (W : World) (g : Nat) (b' c' d' : Value) : Fr (fun k => k = g) W (((W.setCell ⟨g, 2, none⟩ c').setCell ⟨g, 3, none⟩ d').setCell ⟨g, 1, none⟩ b') :=
  ((fr_cell W g 2 c').trans (fr_cell _ g 3 d') (fun _ h => .inl h)).trans (fr_cell _ g 1 b') (fun _ h => .inl h)

set_option maxRecDepth 100000 in
set_option maxHeartbeats 1000000 in
theorem ack_row (a size base under nr : Nat) (g off n m cap : Nat) (hnc : n ≤ cap) (hcm : ¬ cap = m) (vs : List Value) (w : World) (hb : w.heap[a]? = some (.cells #[.int .i64 size, .int .i64 base, .slice (some ⟨g, off, none⟩) n cap, .int .i64 under] 86 (0, 0)))
    (hA : ArrAt w 44 (.slice (some ⟨g, off, none⟩) n cap) vs) (ha : (Value.slice (some ⟨g, off, none⟩) n cap).ownBlock ≠ some a) (hnr : nr < 128) (hu : under ≤ n) (hn : n ≤ 64) (hm : Hid (((nr : Int) - base) % 128 = (m : Nat))) (hmu : m ≤ under) :
    Calls Tryz.prog 102 #[.pointer (some ⟨a, 0, none⟩), .int .i64 nr] w fun e w' => e = .returned (.tuple #[.int .i64 (m : Nat), .int .i64 0]) ∧ ∃ W : World,
      Fr (fun k => (Value.slice (some ⟨g, off, none⟩) n cap).ownBlock = some k) w W ∧ ArrAt W 44 (.slice (some ⟨g, off + m, none⟩) (n - m) (cap - m)) (vs.drop m) ∧ Fr (fun k => k = a) W w' ∧
      w'.heap[a]? = some (.cells #[.int .i64 size, .int .i64 nr, (.slice (some ⟨g, off + m, none⟩) (n - m) (cap - m)), .int .i64 ((under : Int) - (m : Nat))] 86 (0, 0)) := by
  obtain ⟨j0, hj, hy0, hy1, hy2⟩ := info_parts infoBytes
  obtain ⟨c0, c1, c2, c3⟩ := cells_of4 hb
  have e1 : (0 : Int) ≤ (nr : Int) := by omega
  have e2 : ¬ (128 : Int) ≤ (nr : Int) := by omega
  have hmu' : ¬ ((under : Int) < (m : Nat)) := by omega
  have e4 : (0 : Int) ≤ (m : Int) := by omega
  have e5 : (m : Int) ≤ (n : Int) := by omega
  have e6 : (m : Int) ≤ (cap : Int) := by omega
  have hln : vs.length = n := by
    obtain ⟨_, _, _, hv, _, _⟩ := hA.reads
    injection hv with _ h _
    exact h.symm
  have hln := Lib.hid hln
  have hA := Lib.hid hA
  go_enter Tryz.func102, Tryz.ntmps102
  go_wp2_with fail
  refine (way_any _ _ _).mono ?_
  rintro e w1 ⟨rfl, rfl⟩
  rw [hm.out]
  go_wp2_with (first | (refine wpList_clear _ rfl (.tmp 32) 29 rfl 44 j0 (.slice none 0 0) Tryz.underlying29 hj hy0 rfl (by simp [Value.cells, Value.oneCell']) (some ⟨g, off, none⟩) n m cap _ vs hA.out (by omega) rfl ?_; intro W hFW hAW; have hbW := hFW.get hb ha; have f2 := frozen_of' (j := 2) hbW))
  clear c0 c1 c2 c3
  obtain ⟨c0, c1, c2, c3⟩ := cells_of4 hbW
  have f1 := frozen_of' (j := 1) hbW
  have f3 := frozen_of' (j := 3) hbW
  try simp only [Act.put]
  rw [if_neg hcm, Option.map_some, Addr.add_lit] at hAW
  refine wp_region_order (fun w' => Below W.heap.size W w' ∧ w'.cell? ⟨a, 2, none⟩ = some (.slice (some ⟨g, off, none⟩) n cap) ∧ w'.cell? ⟨a, 3, none⟩ = some (.int .i64 under))
    [(0, 1), (1, 0), (2, 0), (3, 1), (4, 1), (5, 1), (6, 1), (7, 1), (8, 1), (9, 1), (10, 1), (11, 1), (12, 1), (13, 0), (14, 0), (15, 0), (16, 1), (17, 1)] [(18, false), (19, true), (20, true), (21, false), (22, true), (23, true), (24, false)] [18, 21, 24] [1, 2, 13, 14, 15, 19, 20, 22, 23]
    (by kernel_rfl) (fun _ _ d _ _ h => by cases d <;> exact h) (by decide +kernel) (held_23 hbW (bl_drew (bl_refl _))) ?_
  refine wpHead_take (v := ?_) rfl (by rfl) ?_ ?_
  rotate_left
  focus (rintro w1 ⟨_, _, _⟩; go_simp; try with_reducible rfl)
  simp only [Act.put, List.setIfInBounds_toArray]
  iterate 2
    refine wpHead_free (v := ?_) rfl (by rfl) ?_ ?_
    rotate_left
    focus (intro w1; go_simp; try with_reducible rfl)
    simp only [Act.put]
  iterate 10
    refine wpHead_take (v := ?_) rfl (by rfl) ?_ ?_
    rotate_left
    focus (rintro w1 ⟨_, _, _⟩; go_simp; try with_reducible rfl)
    simp only [Act.put]
  iterate 3
    refine wpHead_free (v := ?_) rfl (by rfl) ?_ ?_
    rotate_left
    focus (intro w1; go_simp; try with_reducible rfl)
    simp only [Act.put]
  iterate 2
    refine wpHead_take (v := ?_) rfl (by rfl) ?_ ?_
    rotate_left
    focus (rintro w1 ⟨_, _, _⟩; go_simp; try with_reducible rfl)
    simp only [Act.put]
  refine wpHead_nil ?_
  refine wpTail_step rfl (by rfl) (fun K hK => ?_)
  go_simp
  refine hK.out _ _ ?_
  clear hK K
  try simp only [Act.put, List.setIfInBounds_toArray]
  iterate 2
    refine wpTail_free (v := ?_) rfl (by rfl) ?_ ?_
    rotate_left
    focus (intro w1; go_simp; try with_reducible rfl)
    simp only [Act.put]
  refine wpTail_step rfl (by rfl) (fun K hK => ?_)
  go_simp
  refine hK.out _ _ ?_
  clear hK K
  try simp only [Act.put, List.setIfInBounds_toArray]
  iterate 2
    refine wpTail_free (v := ?_) rfl (by rfl) ?_ ?_
    rotate_left
    focus (intro w1; go_simp; try with_reducible rfl)
    simp only [Act.put]
  refine wpTail_step rfl (by rfl) (fun K hK => ?_)
  go_simp
  refine hK.out _ _ ?_
  clear hK K
  try simp only [Act.put, List.setIfInBounds_toArray]
  refine wpTail_nil ?_
  go_wp2
  go_ret2
  have hwr : IntKind.i64.wrap ((under : Int) - (m : Int)) = (under : Int) - (m : Int) := IntWalk.i64_in _ (by omega)
  rw [hwr]
  exact ⟨rfl, W, hFW, hAW, (fr_three W a _ _ _).drew, set_three W a _ _ _ _ _ _ _ _ hbW⟩

set_option maxRecDepth 100000 in
set_option maxHeartbeats 1000000 in
theorem ack_all (a size base under nr : Nat) (g off m : Nat) (vs : List Value) (w : World) (hb : w.heap[a]? = some (.cells #[.int .i64 size, .int .i64 base, .slice (some ⟨g, off, none⟩) m m, .int .i64 under] 86 (0, 0)))
    (hA : ArrAt w 44 (.slice (some ⟨g, off, none⟩) m m) vs) (ha : (Value.slice (some ⟨g, off, none⟩) m m).ownBlock ≠ some a) (hnr : nr < 128) (hu : under ≤ m) (hn : m ≤ 64) (hm : Hid (((nr : Int) - base) % 128 = (m : Nat))) (hmu : m ≤ under) :
    Calls Tryz.prog 102 #[.pointer (some ⟨a, 0, none⟩), .int .i64 nr] w fun e w' => e = .returned (.tuple #[.int .i64 (m : Nat), .int .i64 0]) ∧ ∃ W : World,
      Fr (fun k => (Value.slice (some ⟨g, off, none⟩) m m).ownBlock = some k) w W ∧ ArrAt W 44 (.slice (some ⟨g, off, none⟩) 0 0) (vs.drop m) ∧ Fr (fun k => k = a) W w' ∧
      w'.heap[a]? = some (.cells #[.int .i64 size, .int .i64 nr, (.slice (some ⟨g, off, none⟩) 0 0), .int .i64 ((under : Int) - (m : Nat))] 86 (0, 0)) := by
  obtain ⟨j0, hj, hy0, hy1, hy2⟩ := info_parts infoBytes
  obtain ⟨c0, c1, c2, c3⟩ := cells_of4 hb
  have e1 : (0 : Int) ≤ (nr : Int) := by omega
  have e2 : ¬ (128 : Int) ≤ (nr : Int) := by omega
  have hmu' : ¬ ((under : Int) < (m : Nat)) := by omega
  have e4 : (0 : Int) ≤ (m : Int) := by omega
  have hln : vs.length = m := by
    obtain ⟨_, _, _, hv, _, _⟩ := hA.reads
    injection hv with _ h _
    exact h.symm
  have hln := Lib.hid hln
  have hA := Lib.hid hA
  go_enter Tryz.func102, Tryz.ntmps102
  go_wp2_with fail
  refine (way_any _ _ _).mono ?_
  rintro e w1 ⟨rfl, rfl⟩
  rw [hm.out]
  go_wp2_with (first | (refine wpList_clear _ rfl (.tmp 32) 29 rfl 44 j0 (.slice none 0 0) Tryz.underlying29 hj hy0 rfl (by simp [Value.cells, Value.oneCell']) (some ⟨g, off, none⟩) m m m _ vs hA.out (by omega) rfl ?_; intro W hFW hAW; have hbW := hFW.get hb ha; have f2 := frozen_of' (j := 2) hbW))
  clear c0 c1 c2 c3
  obtain ⟨c0, c1, c2, c3⟩ := cells_of4 hbW
  have f1 := frozen_of' (j := 1) hbW
  have f3 := frozen_of' (j := 3) hbW
  try simp only [Act.put]
  simp only [if_true, Nat.sub_self] at hAW
  refine wp_region_order (fun w' => Below W.heap.size W w' ∧ w'.cell? ⟨a, 2, none⟩ = some (.slice (some ⟨g, off, none⟩) m m) ∧ w'.cell? ⟨a, 3, none⟩ = some (.int .i64 under))
    [(0, 1), (1, 0), (2, 0), (3, 1), (4, 1), (5, 1), (6, 1), (7, 1), (8, 1), (9, 1), (10, 1), (11, 1), (12, 1), (13, 0), (14, 0), (15, 0), (16, 1), (17, 1)] [(18, false), (19, true), (20, true), (21, false), (22, true), (23, true), (24, false)] [18, 21, 24] [1, 2, 13, 14, 15, 19, 20, 22, 23]
    (by kernel_rfl) (fun _ _ d _ _ h => by cases d <;> exact h) (by decide +kernel) (held_23 hbW (bl_drew (bl_refl _))) ?_
  refine wpHead_take (v := ?_) rfl (by rfl) ?_ ?_
  rotate_left
  focus (rintro w1 ⟨_, _, _⟩; go_simp; try with_reducible rfl)
  simp only [Act.put, List.setIfInBounds_toArray]
  iterate 2
    refine wpHead_free (v := ?_) rfl (by rfl) ?_ ?_
    rotate_left
    focus (intro w1; go_simp; try with_reducible rfl)
    simp only [Act.put]
  iterate 10
    refine wpHead_take (v := ?_) rfl (by rfl) ?_ ?_
    rotate_left
    focus (rintro w1 ⟨_, _, _⟩; go_simp; try with_reducible rfl)
    simp only [Act.put]
  iterate 3
    refine wpHead_free (v := ?_) rfl (by rfl) ?_ ?_
    rotate_left
    focus (intro w1; go_simp; try with_reducible rfl)
    simp only [Act.put]
  iterate 2
    refine wpHead_take (v := ?_) rfl (by rfl) ?_ ?_
    rotate_left
    focus (rintro w1 ⟨_, _, _⟩; go_simp; try with_reducible rfl)
    simp only [Act.put]
  refine wpHead_nil ?_
  refine wpTail_step rfl (by rfl) (fun K hK => ?_)
  go_simp
  refine hK.out _ _ ?_
  clear hK K
  try simp only [Act.put, List.setIfInBounds_toArray]
  iterate 2
    refine wpTail_free (v := ?_) rfl (by rfl) ?_ ?_
    rotate_left
    focus (intro w1; go_simp; try with_reducible rfl)
    simp only [Act.put]
  refine wpTail_step rfl (by rfl) (fun K hK => ?_)
  go_simp
  refine hK.out _ _ ?_
  clear hK K
  try simp only [Act.put, List.setIfInBounds_toArray]
  iterate 2
    refine wpTail_free (v := ?_) rfl (by rfl) ?_ ?_
    rotate_left
    focus (intro w1; go_simp; try with_reducible rfl)
    simp only [Act.put]
  refine wpTail_step rfl (by rfl) (fun K hK => ?_)
  go_simp
  refine hK.out _ _ ?_
  clear hK K
  try simp only [Act.put, List.setIfInBounds_toArray]
  refine wpTail_nil ?_
  go_wp2
  go_ret2
  have hwr : IntKind.i64.wrap ((under : Int) - (m : Int)) = (under : Int) - (m : Int) := IntWalk.i64_in _ (by omega)
  rw [hwr]
  exact ⟨rfl, W, hFW, hAW, (fr_three W a _ _ _).drew, set_three W a _ _ _ _ _ _ _ _ hbW⟩

set_option maxRecDepth 100000 in
set_option maxHeartbeats 1000000 in
theorem ack_nil (a size base under nr : Nat)  (vs : List Value) (w : World) (hb : w.heap[a]? = some (.cells #[.int .i64 size, .int .i64 base, .slice none 0 0, .int .i64 under] 86 (0, 0)))
    (hA : ArrAt w 44 (.slice none 0 0) vs) (ha : (Value.slice none 0 0).ownBlock ≠ some a) (hnr : nr < 128) (hu : under ≤ 0) (_ : 0 ≤ 64) (hm : Hid (((nr : Int) - base) % 128 = (0 : Nat))) (_ : 0 ≤ under) :
    Calls Tryz.prog 102 #[.pointer (some ⟨a, 0, none⟩), .int .i64 nr] w fun e w' => e = .returned (.tuple #[.int .i64 (0 : Nat), .int .i64 0]) ∧ ∃ W : World,
      Fr (fun k => (Value.slice none 0 0).ownBlock = some k) w W ∧ ArrAt W 44 (.slice none 0 0) (vs.drop 0) ∧ Fr (fun k => k = a) W w' ∧
      w'.heap[a]? = some (.cells #[.int .i64 size, .int .i64 nr, (.slice none 0 0), .int .i64 ((under : Int) - (0 : Nat))] 86 (0, 0)) := by
  obtain ⟨j0, hj, hy0, hy1, hy2⟩ := info_parts infoBytes
  obtain ⟨c0, c1, c2, c3⟩ := cells_of4 hb
  have e1 : (0 : Int) ≤ (nr : Int) := by omega
  have e2 : ¬ (128 : Int) ≤ (nr : Int) := by omega
  have hmu' : ¬ ((under : Int) < (0 : Nat)) := by omega
  have hln : vs.length = 0 := by
    obtain ⟨_, _, _, hv, _, _⟩ := hA.reads
    injection hv with _ h _
    exact h.symm
  have hln := Lib.hid hln
  have hA := Lib.hid hA
  go_enter Tryz.func102, Tryz.ntmps102
  go_wp2_with fail
  refine (way_any _ _ _).mono ?_
  rintro e w1 ⟨rfl, rfl⟩
  rw [hm.out]
  go_wp2_with (first | (refine wpList_clear _ rfl (.tmp 32) 29 rfl 44 j0 (.slice none 0 0) Tryz.underlying29 hj hy0 rfl (by simp [Value.cells, Value.oneCell']) none 0 0 0 _ vs hA.out (by omega) rfl ?_; intro W hFW hAW; have hbW := hFW.get hb ha; have f2 := frozen_of' (j := 2) hbW))
  clear c0 c1 c2 c3
  obtain ⟨c0, c1, c2, c3⟩ := cells_of4 hbW
  have f1 := frozen_of' (j := 1) hbW
  have f3 := frozen_of' (j := 3) hbW
  try simp only [Act.put]
  simp only [if_true, Nat.sub_self] at hAW
  refine wp_region_order (fun w' => Below W.heap.size W w' ∧ w'.cell? ⟨a, 2, none⟩ = some (.slice none 0 0) ∧ w'.cell? ⟨a, 3, none⟩ = some (.int .i64 under))
    [(0, 1), (1, 0), (2, 0), (3, 1), (4, 1), (5, 1), (6, 1), (7, 1), (8, 1), (9, 1), (10, 1), (11, 1), (12, 1), (13, 0), (14, 0), (15, 0), (16, 1), (17, 1)] [(18, false), (19, true), (20, true), (21, false), (22, true), (23, true), (24, false)] [18, 21, 24] [1, 2, 13, 14, 15, 19, 20, 22, 23]
    (by kernel_rfl) (fun _ _ d _ _ h => by cases d <;> exact h) (by decide +kernel) (held_23 hbW (bl_drew (bl_refl _))) ?_
  refine wpHead_take (v := ?_) rfl (by rfl) ?_ ?_
  rotate_left
  focus (rintro w1 ⟨_, _, _⟩; go_simp; try with_reducible rfl)
  simp only [Act.put, List.setIfInBounds_toArray]
  iterate 2
    refine wpHead_free (v := ?_) rfl (by rfl) ?_ ?_
    rotate_left
    focus (intro w1; go_simp; try with_reducible rfl)
    simp only [Act.put]
  iterate 10
    refine wpHead_take (v := ?_) rfl (by rfl) ?_ ?_
    rotate_left
    focus (rintro w1 ⟨_, _, _⟩; go_simp; try with_reducible rfl)
    simp only [Act.put]
  iterate 3
    refine wpHead_free (v := ?_) rfl (by rfl) ?_ ?_
    rotate_left
    focus (intro w1; go_simp; try with_reducible rfl)
    simp only [Act.put]
  iterate 2
    refine wpHead_take (v := ?_) rfl (by rfl) ?_ ?_
    rotate_left
    focus (rintro w1 ⟨_, _, _⟩; go_simp; try with_reducible rfl)
    simp only [Act.put]
  refine wpHead_nil ?_
  refine wpTail_step rfl (by rfl) (fun K hK => ?_)
  go_simp
  refine hK.out _ _ ?_
  clear hK K
  try simp only [Act.put, List.setIfInBounds_toArray]
  iterate 2
    refine wpTail_free (v := ?_) rfl (by rfl) ?_ ?_
    rotate_left
    focus (intro w1; go_simp; try with_reducible rfl)
    simp only [Act.put]
  refine wpTail_step rfl (by rfl) (fun K hK => ?_)
  go_simp
  refine hK.out _ _ ?_
  clear hK K
  try simp only [Act.put, List.setIfInBounds_toArray]
  iterate 2
    refine wpTail_free (v := ?_) rfl (by rfl) ?_ ?_
    rotate_left
    focus (intro w1; go_simp; try with_reducible rfl)
    simp only [Act.put]
  refine wpTail_step rfl (by rfl) (fun K hK => ?_)
  go_simp
  refine hK.out _ _ ?_
  clear hK K
  try simp only [Act.put, List.setIfInBounds_toArray]
  refine wpTail_nil ?_
  go_wp2
  go_ret2
  have hwr : IntKind.i64.wrap (under : Int) = (under : Int) - ((0 : Nat) : Int) := by rw [IntWalk.i64_in _ (by omega)]; simp
  rw [hwr]
  exact ⟨rfl, W, hFW, hAW, (fr_three W a _ _ _).drew, set_three W a _ _ _ _ _ _ _ _ hbW⟩

theorem sack_any (F : Nat → Prop) (a : Nat) (s : Snd) (hok : s.Ok) (nr : Int) (w : World) (hs : SndAt F w a s) :
    Calls Tryz.prog 102 #[.pointer (some ⟨a, 0, none⟩), .int .i64 nr] w fun e w' => e = .returned (.tuple #[.int .i64 (s.ackN nr), .int .i64 (s.ackE nr)]) ∧ SndAt F w' a (s.ack nr) ∧ Fr F w w' := by
  obtain ⟨h1, h2, av, vs, D, hb, hA, hl, hav, hD, hp⟩ := hs
  by_cases hE : s.ackE nr = 0
  · obtain ⟨⟨hn0, hn1⟩, hmu⟩ := ackE_zero hE
    obtain ⟨hN1, hN2⟩ := ackN_zero hE
    have hack : s.ack nr = ⟨s.size, nr.toNat, s.ps.drop (s.ackN nr), s.under - s.ackN nr⟩ := by unfold Snd.ack; rw [if_pos hE]
    rw [hE, hack]
    generalize s.ackN nr = m at hN1 hN2 ⊢
    obtain ⟨nr, rfl⟩ := Int.eq_ofNat_of_zero_le hn0
    have hu1 := hok.under1
    have hlen := hok.len
    have ha : av.ownBlock ≠ some a := fun h => (hav a h).2.1 rfl
    -- what each of the three forms leaves
    have fin : ∀ (res : Value), (∀ k, res.ownBlock = some k → av.ownBlock = some k) → Calls Tryz.prog 102 #[.pointer (some ⟨a, 0, none⟩), .int .i64 nr] w (fun e w' => e = .returned (.tuple #[.int .i64 (m : Nat), .int .i64 0]) ∧ ∃ W : World,
        Fr (fun k => av.ownBlock = some k) w W ∧ ArrAt W 44 res (vs.drop m) ∧ Fr (fun k => k = a) W w' ∧
        w'.heap[a]? = some (.cells #[.int .i64 s.size, .int .i64 nr, res, .int .i64 ((s.under : Int) - (m : Nat))] 86 (0, 0))) →
        Calls Tryz.prog 102 #[.pointer (some ⟨a, 0, none⟩), .int .i64 nr] w fun e w' => e = .returned (.tuple #[.int .i64 (m : Nat), .int .i64 0]) ∧ SndAt F w' a ⟨s.size, nr, s.ps.drop m, s.under - m⟩ ∧ Fr F w w' := by
      intro res hres hC
      refine hC.mono ?_
      rintro e w' ⟨rfl, W, hF1, hAW, hF2, hbw⟩
      have hs1 := hF1.size
      have hs2 := hF2.size
      have hFF : Fr F w w' := (hF1.mono (fun k hk => .inl (hav k hk).1)).trans hF2 (fun k hk => .inl (by rw [hk]; exact h2))
      refine ⟨rfl, ⟨fun k hk => by have := h1 k hk; omega, h2, res, vs.drop m, D, ?_, hAW.fr hF2 (fun k hk => (hav k (hres k hk)).2.1), by simp [hl], fun k hk => hav k (hres k hk), hD, fun i x p hx hq => ?_⟩, hFF⟩
      · rw [hbw, show ((s.under : Int) - (m : Nat)) = ((s.under - m : Nat) : Int) by omega]
      · rw [List.getElem?_drop] at hx hq
        exact ((hp _ x p hx hq).fr hF1 (fun k hk hk2 => (hav k hk2).2.2 hk)).fr hF2 (fun k hk => (hD k hk).2)
    rw [Int.toNat_natCast]
    rcases hA.three with ⟨rfl, rfl⟩ | ⟨g, off, cap, rfl, rfl⟩ | ⟨g, off, n, cap, rfl, hn, hn0', hnc, hcm⟩
    · obtain rfl : m = 0 := by simp at hl; omega
      exact fin _ (fun k hk => hk) (ack_nil a s.size s.base s.under nr [] w hb hA ha (by omega) (by simp at hl; omega) (by omega) hN1.symm (by omega))
    · obtain rfl : m = 0 := by simp at hl; omega
      by_cases hc0 : cap = 0
      · subst hc0
        exact fin _ (fun k hk => hk) (ack_all a s.size s.base s.under nr g off 0 [] w hb hA ha (by omega) (by simp at hl; omega) (by omega) hN1.symm (by omega))
      · exact fin _ (fun k hk => by simpa [Value.ownBlock] using hk) (ack_row a s.size s.base s.under nr g off 0 0 cap (by omega) hc0 [] w hb hA ha (by omega) (by simp at hl; omega) (by omega) hN1.symm (by omega))
    · by_cases hc0 : cap = m
      · obtain rfl : n = m := by omega
        subst hc0
        exact fin _ (fun k hk => by simpa [Value.ownBlock] using hk) (ack_all a s.size s.base s.under nr g off _ vs w hb hA ha (by omega) (by omega) (by omega) hN1.symm (by omega))
      · exact fin _ (fun k hk => by simpa [Value.ownBlock] using hk) (ack_row a s.size s.base s.under nr g off n m cap hnc hc0 vs w hb hA ha (by omega) (by omega) (by omega) hN1.symm (by omega))
  · have hack : s.ack nr = s := by unfold Snd.ack; rw [if_neg hE]
    have hN : s.ackN nr = 0 := by unfold Snd.ackN; rw [if_neg hE]
    rw [hack, hN]
    obtain ⟨ao, cap, hav', _⟩ := hA.form
    refine (ack_bad a s ao vs.length cap nr w (by rw [← hav']; exact hb) hE).mono ?_
    rintro e w' ⟨rfl, rfl⟩
    exact ⟨rfl, ⟨h1, h2, av, vs, D, hb, hA, hl, hav, hD, hp⟩, Fr.refl _ _⟩

end Go.Proofs.YthmdibagcbbgoaaGreat

namespace Go.Proofs.YthmdibagcbbgoaaGreat
open Go.RowKit
attribute [local go_sem ↓] Go.wp_at_zero Go.wp_at_succ

/-- What is told where a payload is asked for once more. -/
def Snd.againE (s : Snd) (ns : Int) : Int := if ns < 0 ∨ 127 < ns then 1 else if (ns - s.base) % 128 < (s.under : Int) then 0 else 4
def Snd.againP (s : Snd) (ns : Int) : List Int := if s.againE ns = 0 then s.ps.getD ((ns - s.base) % 128).toNat [] else []
theorem againE_zero {s : Snd} {ns : Int} (h : s.againE ns = 0) : (0 ≤ ns ∧ ns ≤ 127) ∧ (ns - s.base) % 128 < (s.under : Int) := by
  unfold Snd.againE at h
  by_cases h1 : ns < 0 ∨ 127 < ns
  · rw [if_pos h1] at h; omega
  rw [if_neg h1] at h
  by_cases h2 : (ns - s.base) % 128 < (s.under : Int)
  · omega
  · rw [if_neg h2] at h; omega
theorem quiet_left' {P : Program} {f : FuncId} {args : Array Value} {w : World} {n : Nat} {v : Value} (h : Calls P f args (w.drewN n) fun e w' => e = .returned v ∧ w.drewN n = w') : Calls P f args (w.drewN n) fun e w'' => e = .returned v ∧ ∃ m, w'' = w.drewN m :=
  h.mono fun _ _ ⟨he, hm⟩ => ⟨he, n, hm.symm⟩

set_option maxRecDepth 100000 in
set_option maxHeartbeats 1000000 in
theorem again_bad (a : Nat) (s : Snd) (ao : Option Addr) (n cap : Nat) (ns : Int) (w : World) (hb : w.heap[a]? = some (.cells #[.int .i64 s.size, .int .i64 s.base, .slice ao n cap, .int .i64 s.under] 86 (0, 0))) (h : s.againE ns ≠ 0) :
    Calls Tryz.prog 50 #[.pointer (some ⟨a, 0, none⟩), .int .i64 ns] w fun e w' => e = .returned (.tuple #[.slice none 0 0, .int .i64 (s.againE ns)]) ∧ Below w.heap.size w w' := by
  obtain ⟨c0, c1, c2, c3⟩ := cells_of4 hb
  unfold Snd.againE at *
  by_cases h1 : ns < 0
  · rw [if_pos (.inl h1)] at *
    clear h
    go_enter Tryz.func50, Tryz.ntmps50
    go_wp2
    go_ret2
    exact ⟨rfl, bl_refl w⟩
  by_cases h2 : 127 < ns
  · rw [if_pos (.inr h2)] at *
    clear h
    have h3 : 128 ≤ ns := by omega
    go_enter Tryz.func50, Tryz.ntmps50
    go_wp2
    go_ret2
    exact ⟨rfl, bl_refl w⟩
  rw [if_neg (by omega)] at *
  by_cases h3 : (ns - s.base) % 128 < (s.under : Int)
  · rw [if_pos h3] at h
    exact absurd rfl h
  · rw [if_neg h3] at *
    have h4 : ¬ 128 ≤ ns := by omega
    have h5 : decide ((ns - s.base) % 128 < (s.under : Int)) = false := by simpa using h3
    have h5 := Lib.hid h5
    clear h h2 h3 hb
    go_enter Tryz.func50, Tryz.ntmps50
    go_wp2_with fail
    go_quiet ((go_at_call 70; exact quiet_left' (in_any _ _ _ _)))
    rw [h5.out]
    go_wp2
    go_ret2
    exact ⟨rfl, bl_drewN (bl_refl w) _⟩

theorem held_12x {w w' : World} {g gx ox : Nat} {a b c d x : Value} {t : TypeId} (hb : w.heap[g]? = some (.cells #[a, b, c, d] t (0, 0))) (hx : w.cell? ⟨gx, ox, none⟩ = some x) (h : Below w.heap.size w w') : Below w.heap.size w w' ∧ w'.cell? ⟨g, 1, none⟩ = some b ∧ w'.cell? ⟨g, 2, none⟩ = some c ∧ w'.cell? ⟨gx, ox, none⟩ = some x :=
  ⟨h, (cells_of4 (bl_get h hb)).2.1, (cells_of4 (bl_get h hb)).2.2.1, below_cell h hx⟩

set_option maxRecDepth 100000 in
set_option maxHeartbeats 1000000 in
theorem again_yes (a size base under ns m : Nat) (g off n cap : Nat) (x : Value) (p : List Int) (w : World) (hb : w.heap[a]? = some (.cells #[.int .i64 size, .int .i64 base, .slice (some ⟨g, off, none⟩) n cap, .int .i64 under] 86 (0, 0)))
    (hns : ns < 128) (hm : Hid (((ns : Int) - base) % 128 = (m : Nat))) (hmu : m < under) (hun : under ≤ n) (hx : w.cell? ⟨g, off + m, none⟩ = some x) (hxr : Reads (Value.int .u8) w x p) (hpl : p.length ≤ 121) :
    Calls Tryz.prog 50 #[.pointer (some ⟨a, 0, none⟩), .int .i64 ns] w fun e w' => ∃ u : Value, e = .returned (.tuple #[u, .int .i64 0]) ∧ Below w.heap.size w w' ∧
      w'.ownsRow w.heap.size 5 1 u p.length (p.map (Value.int .u8)) := by
  obtain ⟨i0, hi, hz0, hz1, hz2⟩ := info_parts infoByte'
  obtain ⟨c0, c1, c2, c3⟩ := cells_of4 hb
  have e1 : (0 : Int) ≤ (m : Int) := by omega
  have e2 : (m : Int) < (n : Int) := by omega
  have e3 : ¬ (128 : Int) ≤ (ns : Int) := by omega
  have h5 : decide (((ns : Int) - base) % 128 < (under : Int)) = true := by rw [hm.out]; simpa using hmu
  have h5 := Lib.hid h5
  obtain ⟨xo, xc, rfl⟩ : ∃ xo xc, x = .slice xo p.length xc := by
    obtain ⟨_, xo, xc, h, _⟩ := hxr
    exact ⟨xo, xc, h⟩
  go_enter Tryz.func50, Tryz.ntmps50
  go_wp2_with fail
  go_quiet ((go_at_call 70; exact quiet_left' (in_any _ _ _ _)))
  rw [h5.out]
  have hB1 := bl_drewN (bl_refl w) nq
  generalize w.drewN nq = W at hB1 ⊢
  have hbW := bl_get hB1 hb
  have hxW := below_cell hB1 hx
  have hrW := hxr.below hB1
  clear c0 c1 c2 c3 hb hx hxr
  have hs1 := hB1.size
  go_wp2_with fail
  go_region_held3 (fun w' => Below W.heap.size W w' ∧ w'.cell? ⟨a, 1, none⟩ = some (.int .i64 base) ∧ w'.cell? ⟨a, 2, none⟩ = some (.slice (some ⟨g, off, none⟩) n cap) ∧ w'.cell? ⟨g, off + m, none⟩ = some (.slice xo p.length xc))
    (exact held_12x hbW hxW (by first | assumption | exact bl_drew (bl_refl _) | exact bl_alloc (bl_drew (bl_refl _)) _ | exact bl_alloc (by assumption) _))
    (first
      | (go_at_call 71; refine (way_any _ _ _).mono ?_; rintro e w' ⟨rfl, rfl⟩; rw [hm.out])
      | (refine step_of_wp (by rfl) (wp_append_r _ (.tmp 25) (.tmp 37) _ rfl W.heap.size 5 i0 (.int .u8 0) 1 Tryz.underlying44 hi hz0 hz1 hz2 (by rfl) _ _ _ (by rfl) (owns_empty W.drew 5 (Nat.le_refl _)) (Value.int .u8) _ p (by rfl) (hrW.below (bl_alloc (bl_drew (bl_refl _)) _)) (by intros; rfl) (by simp [maxLen]; omega) (by simp; omega) (by simp) ?_); intro u W2 hO2 hg2; have hB2 : Below W.heap.size W W2 := bl_grown (bl_alloc (bl_drew (bl_refl _)) _) hg2 (by intro k hk; cases hk; exact Nat.le_refl _)))
  all_goals
    go_wp2
    go_ret2
    exact ⟨u, rfl, bl_trans hB1 hB2, owns_mono2 (by simpa using hO2) hs1⟩

theorem sagain_any (F : Nat → Prop) (a : Nat) (s : Snd) (hok : s.Ok) (ns : Int) (w : World) (hs : SndAt F w a s) :
    Calls Tryz.prog 50 #[.pointer (some ⟨a, 0, none⟩), .int .i64 ns] w fun e w' => ∃ u, e = .returned (.tuple #[u, .int .i64 (s.againE ns)]) ∧
      Byt (fun k => w.heap.size ≤ k) w' u (s.againP ns) ∧ Below w.heap.size w w' := by
  obtain ⟨h1, h2, av, vs, D, hb, hA, hl, hav, hD, hp⟩ := hs
  by_cases hE : s.againE ns = 0
  · obtain ⟨⟨hn0, hn1⟩, hmu⟩ := againE_zero hE
    have hP : s.againP ns = s.ps.getD ((ns - s.base) % 128).toNat [] := by unfold Snd.againP; rw [if_pos hE]
    rw [hE, hP]
    have hm0 : 0 ≤ (ns - s.base) % 128 := by omega
    obtain ⟨m, hm⟩ := Int.eq_ofNat_of_zero_le hm0
    have hu1 := hok.under1
    rw [hm, Int.toNat_natCast]
    obtain ⟨ns, rfl⟩ := Int.eq_ofNat_of_zero_le hn0
    obtain ⟨x, hx⟩ := get_some (xs := vs) (k := m) (by omega)
    obtain ⟨q, hq⟩ := get_some (xs := s.ps) (k := m) (by omega)
    have hbq := hp _ x q hx hq
    have hpay := hok.pay q (List.mem_of_getElem? hq)
    rw [List.getD_eq_getElem?_getD, hq]
    obtain ⟨ao, cap, rfl, _⟩ := hA.form
    obtain ⟨g, off, rfl, hcell⟩ := hA.at_ hx
    refine (again_yes a s.size s.base s.under ns m g off vs.length cap x q w hb (by omega) hm (by omega) (by omega) hcell hbq.1.1 hpay.2).mono ?_
    rintro e w' ⟨u, rfl, hB, hO⟩
    exact ⟨u, rfl, ⟨(Rd.of_owns hO (by unfold maxLen; omega)).mono (fun k hk => hk.1), hbq.2⟩, hB⟩
  · have hP : s.againP ns = [] := by unfold Snd.againP; rw [if_neg hE]
    rw [hP]
    obtain ⟨ao, cap, rfl, _⟩ := hA.form
    refine (again_bad a s ao vs.length cap ns w hb hE).mono ?_
    rintro e w' ⟨rfl, hB⟩
    exact ⟨_, rfl, ⟨⟨Reads.nil _ _, fun k hk => by simp [Value.ownBlock] at hk⟩, fun n hn => by simp at hn⟩, hB⟩

end Go.Proofs.YthmdibagcbbgoaaGreat

namespace Go.Proofs.YthmdibagcbbgoaaGreat
open Go.RowKit


theorem rreduce_any (n : Int) (w : World) :
    Calls Tryz.prog 85 #[.int .i64 n] w fun e w' => e = .returned (.int .i64 (n % 128)) ∧ w = w' := by
  have h0 := Int.tmod_def n 128
  have h1 : -128 < n.tmod 128 ∧ n.tmod 128 < 128 ∧ n.tmod 128 % 128 = n % 128 := by
    have := Int.emod_add_mul_ediv n 128
    rcases Int.le_total 0 n with h | h
    · rw [Int.tmod_eq_emod_of_nonneg h]; omega
    · have e : n.tmod 128 = -((-n) % 128) := by
        rw [← Int.tmod_eq_emod_of_nonneg (by omega : (0 : Int) ≤ -n), Int.neg_tmod, Int.neg_neg]
      rw [e]; omega
  obtain ⟨h1, h2, h3⟩ := h1
  clear h0
  by_cases hn : n.tmod 128 < 0
  · go_enter Tryz.func85, Tryz.ntmps85
    go_wp2
    go_ret
    exact ⟨ret_i64 (by omega), rfl⟩
  · go_enter Tryz.func85, Tryz.ntmps85
    go_wp2
    go_ret
    exact ⟨ret_i64 (by omega), rfl⟩

theorem rnext_any (n : Int) (w : World) :
    Calls Tryz.prog 99 #[.int .i64 n] w fun e w' => e = .returned (.int .i64 ((n + 1) % 128)) ∧ w = w' := by
  have h1 : 0 ≤ n % 128 := by omega
  have h2 : n % 128 ≤ 127 := by omega
  by_cases hn : n % 128 = 127
  · have hb : (n % 128 == 127) = true := by simpa using hn
    clear hn
    go_enter Tryz.func99, Tryz.ntmps99
    go_wp2_with (go_at_call 85; refine (rreduce_any _ _).mono ?_; rintro e w' ⟨rfl, rfl⟩)
    go_ret
    exact ⟨ret_i64 (by simp at hb; omega), rfl⟩
  · have hb : (n % 128 == 127) = false := by simpa using hn
    clear hn
    go_enter Tryz.func99, Tryz.ntmps99
    go_wp2_with (go_at_call 85; refine (rreduce_any _ _).mono ?_; rintro e w' ⟨rfl, rfl⟩)
    go_ret
    exact ⟨ret_i64 (by simp at hb; omega), rfl⟩

theorem rway_any (a b : Int) (w : World) :
    Calls Tryz.prog 88 #[.int .i64 a, .int .i64 b] w fun e w' => e = .returned (.int .i64 ((b - a) % 128)) ∧ w = w' := by
  go_enter Tryz.func88, Tryz.ntmps88
  go_wp2_with (go_at_call 85; refine (rreduce_any _ _).mono ?_; rintro e w' ⟨rfl, rfl⟩)
  go_loop [5, 6] (fun n k => ∃ i : Int, 0 ≤ i ∧ i ≤ (b - a) % 128 ∧ n = .int .i64 ((a + i) % 128) ∧ k = .int .i64 i) (fun _ k => ((b - a) % 128 - intOf k).toNat)
  case atStart => exact ⟨0, by omega, by omega, by simp, rfl⟩
  case round =>
    obtain ⟨i, hi0, hi, rfl, rfl⟩ := hrel
    have hlt : i < 128 := by omega
    have h1 : 0 ≤ (a + i) % 128 := by omega
    have h2 : (a + i) % 128 ≤ 127 := by omega
    by_cases hend : i = (b - a) % 128
    · have hb : ((a + i) % 128 != b % 128) = false := by simp; omega
      have H := Lib.hid hend
      clear hend
      go_wp2_with (go_at_call 85; refine (rreduce_any _ _).mono ?_; rintro e w' ⟨rfl, rfl⟩)
      go_ret
      exact ⟨ret_i64 H.out, rfl⟩
    · have hb : ((a + i) % 128 != b % 128) = true := by simp; omega
      by_cases h128 : (a + i) % 128 = 127
      · have hc : ((a + i) % 128 + 1 == 128) = true := by simp; omega
        clear h128
        go_wp2_with (go_at_call 85; refine (rreduce_any _ _).mono ?_; rintro e w' ⟨rfl, rfl⟩)
        go_round
        case rel => exact ⟨i + 1, by omega, by omega, by congr 1; simp at hc; omega, rfl⟩
        case measure => simp [intOf]; omega
      · have hc : ((a + i) % 128 + 1 == 128) = false := by simp; omega
        clear h128
        go_wp2_with (go_at_call 85; refine (rreduce_any _ _).mono ?_; rintro e w' ⟨rfl, rfl⟩)
        go_round
        case rel => exact ⟨i + 1, by omega, by omega, by congr 1; simp at hc; omega, rfl⟩
        case measure => simp [intOf]; omega

theorem rin_any (base size n : Int) (w : World) :
    Calls Tryz.prog 106 #[.int .i64 base, .int .i64 size, .int .i64 n] w fun e w' => e = .returned (.bool (decide ((n - base) % 128 < size))) ∧ w = w' := by
  by_cases hs : 0 < size
  · go_enter Tryz.func106, Tryz.ntmps106
    go_wp2_with (go_at_call 88; refine (rway_any _ _ _).mono ?_; rintro e w' ⟨rfl, rfl⟩)
    go_ret
    exact ⟨rfl, rfl⟩
  · go_enter Tryz.func106, Tryz.ntmps106
    go_wp2_with (go_at_call 88; refine (rway_any _ _ _).mono ?_; rintro e w' ⟨rfl, rfl⟩)
    go_ret
    exact ⟨ret_bool (by simp; omega), rfl⟩

end Go.Proofs.YthmdibagcbbgoaaGreat
