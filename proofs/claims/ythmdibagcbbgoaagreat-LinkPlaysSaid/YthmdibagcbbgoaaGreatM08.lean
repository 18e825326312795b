/- The contract of sender.Push. The contract of sender.Push at any sender and any bytes. The contract of sender.Send. Conditions: as they stand. -/
import Derived.WalkKit
import Derived.Lib.Hide
import Derived.Deep.RegionHeld3
import Derived.Deep.DrawnRows
import Derived.Test.YthmdibagcbbgoaaGreatM07
import Derived.Test.YthmdibagcbbgoaaGreatM01
import Derived.Test.YthmdibagcbbgoaaGreatM03
import Derived.Maps.AppendAt
import Derived.IntWalk
import Derived.BigQuiet
import Derived.Deep.QuietTactic
import Derived.Test.YthmdibagcbbgoaaGreatM02
namespace Go.Proofs.YthmdibagcbbgoaaGreat
open Go.RowKit
attribute [local go_sem ↓] Go.wp_at_zero Go.wp_at_succ

/-- Why a payload may not be pushed. -/
def Snd.pushE (s : Snd) (p : List Int) : Int := if p.length = 0 then 2 else if 121 < p.length then 3 else if 64 ≤ s.ps.length then 6 else 0
def Snd.push (s : Snd) (p : List Int) : Snd := if s.pushE p = 0 then { s with ps := s.ps ++ [p] } else s
theorem pushE_zero {s : Snd} {p : List Int} (h : s.pushE p = 0) : (1 ≤ p.length ∧ p.length ≤ 121) ∧ s.ps.length < 64 := by
  unfold Snd.pushE at h
  by_cases h1 : p.length = 0
  · rw [if_pos h1] at h; omega
  rw [if_neg h1] at h
  by_cases h2 : 121 < p.length
  · rw [if_pos h2] at h; omega
  rw [if_neg h2] at h
  by_cases h3 : 64 ≤ s.ps.length
  · rw [if_pos h3] at h; omega
  omega
theorem Snd.push_ok {s : Snd} (h : s.Ok) (p : List Int) : (s.push p).Ok := by
  unfold Snd.push
  split
  · rename_i hz
    obtain ⟨⟨h1, h2⟩, h3⟩ := pushE_zero hz
    exact ⟨h.size1, h.size2, h.base, by have := h.under1; simp; omega, h.under2, by simp; omega, fun q hq => by
      rcases List.mem_append.1 hq with h4 | h4
      · exact h.pay q h4
      · simp at h4; subst h4; exact ⟨h1, h2⟩⟩
  · exact h

theorem spush_bad (F : Nat → Prop) (a : Nat) (s : Snd) (v : Value) (p : List Int) (w : World) (hs : SndAt F w a s) (hr : Reads (Value.int .u8) w v p) (h : s.pushE p ≠ 0) :
    Calls Tryz.prog 41 #[.pointer (some ⟨a, 0, none⟩), v] w fun e w' => e = .returned (.int .i64 (s.pushE p)) ∧ w = w' := by
  obtain ⟨h1, h2, av, vs, D, hb, hA, hl, hav, hD, hp⟩ := hs
  obtain ⟨ao, cap, rfl, _⟩ := hA.form
  rw [hl] at hb
  obtain ⟨c0, c1, c2, c3⟩ := cells_of4 hb
  obtain ⟨hm, ao', cap', rfl, _, _⟩ := hr
  unfold maxLen at hm
  clear hp hav hD h1 hA hl hb
  unfold Snd.pushE at *
  by_cases g1 : p.length = 0
  · rw [if_pos g1] at *
    have gg := Lib.hid g1
    have g1' : ((p.length : Int) == 0) = true := by simpa using g1
    clear g1 h
    go_enter Tryz.func41, Tryz.ntmps41
    go_wp2
    go_ret
    exact ⟨rfl, rfl⟩
  rw [if_neg g1] at *
  have g1' : ((p.length : Int) == 0) = false := by simpa using g1
  by_cases g2 : 121 < p.length
  · rw [if_pos g2] at *
    clear g1 h
    go_enter Tryz.func41, Tryz.ntmps41
    go_wp2
    go_ret
    exact ⟨rfl, rfl⟩
  rw [if_neg g2] at *
  by_cases g3 : 64 ≤ s.ps.length
  · rw [if_pos g3] at *
    clear g1 h
    go_enter Tryz.func41, Tryz.ntmps41
    go_wp2
    go_ret
    exact ⟨rfl, rfl⟩
  · rw [if_neg g3] at h
    exact absurd rfl h

theorem held_c {w w' : World} {a i : Nat} {v : Value} {cs : Array Value} {t : TypeId} (hb : w.heap[a]? = some (.cells cs t (0, 0))) (hv : cs[i]? = some v) (h : Below w.heap.size w w') : Below w.heap.size w w' ∧ w'.cell? ⟨a, i, none⟩ = some v ∧ w'.frozen? ⟨a, i, none⟩ = false :=
  ⟨h, by rw [cell_of_row _ _ _ _ _ _ (bl_get h hb)]; exact hv, frozen_of' (bl_get h hb)⟩

/-- The three forms of a row's value. -/
theorem ArrAt.three {w : World} {e : TypeId} {v : Value} {vs : List Value} (h : ArrAt w e v vs) : (v = .slice none 0 0 ∧ vs = []) ∨ (∃ g off cap, v = .slice (some ⟨g, off, none⟩) 0 cap ∧ vs = []) ∨ ∃ g off n cap, v = .slice (some ⟨g, off, none⟩) n cap ∧ vs.length = n ∧ 0 < n ∧ n ≤ cap ∧ cap ≤ maxLen := by
  rcases h with h | ⟨g, off, cap, cur, rfl, _, _, h1, h2, _⟩
  · exact .inl h
  · by_cases h0 : vs.length = 0
    · exact .inr (.inl ⟨g, off, cap, by rw [h0], List.eq_nil_of_length_eq_zero h0⟩)
    · exact .inr (.inr ⟨g, off, vs.length, cap, rfl, rfl, by omega, h1, h2⟩)

theorem owns_mono2 {w : World} {b0 b1 : Nat} {e : TypeId} {s : Nat} {v : Value} {n : Nat} {xs : List Value} (h : w.ownsRow b1 e s v n xs) (hle : b0 ≤ b1) : w.ownsRow b0 e s v n xs := by
  refine ⟨h.1, ?_⟩
  rcases h.2 with h2 | ⟨g, cap, cur, hv, hb, r⟩
  · exact .inl h2
  · exact .inr ⟨g, cap, cur, hv, by omega, r⟩

set_option maxRecDepth 100000 in
set_option maxHeartbeats 1000000 in
theorem push_row (a size base under : Nat) (av : Value) (vs : List Value) (po : Option Addr) (pcap : Nat) (p : List Int) (w : World) (hb : w.heap[a]? = some (.cells #[.int .i64 size, .int .i64 base, av, .int .i64 under] 86 (0, 0)))
    (hA : ArrAt w 44 av vs) (hr0 : Reads (Value.int .u8) w (.slice po p.length pcap) p) (q1 : 1 ≤ p.length) (q2 : p.length ≤ 121) (q3 : vs.length < 64) :
    Calls Tryz.prog 41 #[.pointer (some ⟨a, 0, none⟩), .slice po p.length pcap] w fun e w' => e = .returned (.int .i64 0) ∧
      ∃ (W1 W2 : World) (u v' : Value), Below w.heap.size w W1 ∧ W1.ownsRow w.heap.size 5 1 u p.length (p.map (Value.int .u8)) ∧ Below W1.heap.size W1 W2 ∧ W2.ownsRow W1.heap.size 44 1 v' (vs.length + 1) (vs ++ [u]) ∧
        w' = W2.setCell ⟨a, 2, none⟩ v' := by
  obtain ⟨i0, hi, hz0, hz1, hz2⟩ := info_parts infoByte'
  obtain ⟨j0, hj, hy0, hy1, hy2⟩ := info_parts infoBytes
  obtain ⟨c0, c1, c2, c3⟩ := cells_of4 hb
  have g1 : ((p.length : Int) == 0) = false := by simp; intro h; subst h; simp at q1
  have hfull : ∀ ao n cap, av = .slice ao n cap → Reads id w (.slice ao n n) vs := fun ao n cap h => by subst h; exact hA.full
  rcases hA.three with ⟨rfl, rfl⟩ | ⟨g, off, cap, rfl, rfl⟩ | ⟨g, off, n, cap, rfl, hn, hn0, hnc, hcm⟩
  · have hfull := Lib.hid (hfull _ _ _ rfl)
    clear hA q3
    go_enter Tryz.func41, Tryz.ntmps41
    go_wp2_with fail
    refine wp_region_ord (n := 23) (S := fun w' => Below w.heap.size w w' ∧ w'.cell? ⟨a, 2, none⟩ = some (.slice none 0 0) ∧ w'.frozen? ⟨a, 2, none⟩ = false)
      [(0, true), (1, true), (2, true), (3, true), (4, true), (5, true), (6, true), (7, true), (8, true), (9, true), (10, true), (11, true), (12, true), (13, true), (14, true), (15, true), (17, true), (16, false), (18, false), (19, false), (20, false), (21, true), (22, true), (23, false)]
      (by kernel_rfl) (fun _ _ d _ _ h => by cases d <;> exact h) (by kernel_rfl) (held_c hb rfl (bl_drew (bl_refl _))) ?_
    iterate 17
      refine wpOrd_take (v := ?_) rfl (by rfl) ?_ ?_
      rotate_left
      focus (rintro w1 ⟨_, _, _⟩; go_simp; try with_reducible rfl)
      simp only [Act.put, List.setIfInBounds_toArray]
    refine wpOrd_step rfl (by rfl) (fun K hK => ?_)
    go_simp
    refine hK.out _ _ (held_c hb rfl (bl_alloc (bl_drew (bl_refl _)) _)) ?_
    clear hK K
    try simp only [Act.put, List.setIfInBounds_toArray]
    refine wpOrd_step rfl (by rfl) (fun K hK => ?_)
    refine wp_append_r _ (.tmp 39) (.tmp 40) _ (by rfl) w.heap.size 5 i0 (.int .u8 0) 1 Tryz.underlying44 hi hz0 hz1 hz2 (by rfl) _ _ _ (by rfl) (owns_empty w.drew 5 (Nat.le_refl _)) (Value.int .u8) _ p (by rfl) (hr0.below (bl_alloc (bl_drew (bl_refl _)) _)) (by intros; rfl) (by simp [maxLen]; omega) (by simp; omega) (by simp) ?_
    intro u W2 hO2 hg2
    have hB2 : Below w.heap.size w W2 := bl_grown (bl_alloc (bl_drew (bl_refl _)) _) hg2 (by intro k hk; cases hk; exact Nat.le_refl _)
    simp only [Nat.zero_add, List.nil_append] at hO2
    obtain ⟨ao2, cap2, rfl⟩ := owns_form' hO2
    refine hK.out _ _ (held_c hb rfl hB2) ?_
    clear hK K hg2
    try simp only [Act.put, List.setIfInBounds_toArray]
    refine wpOrd_step rfl (by rfl) (fun K hK => ?_)
    go_simp
    refine hK.out _ _ (held_c hb rfl (bl_alloc hB2 _)) ?_
    clear hK K
    try simp only [Act.put, List.setIfInBounds_toArray]
    refine wpOrd_step rfl (by rfl) (fun K hK => ?_)
    refine wp_append_full _ (.tmp 38) (.tmp 42) _ (by rfl) 44 j0 (.slice none 0 0) 24 Tryz.underlying29 hj hy0 hy1 hy2 (by rfl) (none) 0 [] (by rfl) (hfull.out.below (bl_alloc hB2 _)) ⟨W2.heap.size, 0, none⟩ 1 1 [.slice ao2 p.length cap2] (by rfl) rfl (by decide) (cell_one_new _ _ _) (by simp [Value.oneCell']) (by simp only [maxLen]; omega) (by omega) ?_
    intro v' W4 hO4 hB4
    have hB5 := bl_trans (bl_alloc hB2 _) hB4
    obtain ⟨ao4, cap4, rfl⟩ := owns_form' hO4
    refine hK.out _ _ (held_c hb rfl hB5) ?_
    clear hK K
    try simp only [Act.put, List.setIfInBounds_toArray]
    iterate 2
      refine wpOrd_take (v := ?_) rfl (by rfl) ?_ ?_
      rotate_left
      focus (rintro w1 ⟨_, _, _⟩; go_simp; try with_reducible rfl)
      simp only [Act.put]
    obtain ⟨_, d2, f2⟩ := held_c hb (i := 2) rfl hB5
    refine wpOrd_last rfl (by rfl) (fun K hK => ?_)
    go_simp
    refine hK.out _ _ ?_
    clear hK K
    refine wpOrd_nil ?_
    go_wp2
    go_ret
    exact ⟨rfl, W2, W4, _, _, hB2, hO2, bl_trans (bl_alloc (bl_refl _) _) hB4, owns_mono2 hO4 (by simp), rfl⟩
  · have hfull := Lib.hid (hfull _ _ _ rfl)
    clear hA q3
    go_enter Tryz.func41, Tryz.ntmps41
    go_wp2_with fail
    refine wp_region_ord (n := 23) (S := fun w' => Below w.heap.size w w' ∧ w'.cell? ⟨a, 2, none⟩ = some (.slice (some ⟨g, off, none⟩) 0 cap) ∧ w'.frozen? ⟨a, 2, none⟩ = false)
      [(0, true), (1, true), (2, true), (3, true), (4, true), (5, true), (6, true), (7, true), (8, true), (9, true), (10, true), (11, true), (12, true), (13, true), (14, true), (15, true), (17, true), (16, false), (18, false), (19, false), (20, false), (21, true), (22, true), (23, false)]
      (by kernel_rfl) (fun _ _ d _ _ h => by cases d <;> exact h) (by kernel_rfl) (held_c hb rfl (bl_drew (bl_refl _))) ?_
    iterate 17
      refine wpOrd_take (v := ?_) rfl (by rfl) ?_ ?_
      rotate_left
      focus (rintro w1 ⟨_, _, _⟩; go_simp; try with_reducible rfl)
      simp only [Act.put, List.setIfInBounds_toArray]
    refine wpOrd_step rfl (by rfl) (fun K hK => ?_)
    go_simp
    refine hK.out _ _ (held_c hb rfl (bl_alloc (bl_drew (bl_refl _)) _)) ?_
    clear hK K
    try simp only [Act.put, List.setIfInBounds_toArray]
    refine wpOrd_step rfl (by rfl) (fun K hK => ?_)
    refine wp_append_r _ (.tmp 39) (.tmp 40) _ (by rfl) w.heap.size 5 i0 (.int .u8 0) 1 Tryz.underlying44 hi hz0 hz1 hz2 (by rfl) _ _ _ (by rfl) (owns_empty w.drew 5 (Nat.le_refl _)) (Value.int .u8) _ p (by rfl) (hr0.below (bl_alloc (bl_drew (bl_refl _)) _)) (by intros; rfl) (by simp [maxLen]; omega) (by simp; omega) (by simp) ?_
    intro u W2 hO2 hg2
    have hB2 : Below w.heap.size w W2 := bl_grown (bl_alloc (bl_drew (bl_refl _)) _) hg2 (by intro k hk; cases hk; exact Nat.le_refl _)
    simp only [Nat.zero_add, List.nil_append] at hO2
    obtain ⟨ao2, cap2, rfl⟩ := owns_form' hO2
    refine hK.out _ _ (held_c hb rfl hB2) ?_
    clear hK K hg2
    try simp only [Act.put, List.setIfInBounds_toArray]
    refine wpOrd_step rfl (by rfl) (fun K hK => ?_)
    go_simp
    refine hK.out _ _ (held_c hb rfl (bl_alloc hB2 _)) ?_
    clear hK K
    try simp only [Act.put, List.setIfInBounds_toArray]
    refine wpOrd_step rfl (by rfl) (fun K hK => ?_)
    refine wp_append_full _ (.tmp 38) (.tmp 42) _ (by rfl) 44 j0 (.slice none 0 0) 24 Tryz.underlying29 hj hy0 hy1 hy2 (by rfl) (some ⟨g, off, none⟩) 0 [] (by rfl) (hfull.out.below (bl_alloc hB2 _)) ⟨W2.heap.size, 0, none⟩ 1 1 [.slice ao2 p.length cap2] (by rfl) rfl (by decide) (cell_one_new _ _ _) (by simp [Value.oneCell']) (by simp only [maxLen]; omega) (by omega) ?_
    intro v' W4 hO4 hB4
    have hB5 := bl_trans (bl_alloc hB2 _) hB4
    obtain ⟨ao4, cap4, rfl⟩ := owns_form' hO4
    refine hK.out _ _ (held_c hb rfl hB5) ?_
    clear hK K
    try simp only [Act.put, List.setIfInBounds_toArray]
    iterate 2
      refine wpOrd_take (v := ?_) rfl (by rfl) ?_ ?_
      rotate_left
      focus (rintro w1 ⟨_, _, _⟩; go_simp; try with_reducible rfl)
      simp only [Act.put]
    obtain ⟨_, d2, f2⟩ := held_c hb (i := 2) rfl hB5
    refine wpOrd_last rfl (by rfl) (fun K hK => ?_)
    go_simp
    refine hK.out _ _ ?_
    clear hK K
    refine wpOrd_nil ?_
    go_wp2
    go_ret
    exact ⟨rfl, W2, W4, _, _, hB2, hO2, bl_trans (bl_alloc (bl_refl _) _) hB4, owns_mono2 hO4 (by simp), rfl⟩
  · have hn := Lib.hid hn
    rw [hn.out] at q3
    have e1 : (0 : Int) ≤ (n : Int) := by omega
    have e2 : (n : Int) ≤ (cap : Int) := by omega
    have e3 : ¬ n = 0 := by omega
    unfold maxLen at hcm
    have hfull := Lib.hid (hfull _ _ _ rfl)
    clear hA
    go_enter Tryz.func41, Tryz.ntmps41
    go_wp2_with fail
    refine wp_region_ord (n := 23) (S := fun w' => Below w.heap.size w w' ∧ w'.cell? ⟨a, 2, none⟩ = some (.slice (some ⟨g, off, none⟩) n cap) ∧ w'.frozen? ⟨a, 2, none⟩ = false)
      [(0, true), (1, true), (2, true), (3, true), (4, true), (5, true), (6, true), (7, true), (8, true), (9, true), (10, true), (11, true), (12, true), (13, true), (14, true), (15, true), (17, true), (16, false), (18, false), (19, false), (20, false), (21, true), (22, true), (23, false)]
      (by kernel_rfl) (fun _ _ d _ _ h => by cases d <;> exact h) (by kernel_rfl) (held_c hb rfl (bl_drew (bl_refl _))) ?_
    iterate 17
      refine wpOrd_take (v := ?_) rfl (by rfl) ?_ ?_
      rotate_left
      focus (rintro w1 ⟨_, _, _⟩; go_simp; try with_reducible rfl)
      simp only [Act.put, List.setIfInBounds_toArray]
    refine wpOrd_step rfl (by rfl) (fun K hK => ?_)
    go_simp
    refine hK.out _ _ (held_c hb rfl (bl_alloc (bl_drew (bl_refl _)) _)) ?_
    clear hK K
    try simp only [Act.put, List.setIfInBounds_toArray]
    refine wpOrd_step rfl (by rfl) (fun K hK => ?_)
    refine wp_append_r _ (.tmp 39) (.tmp 40) _ (by rfl) w.heap.size 5 i0 (.int .u8 0) 1 Tryz.underlying44 hi hz0 hz1 hz2 (by rfl) _ _ _ (by rfl) (owns_empty w.drew 5 (Nat.le_refl _)) (Value.int .u8) _ p (by rfl) (hr0.below (bl_alloc (bl_drew (bl_refl _)) _)) (by intros; rfl) (by simp [maxLen]; omega) (by simp; omega) (by simp) ?_
    intro u W2 hO2 hg2
    have hB2 : Below w.heap.size w W2 := bl_grown (bl_alloc (bl_drew (bl_refl _)) _) hg2 (by intro k hk; cases hk; exact Nat.le_refl _)
    simp only [Nat.zero_add, List.nil_append] at hO2
    obtain ⟨ao2, cap2, rfl⟩ := owns_form' hO2
    refine hK.out _ _ (held_c hb rfl hB2) ?_
    clear hK K hg2
    try simp only [Act.put, List.setIfInBounds_toArray]
    refine wpOrd_step rfl (by rfl) (fun K hK => ?_)
    go_simp
    refine hK.out _ _ (held_c hb rfl (bl_alloc hB2 _)) ?_
    clear hK K
    try simp only [Act.put, List.setIfInBounds_toArray]
    refine wpOrd_step rfl (by rfl) (fun K hK => ?_)
    refine wp_append_full _ (.tmp 38) (.tmp 42) _ (by rfl) 44 j0 (.slice none 0 0) 24 Tryz.underlying29 hj hy0 hy1 hy2 (by rfl) (some ⟨g, off, none⟩) n vs (by rfl) (hfull.out.below (bl_alloc hB2 _)) ⟨W2.heap.size, 0, none⟩ 1 1 [.slice ao2 p.length cap2] (by rfl) rfl (by decide) (cell_one_new _ _ _) (by simp [Value.oneCell']) (by simp only [maxLen]; omega) (by omega) ?_
    intro v' W4 hO4 hB4
    have hB5 := bl_trans (bl_alloc hB2 _) hB4
    obtain ⟨ao4, cap4, rfl⟩ := owns_form' hO4
    refine hK.out _ _ (held_c hb rfl hB5) ?_
    clear hK K
    try simp only [Act.put, List.setIfInBounds_toArray]
    iterate 2
      refine wpOrd_take (v := ?_) rfl (by rfl) ?_ ?_
      rotate_left
      focus (rintro w1 ⟨_, _, _⟩; go_simp; try with_reducible rfl)
      simp only [Act.put]
    obtain ⟨_, d2, f2⟩ := held_c hb (i := 2) rfl hB5
    refine wpOrd_last rfl (by rfl) (fun K hK => ?_)
    go_simp
    refine hK.out _ _ ?_
    clear hK K
    refine wpOrd_nil ?_
    go_wp2
    go_ret
    exact ⟨rfl, W2, W4, _, _, hB2, hO2, bl_trans (bl_alloc (bl_refl _) _) hB4, by rw [hn.out]; exact owns_mono2 hO4 (by simp), rfl⟩

end Go.Proofs.YthmdibagcbbgoaaGreat

namespace Go.Proofs.YthmdibagcbbgoaaGreat
open Go.RowKit

theorem spush_any (F : Nat → Prop) (a : Nat) (s : Snd) (v : Value) (p : List Int) (w : World) (hs : SndAt F w a s) (hr : Reads (Value.int .u8) w v p) (hw : ∀ n ∈ p, (Lit.int .u8 n).wf = true) :
    Calls Tryz.prog 41 #[.pointer (some ⟨a, 0, none⟩), v] w fun e w' => e = .returned (.int .i64 (s.pushE p)) ∧
      SndAt (fun k => F k ∨ (w.heap.size ≤ k ∧ k < w'.heap.size)) w' a (s.push p) ∧ Fr (fun k => k = a) w w' := by
  by_cases hE : s.pushE p = 0
  · obtain ⟨⟨q1, q2⟩, q3⟩ := pushE_zero hE
    have hpu : s.push p = { s with ps := s.ps ++ [p] } := by unfold Snd.push; rw [if_pos hE]
    rw [hE, hpu]
    obtain ⟨h1, h2, av, vs, D, hb, hA, hl, hav, hD, hp⟩ := hs
    obtain ⟨hm, po, pcap, rfl, hpc, hcc⟩ := hr
    refine (push_row a s.size s.base s.under av vs po pcap p w hb hA ⟨hm, po, pcap, rfl, hpc, hcc⟩ q1 q2 (by omega)).mono ?_
    rintro e w' ⟨rfl, W1, W2, u, v', hB1, hO1, hB2, hO2, rfl⟩
    have ha := h1 a h2
    have hs1 := hB1.size
    have hs2 := hB2.size
    have hBt := bl_trans hB1 hB2
    have hF := fr_cell W2 a 2 v'
    have hl' : (vs ++ [u]).length = vs.length + 1 := by simp
    have hO2' : W2.ownsRow W1.heap.size 44 1 v' (vs ++ [u]).length (vs ++ [u]) := by rw [hl']; exact hO2
    have hsz : (W2.setCell ⟨a, 2, none⟩ v').heap.size = W2.heap.size := by simp [World.setCell]
    have hu : Byt (fun k => w.heap.size ≤ k ∧ k < W1.heap.size) W1 u p := ⟨Rd.of_owns hO1 (by unfold maxLen; omega), hw⟩
    refine ⟨rfl, ⟨fun k hk => ?_, .inl h2, v', vs ++ [u], fun k => D k ∨ (w.heap.size ≤ k ∧ k < W1.heap.size), ?_, ?_, by simp [hl], fun k hk => ?_, fun k hk => ?_, fun i x q hx hq => ?_⟩, (Fr.of_below hBt).trans hF (fun i hi => .inl hi)⟩
    · rw [hsz] at hk ⊢
      rcases hk with hk | hk
      · have := h1 k hk; omega
      · exact hk.2
    · exact heap_set_box' _ _ _ _ _ _ (bl_get hBt hb)
    · exact (ArrAt.of_owns hO2').fr hF (fun k hk => by have := hO2.lt k hk; omega)
    · have := hO2.lt k hk
      rw [hsz]
      refine ⟨.inr ⟨by omega, this.2⟩, by omega, fun hd => ?_⟩
      rcases hd with hd | hd
      · have := h1 k (hD k hd).1; omega
      · omega
    · rw [hsz]
      rcases hk with hk | hk
      · exact ⟨.inl (hD k hk).1, (hD k hk).2⟩
      · exact ⟨.inr ⟨hk.1, by omega⟩, by omega⟩
    · by_cases hi : i < vs.length
      · rw [List.getElem?_append_left hi] at hx
        rw [List.getElem?_append_left (by omega)] at hq
        exact (((hp i x q hx hq).below hBt).fr hF (fun k hk => (hD k hk).2)).mono (fun k hk => .inl hk)
      · have hlt := (List.getElem?_eq_some_iff.1 hx).1
        simp only [List.length_append, List.length_singleton] at hlt
        have hi' : i = vs.length := by omega
        subst hi'
        have hx' : x = u := by simpa using hx.symm
        have hq' : q = p := by
          rw [hl] at hq
          simpa using hq.symm
        subst hx' hq'
        exact ((hu.below hB2).fr hF (fun k hk => by omega)).mono (fun k hk => .inr hk)
  · have hpu : s.push p = s := by unfold Snd.push; rw [if_neg hE]
    rw [hpu]
    refine (spush_bad F a s v p w hs hr hE).mono ?_
    rintro e w' ⟨rfl, rfl⟩
    refine ⟨rfl, ?_, Fr.refl _ _⟩
    obtain ⟨h1, h2, av, vs, D, hb, hA, hl, hav, hD, hp⟩ := hs
    exact ⟨fun k hk => by rcases hk with hk | hk; exact h1 k hk; omega, .inl h2, av, vs, D, hb, hA, hl, fun k hk => ⟨.inl (hav k hk).1, (hav k hk).2⟩, fun k hk => ⟨.inl (hD k hk).1, (hD k hk).2⟩, hp⟩

end Go.Proofs.YthmdibagcbbgoaaGreat

namespace Go.Proofs.YthmdibagcbbgoaaGreat
open Go.RowKit
attribute [local go_sem ↓] Go.wp_at_zero Go.wp_at_succ

set_option maxRecDepth 100000 in
set_option maxHeartbeats 1000000 in
theorem send_no (a size base under n : Nat) (ao : Option Addr) (cap : Nat) (w : World) (hb : w.heap[a]? = some (.cells #[.int .i64 size, .int .i64 base, .slice ao n cap, .int .i64 under] 86 (0, 0))) (h : under = n ∨ under = size) :
    Calls Tryz.prog 63 #[.pointer (some ⟨a, 0, none⟩)] w fun e w' => e = .returned (.tuple #[.int .i64 0, .slice none 0 0, .bool false]) ∧ Below w.heap.size w w' := by
  obtain ⟨c0, c1, c2, c3⟩ := cells_of4 hb
  by_cases h1 : under = n
  · have g1 : ((under : Int) == (n : Int)) = true := by simp; omega
    clear h h1 hb
    go_enter Tryz.func63, Tryz.ntmps63
    go_wp2_with fail
    go_quiet (fail)
    go_wp2
    go_ret3
    exact ⟨rfl, bl_drewN (bl_refl w) _⟩
  · have g1 : ((under : Int) == (n : Int)) = false := by simp; omega
    have g2 : ((under : Int) == (size : Int)) = true := by have := h.resolve_left h1; simp; omega
    clear h h1 hb
    go_enter Tryz.func63, Tryz.ntmps63
    go_wp2_with fail
    go_quiet (fail)
    go_wp2
    go_ret3
    exact ⟨rfl, bl_drewN (bl_refl w) _⟩

theorem send_num {base under : Nat} (hb : base < 128) (hu : under ≤ 64) : IntKind.i64.wrap (IntKind.i64.wrap ((base : Int) + ((under : Int) + 1)) - 1) % 128 = (((base + under) % 128 : Nat) : Int) := by
  rw [IntWalk.i64_in ((base : Int) + ((under : Int) + 1)) (by omega), IntWalk.i64_in _ (by omega)]
  omega
theorem held_13 {w w' : World} {g : Nat} {a b c d : Value} {t : TypeId} (hb : w.heap[g]? = some (.cells #[a, b, c, d] t (0, 0))) (h : Below w.heap.size w w') : Below w.heap.size w w' ∧ w'.cell? ⟨g, 1, none⟩ = some b ∧ w'.cell? ⟨g, 3, none⟩ = some d :=
  ⟨h, (cells_of4 (bl_get h hb)).2.1, (cells_of4 (bl_get h hb)).2.2.2⟩

set_option maxRecDepth 100000 in
set_option maxHeartbeats 1000000 in
theorem send_yes (a size base under n : Nat) (g off cap : Nat) (x : Value) (p : List Int) (w : World) (hb : w.heap[a]? = some (.cells #[.int .i64 size, .int .i64 base, .slice (some ⟨g, off, none⟩) n cap, .int .i64 under] 86 (0, 0)))
    (h1 : under < n) (h2 : under < size) (hx : w.cell? ⟨g, off + under, none⟩ = some x) (hxr : Rd (fun k => k ≠ a) (Value.int .u8) w x p) (hn : n ≤ 64) (hbs : base < 128) (hpl : p.length ≤ 121) :
    Calls Tryz.prog 63 #[.pointer (some ⟨a, 0, none⟩)] w fun e w' => ∃ (u : Value) (W : World), e = .returned (.tuple #[.int .i64 ((base + under) % 128 : Nat), u, .bool true]) ∧
      Fr (fun k => k = a) w W ∧ W.heap[a]? = some (.cells #[.int .i64 size, .int .i64 base, .slice (some ⟨g, off, none⟩) n cap, .int .i64 (under + 1 : Nat)] 86 (0, 0)) ∧ Below W.heap.size W w' ∧
      w'.ownsRow W.heap.size 5 1 u p.length (p.map (Value.int .u8)) := by
  obtain ⟨i0, hi, hz0, hz1, hz2⟩ := info_parts infoByte'
  obtain ⟨c0, c1, c2, c3⟩ := cells_of4 hb
  have f3 := frozen_of' (j := 3) hb
  have g1 : ((under : Int) == (n : Int)) = false := by simp; omega
  have g2 : ((under : Int) == (size : Int)) = false := by simp; omega
  have e1 : (0 : Int) ≤ (under : Int) := by omega
  have e2 : (under : Int) < (n : Int) := by omega
  obtain ⟨xo, xc, rfl⟩ : ∃ xo xc, x = .slice xo p.length xc := by
    obtain ⟨⟨_, xo, xc, h, _⟩, _⟩ := hxr
    exact ⟨xo, xc, h⟩
  go_enter Tryz.func63, Tryz.ntmps63
  go_wp2_with fail
  go_quiet (fail)
  have hB1 := bl_drewN (bl_refl w) nq
  generalize w.drewN nq = w1 at hB1 ⊢
  have hb1 := bl_get hB1 hb
  have hx1 := below_cell hB1 hx
  clear c0 c1 c2 c3 f3
  obtain ⟨c0, c1, c2, c3⟩ := cells_of4 hb1
  go_wp2
  go_quiet (fail)
  have hB2 := bl_trans hB1 (bl_drewN (bl_refl w1) nq)
  generalize w1.drewN nq = w2 at hB2 ⊢
  have hb2 := bl_get hB2 hb
  clear c0 c1 c2 c3 hb1 hx1 hB1
  obtain ⟨c0, c1, c2, c3⟩ := cells_of4 hb2
  have f3 := frozen_of' (j := 3) hb2
  go_wp2
  have hF := fr_cell w2 a 3 (.int .i64 ((under : Int) + 1))
  have hbW := heap_set_box' _ a 3 _ _ (.int .i64 ((under : Int) + 1)) hb2
  have hF2 : Fr (fun k => k = a) w (w2.setCell ⟨a, 3, none⟩ (.int .i64 ((under : Int) + 1))) := (Fr.of_below hB2).trans hF (fun i hi => .inl hi)
  have hxW := hxr.fr hF2 (fun k hk => hk)
  generalize w2.setCell ⟨a, 3, none⟩ (.int .i64 ((under : Int) + 1)) = W at hbW hF2 hxW ⊢
  clear c0 c1 c2 c3 f3 hF hb2 hB2 hx hxr
  have hbW : W.heap[a]? = some (.cells #[.int .i64 size, .int .i64 base, .slice (some ⟨g, off, none⟩) n cap, .int .i64 ((under : Int) + 1)] 86 (0, 0)) := hbW
  go_region_held3 (fun w' => Below W.heap.size W w' ∧ w'.cell? ⟨a, 1, none⟩ = some (.int .i64 base) ∧ w'.cell? ⟨a, 3, none⟩ = some (.int .i64 ((under : Int) + 1)))
    (exact held_13 hbW (by first | assumption | exact bl_drew (bl_refl _) | exact bl_alloc (bl_drew (bl_refl _)) _ | exact bl_alloc (by assumption) _))
    (first
      | (go_at_call 84; refine (reduce_any _ _).mono ?_; rintro e w' ⟨rfl, rfl⟩)
      | (refine step_of_wp (by rfl) (wp_append_r _ (.tmp 59) (.tmp 60) _ rfl W.heap.size 5 i0 (.int .u8 0) 1 Tryz.underlying44 hi hz0 hz1 hz2 (by rfl) _ _ _ (by rfl) (owns_empty W.drew 5 (Nat.le_refl _)) (Value.int .u8) _ p (by rfl) (hxW.1.below (bl_alloc (bl_drew (bl_refl _)) _)) (by intros; rfl) (by simp [maxLen]; omega) (by simp; omega) (by simp) ?_); intro u W2 hO2 hg2; have hB2 : Below W.heap.size W W2 := bl_grown (bl_alloc (bl_drew (bl_refl _)) _) hg2 (by intro k hk; cases hk; exact Nat.le_refl _)))
  all_goals
    go_wp2
    go_ret3
    refine ⟨u, W, ?_, hF2, hbW, hB2, by simpa using hO2⟩
    rw [← send_num hbs (show under ≤ 64 by omega)]
    rfl

/-- What is sent. -/
def Snd.can (s : Snd) : Bool := decide (s.under < s.ps.length) && decide (s.under < s.size)
def Snd.send (s : Snd) : Snd := if s.can then { s with under := s.under + 1 } else s
def Snd.sendN (s : Snd) : Nat := if s.can then (s.base + s.under) % 128 else 0
def Snd.sendP (s : Snd) : List Int := if s.can then s.ps.getD s.under [] else []
theorem Snd.send_ok {s : Snd} (h : s.Ok) : s.send.Ok := by
  unfold Snd.send
  split
  · rename_i hc
    simp only [Snd.can, Bool.and_eq_true, decide_eq_true_eq] at hc
    exact ⟨h.size1, h.size2, h.base, by simp; omega, by simp; omega, h.len, h.pay⟩
  · exact h

theorem ssend_any (F : Nat → Prop) (a : Nat) (s : Snd) (hok : s.Ok) (w : World) (hs : SndAt F w a s) :
    Calls Tryz.prog 63 #[.pointer (some ⟨a, 0, none⟩)] w fun e w' => ∃ u, e = .returned (.tuple #[.int .i64 s.sendN, u, .bool s.can]) ∧
      Byt (fun k => w.heap.size ≤ k) w' u s.sendP ∧ SndAt F w' a s.send ∧ Fr (fun k => k = a) w w' := by
  obtain ⟨h1, h2, av, vs, D, hb, hA, hl, hav, hD, hp⟩ := hs
  obtain ⟨ao, cap, rfl, hcap, hcm, hnil⟩ := hA.form
  cases hc : s.can with
  | false =>
    have h : s.under = vs.length ∨ s.under = s.size := by
      have := hok.under1
      have := hok.under2
      simp only [Snd.can, Bool.and_eq_false_iff, decide_eq_false_iff_not] at hc
      omega
    refine (send_no a s.size s.base s.under vs.length ao cap w hb h).mono ?_
    rintro e w' ⟨rfl, hB⟩
    have e1 : s.sendN = 0 := by simp [Snd.sendN, hc]
    have e2 : s.sendP = [] := by simp [Snd.sendP, hc]
    have e3 : s.send = s := by simp [Snd.send, hc]
    rw [e1, e2, e3]
    exact ⟨_, rfl, ⟨⟨Reads.nil _ _, fun k hk => by simp [Value.ownBlock] at hk⟩, fun n hn => by simp at hn⟩, SndAt.below ⟨h1, h2, _, vs, D, hb, hA, hl, hav, hD, hp⟩ hB, .of_below hB⟩
  | true =>
    have hc' := hc
    simp only [Snd.can, Bool.and_eq_true, decide_eq_true_eq] at hc'
    obtain ⟨x, hx⟩ := get_some (xs := vs) (k := s.under) (by omega)
    obtain ⟨q, hq⟩ := get_some (xs := s.ps) (k := s.under) hc'.1
    obtain ⟨g, off, rfl, hcell⟩ := hA.at_ hx
    have hbq := hp _ x q hx hq
    have hpay := hok.pay q (List.mem_of_getElem? hq)
    refine (send_yes a s.size s.base s.under vs.length g off cap x q w hb (by omega) hc'.2 hcell (hbq.1.mono (fun k hk => (hD k hk).2)) (by have := hok.len; omega) hok.base hpay.2).mono ?_
    rintro e w' ⟨u, W, rfl, hF, hbW, hBW, hO⟩
    have e1 : s.sendN = (s.base + s.under) % 128 := by simp [Snd.sendN, hc]
    have e2 : s.sendP = q := by simp [Snd.sendP, hc, hq]
    have e3 : s.send = { s with under := s.under + 1 } := by simp [Snd.send, hc]
    rw [e1, e2, e3]
    have hs1 := hF.size
    refine ⟨u, rfl, ⟨(Rd.of_owns hO (by unfold maxLen; omega)).mono (fun k hk => by omega), hbq.2⟩, SndAt.below (w := W) ⟨fun k hk => by have := h1 k hk; omega, h2, _, vs, D, hbW, hA.fr hF (fun k hk => (hav k hk).2.1), hl, hav, hD, fun i x p hx hp' => (hp i x p hx hp').fr hF (fun k hk => (hD k hk).2)⟩ hBW, hF.then_below hBW⟩

end Go.Proofs.YthmdibagcbbgoaaGreat
