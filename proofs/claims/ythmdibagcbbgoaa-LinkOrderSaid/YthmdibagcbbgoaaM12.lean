/- A sender: what it is in Lean, how it lies in memory; sender.New, Base, Len. The contract of sender.Push. The contract of sender.Push at any sender and any bytes. Conditions: as they stand. -/
import Derived.WalkKit
import Derived.Lib.Hide
import Derived.Test.YthmdibagcbbgoaaM02
import Derived.Test.YthmdibagcbbgoaaM10
import Derived.Deep.RegionHeld3
import Derived.Deep.DrawnRows
import Derived.Test.YthmdibagcbbgoaaM05
import Derived.Maps.AppendAt
namespace Go.Proofs.Ythmdibagcbbgoaa
open Go.RowKit

/-- A sender. -/
structure Snd where
  size : Nat
  base : Nat
  ps : List (List Int)
  under : Nat
/-- What holds of every sender. -/
structure Snd.Ok (s : Snd) : Prop where
  size1 : 1 ≤ s.size
  size2 : s.size ≤ 63
  base : s.base < 128
  under1 : s.under ≤ s.ps.length
  under2 : s.under ≤ s.size
  len : s.ps.length ≤ 64
  pay : ∀ p ∈ s.ps, 1 ≤ p.length ∧ p.length ≤ 121

/-- A sender behind a pointer: all that it has lies in F; its own block is a, the payloads' blocks are neither a nor the row's. -/
def SndAt (F : Nat → Prop) (w : World) (a : Nat) (s : Snd) : Prop :=
  (∀ k, F k → k < w.heap.size) ∧ F a ∧ ∃ (av : Value) (vs : List Value) (D : Nat → Prop), w.heap[a]? = some (.cells #[.int .i64 s.size, .int .i64 s.base, av, .int .i64 s.under] 86 (0, 0)) ∧
    ArrAt w 22 av vs ∧ vs.length = s.ps.length ∧ (∀ k, av.ownBlock = some k → F k ∧ k ≠ a ∧ ¬ D k) ∧ (∀ k, D k → F k ∧ k ≠ a) ∧
    ∀ (i : Nat) (x : Value) (p : List Int), vs[i]? = some x → s.ps[i]? = some p → Byt D w x p
theorem SndAt.fr {F G : Nat → Prop} {w w' : World} {a : Nat} {s : Snd} (h : SndAt F w a s) (hf : Fr G w w') (hd : ∀ k, F k → ¬ G k) : SndAt F w' a s := by
  obtain ⟨h1, h2, av, vs, D, hb, hA, hl, hav, hD, hp⟩ := h
  exact ⟨fun k hk => Nat.lt_of_lt_of_le (h1 k hk) hf.size, h2, av, vs, D, hf.get hb (hd a h2), hA.fr hf (fun k hk => hd k (hav k hk).1), hl, hav, hD, fun i x p hx hq => (hp i x p hx hq).fr hf (fun k hk => hd k (hD k hk).1)⟩
theorem SndAt.below {F : Nat → Prop} {w w' : World} {a : Nat} {s : Snd} (h : SndAt F w a s) (hb : Below w.heap.size w w') : SndAt F w' a s := h.fr (G := fun _ => False) (.of_below hb) (fun _ _ h => h)
theorem SndAt.drew {F : Nat → Prop} {w : World} {a : Nat} {s : Snd} (h : SndAt F w a s) : SndAt F w.drew a s := h.below (bl_drew (bl_refl w))
/-- Its four cells. -/
theorem cells_of4 {W : World} {g : Nat} {a b c d : Value} {t : TypeId} (hb : W.heap[g]? = some (.cells #[a, b, c, d] t (0, 0))) :
    W.cell? ⟨g, 0, none⟩ = some a ∧ W.cell? ⟨g, 1, none⟩ = some b ∧ W.cell? ⟨g, 2, none⟩ = some c ∧ W.cell? ⟨g, 3, none⟩ = some d := by
  refine ⟨?_, ?_, ?_, ?_⟩ <;> (rw [cell_of_row _ _ _ _ _ _ hb]; rfl)
theorem frozen_of' {W : World} {g j : Nat} {cs : Array Value} {t : TypeId} (h : W.heap[g]? = some (.cells cs t (0, 0))) : W.frozen? ⟨g, j, none⟩ = false := by
  simp [World.frozen?, h]
theorem heap_set_box' (W : World) (g j : Nat) (cs : Array Value) (t : TypeId) (v : Value) (h : W.heap[g]? = some (.cells cs t (0, 0))) : (W.setCell ⟨g, j, none⟩ v).heap[g]? = some (.cells (cs.setIfInBounds j v) t (0, 0)) := by
  simp [World.setCell, Array.getElem?_modify, h]
theorem infoBytes : (Try.prog.info? 22).map (fun i => (i.zero, i.size, i.bytes)) = some (some (.slice none 0 0), 1, 24) := by kernel_rfl
theorem infoByte' : (Try.prog.info? 5).map (fun i => (i.zero, i.size, i.bytes)) = some (some (.int .u8 0), 1, 1) := by kernel_rfl

theorem owns_form' {w : World} {base : Nat} {e : TypeId} {s : Nat} {v : Value} {n : Nat} {xs : List Value} (h : w.ownsRow base e s v n xs) : ∃ ao cap, v = .slice ao n cap := by
  rcases h.2 with ⟨rfl, h0⟩ | ⟨g, cap, cur, rfl, _⟩
  · exact ⟨none, 0, by rw [h0]⟩
  · exact ⟨_, _, rfl⟩

theorem snew_bad (n : Int) (h : n < 1 ∨ 63 < n) (w : World) :
    Calls Try.prog 55 #[.int .i64 n] w fun e w' => e = .returned (.tuple #[.pointer none, .int .i64 1]) ∧ w = w' := by
  rcases h with h | h
  · go_enter Try.func55, Try.ntmps55
    go_wp2
    go_ret2
    exact ⟨rfl, rfl⟩
  · have h1 : ¬ n < 1 := by omega
    go_enter Try.func55, Try.ntmps55
    go_wp2
    go_ret2
    exact ⟨rfl, rfl⟩

theorem snew_ok (n : Nat) (h1 : 1 ≤ n) (h2 : n ≤ 63) (w : World) :
    Calls Try.prog 55 #[.int .i64 n] w fun e w' => e = .returned (.tuple #[.pointer (some ⟨w.heap.size, 0, none⟩), .int .i64 0]) ∧ SndAt (fun k => k = w.heap.size) w' w.heap.size ⟨n, 0, [], 0⟩ ∧ Below w.heap.size w w' := by
  go_enter Try.func55, Try.ntmps55
  go_wp2
  go_ret2
  refine ⟨rfl, ⟨fun k hk => by subst hk; simp, rfl, .slice none 0 0, [], fun _ => False, heap_alloc_new _ _, ArrAt.nil _ _, rfl, fun k hk => by simp [Value.ownBlock] at hk, fun _ h => h.elim, fun i x p hx => by simp at hx⟩, bl_alloc (bl_refl w) _⟩

theorem slen_any (F : Nat → Prop) (a : Nat) (s : Snd) (w : World) (hs : SndAt F w a s) :
    Calls Try.prog 30 #[.pointer (some ⟨a, 0, none⟩)] w fun e w' => e = .returned (.int .i64 s.ps.length) ∧ w = w' := by
  obtain ⟨h1, h2, av, vs, D, hb, hA, hl, hav, hD, hp⟩ := hs
  obtain ⟨ao, cap, rfl, _⟩ := hA.form
  rw [hl] at hb
  obtain ⟨c0, c1, c2, c3⟩ := cells_of4 hb
  clear hp hav hD h1 hA hl
  go_enter Try.func30, Try.ntmps30
  go_wp2
  go_ret
  exact ⟨rfl, rfl⟩

end Go.Proofs.Ythmdibagcbbgoaa

namespace Go.Proofs.Ythmdibagcbbgoaa
open Go.RowKit
attribute [local go_sem ↓] Go.wp_at_zero Go.wp_at_succ

/-- Why a payload may not be pushed. -/
def Snd.pushE (s : Snd) (p : List Int) : Int := if p.length = 0 then 2 else if 121 < p.length then 3 else if 64 ≤ s.ps.length then 6 else 0
def Snd.push (s : Snd) (p : List Int) : Snd := if s.pushE p = 0 then { s with ps := s.ps ++ [p] } else s
theorem pushE_zero {s : Snd} {p : List Int} (h : s.pushE p = 0) : (1 ≤ p.length ∧ p.length ≤ 121) ∧ s.ps.length < 64 := by
  unfold Snd.pushE at h
  by_cases h1 : p.length = 0
  · rw [if_pos h1] at h; omega
  rw [if_neg h1] at h
  by_cases h2 : 121 < p.length
  · rw [if_pos h2] at h; omega
  rw [if_neg h2] at h
  by_cases h3 : 64 ≤ s.ps.length
  · rw [if_pos h3] at h; omega
  omega
theorem Snd.push_ok {s : Snd} (h : s.Ok) (p : List Int) : (s.push p).Ok := by
  unfold Snd.push
  split
  · rename_i hz
    obtain ⟨⟨h1, h2⟩, h3⟩ := pushE_zero hz
    exact ⟨h.size1, h.size2, h.base, by have := h.under1; simp; omega, h.under2, by simp; omega, fun q hq => by
      rcases List.mem_append.1 hq with h4 | h4
      · exact h.pay q h4
      · simp at h4; subst h4; exact ⟨h1, h2⟩⟩
  · exact h

theorem spush_bad (F : Nat → Prop) (a : Nat) (s : Snd) (v : Value) (p : List Int) (w : World) (hs : SndAt F w a s) (hr : Reads (Value.int .u8) w v p) (h : s.pushE p ≠ 0) :
    Calls Try.prog 23 #[.pointer (some ⟨a, 0, none⟩), v] w fun e w' => e = .returned (.int .i64 (s.pushE p)) ∧ w = w' := by
  obtain ⟨h1, h2, av, vs, D, hb, hA, hl, hav, hD, hp⟩ := hs
  obtain ⟨ao, cap, rfl, _⟩ := hA.form
  rw [hl] at hb
  obtain ⟨c0, c1, c2, c3⟩ := cells_of4 hb
  obtain ⟨hm, ao', cap', rfl, _, _⟩ := hr
  unfold maxLen at hm
  clear hp hav hD h1 hA hl hb
  unfold Snd.pushE at *
  by_cases g1 : p.length = 0
  · rw [if_pos g1] at *
    have gg := Lib.hid g1
    have g1' : ((p.length : Int) == 0) = true := by simpa using g1
    clear g1 h
    go_enter Try.func23, Try.ntmps23
    go_wp2
    go_ret
    exact ⟨rfl, rfl⟩
  rw [if_neg g1] at *
  have g1' : ((p.length : Int) == 0) = false := by simpa using g1
  by_cases g2 : 121 < p.length
  · rw [if_pos g2] at *
    clear g1 h
    go_enter Try.func23, Try.ntmps23
    go_wp2
    go_ret
    exact ⟨rfl, rfl⟩
  rw [if_neg g2] at *
  by_cases g3 : 64 ≤ s.ps.length
  · rw [if_pos g3] at *
    clear g1 h
    go_enter Try.func23, Try.ntmps23
    go_wp2
    go_ret
    exact ⟨rfl, rfl⟩
  · rw [if_neg g3] at h
    exact absurd rfl h

theorem held_c {w w' : World} {a i : Nat} {v : Value} {cs : Array Value} {t : TypeId} (hb : w.heap[a]? = some (.cells cs t (0, 0))) (hv : cs[i]? = some v) (h : Below w.heap.size w w') : Below w.heap.size w w' ∧ w'.cell? ⟨a, i, none⟩ = some v ∧ w'.frozen? ⟨a, i, none⟩ = false :=
  ⟨h, by rw [cell_of_row _ _ _ _ _ _ (bl_get h hb)]; exact hv, frozen_of' (bl_get h hb)⟩

/-- The three forms of a row's value. -/
theorem ArrAt.three {w : World} {e : TypeId} {v : Value} {vs : List Value} (h : ArrAt w e v vs) : (v = .slice none 0 0 ∧ vs = []) ∨ (∃ g off cap, v = .slice (some ⟨g, off, none⟩) 0 cap ∧ vs = []) ∨ ∃ g off n cap, v = .slice (some ⟨g, off, none⟩) n cap ∧ vs.length = n ∧ 0 < n ∧ n ≤ cap ∧ cap ≤ maxLen := by
  rcases h with h | ⟨g, off, cap, cur, rfl, _, _, h1, h2, _⟩
  · exact .inl h
  · by_cases h0 : vs.length = 0
    · exact .inr (.inl ⟨g, off, cap, by rw [h0], List.eq_nil_of_length_eq_zero h0⟩)
    · exact .inr (.inr ⟨g, off, vs.length, cap, rfl, rfl, by omega, h1, h2⟩)

theorem owns_mono2 {w : World} {b0 b1 : Nat} {e : TypeId} {s : Nat} {v : Value} {n : Nat} {xs : List Value} (h : w.ownsRow b1 e s v n xs) (hle : b0 ≤ b1) : w.ownsRow b0 e s v n xs := by
  refine ⟨h.1, ?_⟩
  rcases h.2 with h2 | ⟨g, cap, cur, hv, hb, r⟩
  · exact .inl h2
  · exact .inr ⟨g, cap, cur, hv, by omega, r⟩

set_option maxRecDepth 100000 in
set_option maxHeartbeats 1000000 in
theorem push_row (a size base under : Nat) (av : Value) (vs : List Value) (po : Option Addr) (pcap : Nat) (p : List Int) (w : World) (hb : w.heap[a]? = some (.cells #[.int .i64 size, .int .i64 base, av, .int .i64 under] 86 (0, 0)))
    (hA : ArrAt w 22 av vs) (hr0 : Reads (Value.int .u8) w (.slice po p.length pcap) p) (q1 : 1 ≤ p.length) (q2 : p.length ≤ 121) (q3 : vs.length < 64) :
    Calls Try.prog 23 #[.pointer (some ⟨a, 0, none⟩), .slice po p.length pcap] w fun e w' => e = .returned (.int .i64 0) ∧
      ∃ (W1 W2 : World) (u v' : Value), Below w.heap.size w W1 ∧ W1.ownsRow w.heap.size 5 1 u p.length (p.map (Value.int .u8)) ∧ Below W1.heap.size W1 W2 ∧ W2.ownsRow W1.heap.size 22 1 v' (vs.length + 1) (vs ++ [u]) ∧
        w' = W2.setCell ⟨a, 2, none⟩ v' := by
  obtain ⟨i0, hi, hz0, hz1, hz2⟩ := info_parts infoByte'
  obtain ⟨j0, hj, hy0, hy1, hy2⟩ := info_parts infoBytes
  obtain ⟨c0, c1, c2, c3⟩ := cells_of4 hb
  have g1 : ((p.length : Int) == 0) = false := by simp; intro h; subst h; simp at q1
  have hfull : ∀ ao n cap, av = .slice ao n cap → Reads id w (.slice ao n n) vs := fun ao n cap h => by subst h; exact hA.full
  rcases hA.three with ⟨rfl, rfl⟩ | ⟨g, off, cap, rfl, rfl⟩ | ⟨g, off, n, cap, rfl, hn, hn0, hnc, hcm⟩
  · have hfull := Lib.hid (hfull _ _ _ rfl)
    clear hA q3
    go_enter Try.func23, Try.ntmps23
    go_wp2_with fail
    refine wp_region_ord (n := 23) (S := fun w' => Below w.heap.size w w' ∧ w'.cell? ⟨a, 2, none⟩ = some (.slice none 0 0) ∧ w'.frozen? ⟨a, 2, none⟩ = false)
      [(0, true), (1, true), (2, true), (3, true), (4, true), (5, true), (6, true), (7, true), (8, true), (9, true), (10, true), (11, true), (12, true), (13, true), (14, true), (15, true), (17, true), (16, false), (18, false), (19, false), (20, false), (21, true), (22, true), (23, false)]
      (by kernel_rfl) (fun _ _ d _ _ h => by cases d <;> exact h) (by kernel_rfl) (held_c hb rfl (bl_drew (bl_refl _))) ?_
    iterate 17
      refine wpOrd_take (v := ?_) rfl (by rfl) ?_ ?_
      rotate_left
      focus (rintro w1 ⟨_, _, _⟩; go_simp; try with_reducible rfl)
      simp only [Act.put, List.setIfInBounds_toArray]
    refine wpOrd_step rfl (by rfl) (fun K hK => ?_)
    go_simp
    refine hK.out _ _ (held_c hb rfl (bl_alloc (bl_drew (bl_refl _)) _)) ?_
    clear hK K
    try simp only [Act.put, List.setIfInBounds_toArray]
    refine wpOrd_step rfl (by rfl) (fun K hK => ?_)
    refine wp_append_r _ (.tmp 39) (.tmp 40) _ (by rfl) w.heap.size 5 i0 (.int .u8 0) 1 Try.underlying22 hi hz0 hz1 hz2 (by rfl) _ _ _ (by rfl) (owns_empty w.drew 5 (Nat.le_refl _)) (Value.int .u8) _ p (by rfl) (hr0.below (bl_alloc (bl_drew (bl_refl _)) _)) (by intros; rfl) (by simp [maxLen]; omega) (by simp; omega) (by simp) ?_
    intro u W2 hO2 hg2
    have hB2 : Below w.heap.size w W2 := bl_grown (bl_alloc (bl_drew (bl_refl _)) _) hg2 (by intro k hk; cases hk; exact Nat.le_refl _)
    simp only [Nat.zero_add, List.nil_append] at hO2
    obtain ⟨ao2, cap2, rfl⟩ := owns_form' hO2
    refine hK.out _ _ (held_c hb rfl hB2) ?_
    clear hK K hg2
    try simp only [Act.put, List.setIfInBounds_toArray]
    refine wpOrd_step rfl (by rfl) (fun K hK => ?_)
    go_simp
    refine hK.out _ _ (held_c hb rfl (bl_alloc hB2 _)) ?_
    clear hK K
    try simp only [Act.put, List.setIfInBounds_toArray]
    refine wpOrd_step rfl (by rfl) (fun K hK => ?_)
    refine wp_append_full _ (.tmp 38) (.tmp 42) _ (by rfl) 22 j0 (.slice none 0 0) 24 Try.underlying35 hj hy0 hy1 hy2 (by rfl) (none) 0 [] (by rfl) (hfull.out.below (bl_alloc hB2 _)) ⟨W2.heap.size, 0, none⟩ 1 1 [.slice ao2 p.length cap2] (by rfl) rfl (by decide) (cell_one_new _ _ _) (by simp [Value.oneCell']) (by simp only [maxLen]; omega) (by omega) ?_
    intro v' W4 hO4 hB4
    have hB5 := bl_trans (bl_alloc hB2 _) hB4
    obtain ⟨ao4, cap4, rfl⟩ := owns_form' hO4
    refine hK.out _ _ (held_c hb rfl hB5) ?_
    clear hK K
    try simp only [Act.put, List.setIfInBounds_toArray]
    iterate 2
      refine wpOrd_take (v := ?_) rfl (by rfl) ?_ ?_
      rotate_left
      focus (rintro w1 ⟨_, _, _⟩; go_simp; try with_reducible rfl)
      simp only [Act.put]
    obtain ⟨_, d2, f2⟩ := held_c hb (i := 2) rfl hB5
    refine wpOrd_last rfl (by rfl) (fun K hK => ?_)
    go_simp
    refine hK.out _ _ ?_
    clear hK K
    refine wpOrd_nil ?_
    go_wp2
    go_ret
    exact ⟨rfl, W2, W4, _, _, hB2, hO2, bl_trans (bl_alloc (bl_refl _) _) hB4, owns_mono2 hO4 (by simp), rfl⟩
  · have hfull := Lib.hid (hfull _ _ _ rfl)
    clear hA q3
    go_enter Try.func23, Try.ntmps23
    go_wp2_with fail
    refine wp_region_ord (n := 23) (S := fun w' => Below w.heap.size w w' ∧ w'.cell? ⟨a, 2, none⟩ = some (.slice (some ⟨g, off, none⟩) 0 cap) ∧ w'.frozen? ⟨a, 2, none⟩ = false)
      [(0, true), (1, true), (2, true), (3, true), (4, true), (5, true), (6, true), (7, true), (8, true), (9, true), (10, true), (11, true), (12, true), (13, true), (14, true), (15, true), (17, true), (16, false), (18, false), (19, false), (20, false), (21, true), (22, true), (23, false)]
      (by kernel_rfl) (fun _ _ d _ _ h => by cases d <;> exact h) (by kernel_rfl) (held_c hb rfl (bl_drew (bl_refl _))) ?_
    iterate 17
      refine wpOrd_take (v := ?_) rfl (by rfl) ?_ ?_
      rotate_left
      focus (rintro w1 ⟨_, _, _⟩; go_simp; try with_reducible rfl)
      simp only [Act.put, List.setIfInBounds_toArray]
    refine wpOrd_step rfl (by rfl) (fun K hK => ?_)
    go_simp
    refine hK.out _ _ (held_c hb rfl (bl_alloc (bl_drew (bl_refl _)) _)) ?_
    clear hK K
    try simp only [Act.put, List.setIfInBounds_toArray]
    refine wpOrd_step rfl (by rfl) (fun K hK => ?_)
    refine wp_append_r _ (.tmp 39) (.tmp 40) _ (by rfl) w.heap.size 5 i0 (.int .u8 0) 1 Try.underlying22 hi hz0 hz1 hz2 (by rfl) _ _ _ (by rfl) (owns_empty w.drew 5 (Nat.le_refl _)) (Value.int .u8) _ p (by rfl) (hr0.below (bl_alloc (bl_drew (bl_refl _)) _)) (by intros; rfl) (by simp [maxLen]; omega) (by simp; omega) (by simp) ?_
    intro u W2 hO2 hg2
    have hB2 : Below w.heap.size w W2 := bl_grown (bl_alloc (bl_drew (bl_refl _)) _) hg2 (by intro k hk; cases hk; exact Nat.le_refl _)
    simp only [Nat.zero_add, List.nil_append] at hO2
    obtain ⟨ao2, cap2, rfl⟩ := owns_form' hO2
    refine hK.out _ _ (held_c hb rfl hB2) ?_
    clear hK K hg2
    try simp only [Act.put, List.setIfInBounds_toArray]
    refine wpOrd_step rfl (by rfl) (fun K hK => ?_)
    go_simp
    refine hK.out _ _ (held_c hb rfl (bl_alloc hB2 _)) ?_
    clear hK K
    try simp only [Act.put, List.setIfInBounds_toArray]
    refine wpOrd_step rfl (by rfl) (fun K hK => ?_)
    refine wp_append_full _ (.tmp 38) (.tmp 42) _ (by rfl) 22 j0 (.slice none 0 0) 24 Try.underlying35 hj hy0 hy1 hy2 (by rfl) (some ⟨g, off, none⟩) 0 [] (by rfl) (hfull.out.below (bl_alloc hB2 _)) ⟨W2.heap.size, 0, none⟩ 1 1 [.slice ao2 p.length cap2] (by rfl) rfl (by decide) (cell_one_new _ _ _) (by simp [Value.oneCell']) (by simp only [maxLen]; omega) (by omega) ?_
    intro v' W4 hO4 hB4
    have hB5 := bl_trans (bl_alloc hB2 _) hB4
    obtain ⟨ao4, cap4, rfl⟩ := owns_form' hO4
    refine hK.out _ _ (held_c hb rfl hB5) ?_
    clear hK K
    try simp only [Act.put, List.setIfInBounds_toArray]
    iterate 2
      refine wpOrd_take (v := ?_) rfl (by rfl) ?_ ?_
      rotate_left
      focus (rintro w1 ⟨_, _, _⟩; go_simp; try with_reducible rfl)
      simp only [Act.put]
    obtain ⟨_, d2, f2⟩ := held_c hb (i := 2) rfl hB5
    refine wpOrd_last rfl (by rfl) (fun K hK => ?_)
    go_simp
    refine hK.out _ _ ?_
    clear hK K
    refine wpOrd_nil ?_
    go_wp2
    go_ret
    exact ⟨rfl, W2, W4, _, _, hB2, hO2, bl_trans (bl_alloc (bl_refl _) _) hB4, owns_mono2 hO4 (by simp), rfl⟩
  · have hn := Lib.hid hn
    rw [hn.out] at q3
    have e1 : (0 : Int) ≤ (n : Int) := by omega
    have e2 : (n : Int) ≤ (cap : Int) := by omega
    have e3 : ¬ n = 0 := by omega
    unfold maxLen at hcm
    have hfull := Lib.hid (hfull _ _ _ rfl)
    clear hA
    go_enter Try.func23, Try.ntmps23
    go_wp2_with fail
    refine wp_region_ord (n := 23) (S := fun w' => Below w.heap.size w w' ∧ w'.cell? ⟨a, 2, none⟩ = some (.slice (some ⟨g, off, none⟩) n cap) ∧ w'.frozen? ⟨a, 2, none⟩ = false)
      [(0, true), (1, true), (2, true), (3, true), (4, true), (5, true), (6, true), (7, true), (8, true), (9, true), (10, true), (11, true), (12, true), (13, true), (14, true), (15, true), (17, true), (16, false), (18, false), (19, false), (20, false), (21, true), (22, true), (23, false)]
      (by kernel_rfl) (fun _ _ d _ _ h => by cases d <;> exact h) (by kernel_rfl) (held_c hb rfl (bl_drew (bl_refl _))) ?_
    iterate 17
      refine wpOrd_take (v := ?_) rfl (by rfl) ?_ ?_
      rotate_left
      focus (rintro w1 ⟨_, _, _⟩; go_simp; try with_reducible rfl)
      simp only [Act.put, List.setIfInBounds_toArray]
    refine wpOrd_step rfl (by rfl) (fun K hK => ?_)
    go_simp
    refine hK.out _ _ (held_c hb rfl (bl_alloc (bl_drew (bl_refl _)) _)) ?_
    clear hK K
    try simp only [Act.put, List.setIfInBounds_toArray]
    refine wpOrd_step rfl (by rfl) (fun K hK => ?_)
    refine wp_append_r _ (.tmp 39) (.tmp 40) _ (by rfl) w.heap.size 5 i0 (.int .u8 0) 1 Try.underlying22 hi hz0 hz1 hz2 (by rfl) _ _ _ (by rfl) (owns_empty w.drew 5 (Nat.le_refl _)) (Value.int .u8) _ p (by rfl) (hr0.below (bl_alloc (bl_drew (bl_refl _)) _)) (by intros; rfl) (by simp [maxLen]; omega) (by simp; omega) (by simp) ?_
    intro u W2 hO2 hg2
    have hB2 : Below w.heap.size w W2 := bl_grown (bl_alloc (bl_drew (bl_refl _)) _) hg2 (by intro k hk; cases hk; exact Nat.le_refl _)
    simp only [Nat.zero_add, List.nil_append] at hO2
    obtain ⟨ao2, cap2, rfl⟩ := owns_form' hO2
    refine hK.out _ _ (held_c hb rfl hB2) ?_
    clear hK K hg2
    try simp only [Act.put, List.setIfInBounds_toArray]
    refine wpOrd_step rfl (by rfl) (fun K hK => ?_)
    go_simp
    refine hK.out _ _ (held_c hb rfl (bl_alloc hB2 _)) ?_
    clear hK K
    try simp only [Act.put, List.setIfInBounds_toArray]
    refine wpOrd_step rfl (by rfl) (fun K hK => ?_)
    refine wp_append_full _ (.tmp 38) (.tmp 42) _ (by rfl) 22 j0 (.slice none 0 0) 24 Try.underlying35 hj hy0 hy1 hy2 (by rfl) (some ⟨g, off, none⟩) n vs (by rfl) (hfull.out.below (bl_alloc hB2 _)) ⟨W2.heap.size, 0, none⟩ 1 1 [.slice ao2 p.length cap2] (by rfl) rfl (by decide) (cell_one_new _ _ _) (by simp [Value.oneCell']) (by simp only [maxLen]; omega) (by omega) ?_
    intro v' W4 hO4 hB4
    have hB5 := bl_trans (bl_alloc hB2 _) hB4
    obtain ⟨ao4, cap4, rfl⟩ := owns_form' hO4
    refine hK.out _ _ (held_c hb rfl hB5) ?_
    clear hK K
    try simp only [Act.put, List.setIfInBounds_toArray]
    iterate 2
      refine wpOrd_take (v := ?_) rfl (by rfl) ?_ ?_
      rotate_left
      focus (rintro w1 ⟨_, _, _⟩; go_simp; try with_reducible rfl)
      simp only [Act.put]
    obtain ⟨_, d2, f2⟩ := held_c hb (i := 2) rfl hB5
    refine wpOrd_last rfl (by rfl) (fun K hK => ?_)
    go_simp
    refine hK.out _ _ ?_
    clear hK K
    refine wpOrd_nil ?_
    go_wp2
    go_ret
    exact ⟨rfl, W2, W4, _, _, hB2, hO2, bl_trans (bl_alloc (bl_refl _) _) hB4, by rw [hn.out]; exact owns_mono2 hO4 (by simp), rfl⟩

end Go.Proofs.Ythmdibagcbbgoaa

namespace Go.Proofs.Ythmdibagcbbgoaa
open Go.RowKit

theorem spush_any (F : Nat → Prop) (a : Nat) (s : Snd) (v : Value) (p : List Int) (w : World) (hs : SndAt F w a s) (hr : Reads (Value.int .u8) w v p) (hw : ∀ n ∈ p, (Lit.int .u8 n).wf = true) :
    Calls Try.prog 23 #[.pointer (some ⟨a, 0, none⟩), v] w fun e w' => e = .returned (.int .i64 (s.pushE p)) ∧
      SndAt (fun k => F k ∨ (w.heap.size ≤ k ∧ k < w'.heap.size)) w' a (s.push p) ∧ Fr (fun k => k = a) w w' := by
  by_cases hE : s.pushE p = 0
  · obtain ⟨⟨q1, q2⟩, q3⟩ := pushE_zero hE
    have hpu : s.push p = { s with ps := s.ps ++ [p] } := by unfold Snd.push; rw [if_pos hE]
    rw [hE, hpu]
    obtain ⟨h1, h2, av, vs, D, hb, hA, hl, hav, hD, hp⟩ := hs
    obtain ⟨hm, po, pcap, rfl, hpc, hcc⟩ := hr
    refine (push_row a s.size s.base s.under av vs po pcap p w hb hA ⟨hm, po, pcap, rfl, hpc, hcc⟩ q1 q2 (by omega)).mono ?_
    rintro e w' ⟨rfl, W1, W2, u, v', hB1, hO1, hB2, hO2, rfl⟩
    have ha := h1 a h2
    have hs1 := hB1.size
    have hs2 := hB2.size
    have hBt := bl_trans hB1 hB2
    have hF := fr_cell W2 a 2 v'
    have hl' : (vs ++ [u]).length = vs.length + 1 := by simp
    have hO2' : W2.ownsRow W1.heap.size 22 1 v' (vs ++ [u]).length (vs ++ [u]) := by rw [hl']; exact hO2
    have hsz : (W2.setCell ⟨a, 2, none⟩ v').heap.size = W2.heap.size := by simp [World.setCell]
    have hu : Byt (fun k => w.heap.size ≤ k ∧ k < W1.heap.size) W1 u p := ⟨Rd.of_owns hO1 (by unfold maxLen; omega), hw⟩
    refine ⟨rfl, ⟨fun k hk => ?_, .inl h2, v', vs ++ [u], fun k => D k ∨ (w.heap.size ≤ k ∧ k < W1.heap.size), ?_, ?_, by simp [hl], fun k hk => ?_, fun k hk => ?_, fun i x q hx hq => ?_⟩, (Fr.of_below hBt).trans hF (fun i hi => .inl hi)⟩
    · rw [hsz] at hk ⊢
      rcases hk with hk | hk
      · have := h1 k hk; omega
      · exact hk.2
    · exact heap_set_box' _ _ _ _ _ _ (bl_get hBt hb)
    · exact (ArrAt.of_owns hO2').fr hF (fun k hk => by have := hO2.lt k hk; omega)
    · have := hO2.lt k hk
      rw [hsz]
      refine ⟨.inr ⟨by omega, this.2⟩, by omega, fun hd => ?_⟩
      rcases hd with hd | hd
      · have := h1 k (hD k hd).1; omega
      · omega
    · rw [hsz]
      rcases hk with hk | hk
      · exact ⟨.inl (hD k hk).1, (hD k hk).2⟩
      · exact ⟨.inr ⟨hk.1, by omega⟩, by omega⟩
    · by_cases hi : i < vs.length
      · rw [List.getElem?_append_left hi] at hx
        rw [List.getElem?_append_left (by omega)] at hq
        exact (((hp i x q hx hq).below hBt).fr hF (fun k hk => (hD k hk).2)).mono (fun k hk => .inl hk)
      · have hlt := (List.getElem?_eq_some_iff.1 hx).1
        simp only [List.length_append, List.length_singleton] at hlt
        have hi' : i = vs.length := by omega
        subst hi'
        have hx' : x = u := by simpa using hx.symm
        have hq' : q = p := by
          rw [hl] at hq
          simpa using hq.symm
        subst hx' hq'
        exact ((hu.below hB2).fr hF (fun k hk => by omega)).mono (fun k hk => .inr hk)
  · have hpu : s.push p = s := by unfold Snd.push; rw [if_neg hE]
    rw [hpu]
    refine (spush_bad F a s v p w hs hr hE).mono ?_
    rintro e w' ⟨rfl, rfl⟩
    refine ⟨rfl, ?_, Fr.refl _ _⟩
    obtain ⟨h1, h2, av, vs, D, hb, hA, hl, hav, hD, hp⟩ := hs
    exact ⟨fun k hk => by rcases hk with hk | hk; exact h1 k hk; omega, .inl h2, av, vs, D, hb, hA, hl, fun k hk => ⟨.inl (hav k hk).1, (hav k hk).2⟩, fun k hk => ⟨.inl (hD k hk).1, (hD k hk).2⟩, hp⟩

end Go.Proofs.Ythmdibagcbbgoaa
