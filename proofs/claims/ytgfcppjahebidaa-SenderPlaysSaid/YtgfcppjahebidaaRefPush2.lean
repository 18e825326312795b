/- The reference's sender: Push where it pushes. Written by program (gen_refpush.py). Conditions: as they stand. -/
import Derived.WalkKit
import Derived.Lib.Hide
import Derived.BigQuiet
import Derived.Handy
import Derived.Test.YtgfcppjahebidaaRefPush
import Derived.Test.YtgfcppjahebidaaOrd2
namespace Go.Proofs.Ytgfcppjahebidaa
open Go.RowKit

theorem set_four (W : World) (g : Nat) (a b c d a' b' c' d' : Value) (t : TypeId) (h : W.heap[g]? = some (.cells #[a, b, c, d] t (0, 0))) : ((((W.setCell ⟨g, 0, none⟩ a').setCell ⟨g, 1, none⟩ b').setCell ⟨g, 2, none⟩ c').setCell ⟨g, 3, none⟩ d').heap[g]? = some (.cells #[a', b', c', d'] t (0, 0)) :=
  heap_set_box' _ _ _ _ _ _ (heap_set_box' _ _ _ _ _ _ (heap_set_box' _ _ _ _ _ _ (heap_set_box' _ _ _ _ _ _ h)))
theorem fr_four (W : World) (g : Nat) (a' b' c' d' : Value) : Fr (fun k => k = g) W ((((W.setCell ⟨g, 0, none⟩ a').setCell ⟨g, 1, none⟩ b').setCell ⟨g, 2, none⟩ c').setCell ⟨g, 3, none⟩ d') :=
  (((fr_cell W g 0 a').trans (fr_cell _ g 1 b') (fun _ h => .inl h)).trans (fr_cell _ g 2 c') (fun _ h => .inl h)).trans (fr_cell _ g 3 d') (fun _ h => .inl h)

set_option maxRecDepth 100000 in
set_option maxHeartbeats 2000000 in
theorem rpush_ok (R : Nat → Prop) (s : Snd) (v u : Value) (p : List Int) (w : World) (hP : Pays R w v s.ps) (hr : Reads (Value.int .u8) w u p) (hw : ∀ n ∈ p, (Lit.int .u8 n).wf = true) (hE : s.pushE p = 0) :
    Calls Try.prog 31 #[refV s v, u] w fun e w' => ∃ v', e = .returned (.tuple #[refV (s.push p) v', .int .i64 0]) ∧ Pays (fun k => R k ∨ (w.heap.size ≤ k ∧ k < w'.heap.size)) w' v' (s.push p).ps ∧ Below w.heap.size w w' := by
  obtain ⟨ao, cap, rfl, hc, _⟩ := hP.form
  obtain ⟨po, pcap, rfl⟩ : ∃ po pcap, u = .slice po p.length pcap := by
    obtain ⟨_, po, pcap, h, _⟩ := hr
    exact ⟨po, pcap, h⟩
  obtain ⟨vs, hvl, hvs, hel⟩ := hP
  obtain ⟨⟨q1, q2⟩, q3⟩ := pushE_zero hE
  have hpn : payN p = 0 := by unfold payN; rw [if_neg (by omega), if_neg (by omega)]
  have hpu : s.push p = { s with ps := s.ps ++ [p] } := by unfold Snd.push; rw [if_pos hE]
  rw [hpu]
  clear hE hpu
  unfold refV
  obtain ⟨W0, hW0⟩ : ∃ W0, (w.alloc (.cells #[.int .i64 s.size, .int .i64 s.base, .slice ao s.ps.length cap, .int .i64 s.under] 51)).alloc (.cells #[.int .i64 0, .int .i64 0, .slice none 0 0, .int .i64 0] 51) = W0 := ⟨_, rfl⟩
  have hB0 : Below w.heap.size w W0 := by rw [← hW0]; exact bl_alloc (bl_alloc (bl_refl w) _) _
  have hx1 : W0.heap[w.heap.size]? = some (.cells #[.int .i64 s.size, .int .i64 s.base, .slice ao s.ps.length cap, .int .i64 s.under] 51 (0, 0)) := by rw [← hW0]; exact kept_alloc (heap_alloc_new w _) _
  have hx2 : W0.heap[w.heap.size + 1]? = some (.cells #[.int .i64 0, .int .i64 0, .slice none 0 0, .int .i64 0] 51 (0, 0)) := by
    rw [← hW0]
    have := heap_alloc_new (w.alloc (.cells #[.int .i64 s.size, .int .i64 s.base, .slice ao s.ps.length cap, .int .i64 s.under] 51)) (.cells #[.int .i64 0, .int .i64 0, .slice none 0 0, .int .i64 0] 51)
    simpa using this
  obtain ⟨c0, c1, c2, c3⟩ := cells_of4 hx1
  have c2' := below_cell (bl_alloc (bl_refl W0) (.cells #[] 28)) c2
  have hr0 := hr.below hB0
  have hvs0 := (hvs.1.below hB0).below (bl_alloc (bl_refl W0) (.cells #[] 28))
  have hone : ∀ y ∈ vs, (id y : Value).oneCell' = true := by
    intro y hy
    obtain ⟨i, hi⟩ := List.mem_iff_getElem?.1 hy
    obtain ⟨q, hq⟩ := get_some (xs := s.ps) (k := i) (by rw [← hvl]; exact (List.getElem?_eq_some_iff.1 hi).1)
    obtain ⟨⟨⟨_, yo, yc, rfl, _⟩, _⟩, _⟩ := hel i y q hi hq
    rfl
  obtain ⟨j0, hj, hy0, hy1, hy2⟩ := info_parts infoBytes
  obtain ⟨i0, hi, hz0, hz1, hz2⟩ := info_parts infoByte'
  have A1 : 0 + vs.length ≤ maxLen := by simp only [maxLen]; omega
  have A2 : (0 + vs.length) * 24 ≤ 140737488355328 := by omega
  have A3 : w.heap.size ≤ (W0.alloc (.cells #[] 28)).heap.size := (bl_alloc hB0 _).size
  have P1 : 0 + p.length ≤ maxLen := by simp only [maxLen]; omega
  have P2 : (0 + p.length) * 1 ≤ 140737488355328 := by omega
  have Q1 : s.ps.length + 1 ≤ maxLen := by simp only [maxLen]; omega
  have Q2 : (s.ps.length + 1) * 24 ≤ 140737488355328 := by omega
  have hLI : (s.ps.length : Int) < 64 := by omega
  go_enter Try.func31, Try.ntmps31
  go_wp2_with fail
  try simp only [hW0]
  refine (rpay_any _ p _ hr0).mono ?_
  rintro e w' ⟨rfl, rfl⟩
  rw [hpn]
  go_wp2_with (at_builtin; refine wpList_append_r _ rfl _ _ 38 rfl W0.heap.size 28 j0 (.slice none 0 0) 24 Try.underlying38 hj hy0 hy1 hy2 rfl _ _ _ rfl (owns_empty W0 28 (Nat.le_refl _)) id _ vs rfl hvs0 hone A1 A2 (by simp) ?_; intro l1 w4 hown4 hgrow4 hne4)
  simp only [Nat.zero_add, List.nil_append, List.map_id, hvl] at hown4
  have hb4 : Below W0.heap.size W0 w4 := bl_grown (bl_alloc (bl_refl W0) _) hgrow4 (by intro k hk; cases hk; exact Nat.le_refl _)
  have hx10 := hx1
  have hx20 := Lib.hid hx2
  have hx1 := bl_get hb4 hx1
  have hx2 := bl_get hb4 hx2
  have hr4 := hr0.below hb4
  clear c0 c1 c2 c3 c2' hvs0 hgrow4 hne4 A1 A2 A3
  have hx10 := Lib.hid hx10
  have HSb : ∀ w' : World, Below W0.heap.size W0 w' → (fun w' : World => w'.cell? ⟨w.heap.size, 0, none⟩ = some (.int .i64 s.size) ∧ w'.cell? ⟨w.heap.size, 1, none⟩ = some (.int .i64 s.base) ∧ w'.cell? ⟨w.heap.size, 3, none⟩ = some (.int .i64 s.under)) w' := fun w' hb => by
    obtain ⟨c0, c1, _, c3⟩ := cells_of4 (bl_get hb hx10.out)
    exact ⟨c0, c1, c3⟩
  obtain ⟨lo, lc, rfl⟩ := owns_form' hown4
  go_wp2_with fail
  refine wp_region_order (fun w' => w'.cell? ⟨w.heap.size, 0, none⟩ = some (.int .i64 s.size) ∧ w'.cell? ⟨w.heap.size, 1, none⟩ = some (.int .i64 s.base) ∧ w'.cell? ⟨w.heap.size, 3, none⟩ = some (.int .i64 s.under))
    [(0, 0), (1, 1), (2, 0), (3, 1), (4, 0), (6, 0), (10, 0), (11, 1), (5, 2), (7, 2), (8, 2), (9, 2), (12, 0)] [(13, false), (14, false)] [13, 14] []
    (by kernel_rfl) (fun _ _ d _ _ h => by cases d <;> exact h) (by decide +kernel) (HSb _ (by first | exact hb4 | exact bl_drew hb4)) ?_
  refine wpHead_free (v := ?_) rfl (by rfl) ?_ ?_
  rotate_left
  focus (intro w1; go_simp; try with_reducible rfl)
  simp only [Act.put, List.setIfInBounds_toArray]
  refine wpHead_take (v := ?_) rfl (by rfl) ?_ ?_
  rotate_left
  focus (rintro w1 ⟨q0, q1, q3⟩; go_simp; try with_reducible rfl)
  simp only [Act.put]
  refine wpHead_free (v := ?_) rfl (by rfl) ?_ ?_
  rotate_left
  focus (intro w1; go_simp; try with_reducible rfl)
  simp only [Act.put]
  refine wpHead_take (v := ?_) rfl (by rfl) ?_ ?_
  rotate_left
  focus (rintro w1 ⟨q0, q1, q3⟩; go_simp; try with_reducible rfl)
  simp only [Act.put]
  refine wpHead_free (v := ?_) rfl (by rfl) ?_ ?_
  rotate_left
  focus (intro w1; go_simp; try with_reducible rfl)
  simp only [Act.put]
  refine wpHead_free (v := ?_) rfl (by rfl) ?_ ?_
  rotate_left
  focus (intro w1; go_simp; try with_reducible rfl)
  simp only [Act.put]
  refine wpHead_free (v := ?_) rfl (by rfl) ?_ ?_
  rotate_left
  focus (intro w1; go_simp; try with_reducible rfl)
  simp only [Act.put]
  refine wpHead_take (v := ?_) rfl (by rfl) ?_ ?_
  rotate_left
  focus (rintro w1 ⟨q0, q1, q3⟩; go_simp; try with_reducible rfl)
  simp only [Act.put]
  refine wpHead_step rfl (by rfl) (fun K hK => ?_)
  go_simp
  refine hK.out _ _ (HSb _ (by first | exact bl_alloc hb4 _ | exact bl_alloc (bl_drew hb4) _)) ?_
  clear hK K
  try simp only [Act.put, List.setIfInBounds_toArray]
  refine wpHead_step rfl (by rfl) (fun K hK => ?_)
  refine wp_append_r _ (.tmp 27) (.tmp 28) _ (by rfl) w4.heap.size 5 i0 (.int .u8 0) 1 Try.underlying28 hi hz0 hz1 hz2 (by rfl) _ _ _ (by rfl) (owns_empty _ 5 (Nat.le_refl _)) (Value.int .u8) _ p (by rfl) (hr4.below (by first | exact bl_alloc (bl_refl _) _ | exact bl_alloc (bl_drew (bl_refl _)) _)) (by intros; rfl) P1 P2 (by simp) ?_
  intro u1 W2 hO2 hg2
  have hB2 : Below w4.heap.size w4 W2 := bl_grown (by first | exact bl_alloc (bl_refl w4) _ | exact bl_alloc (bl_drew (bl_refl w4)) _) hg2 (by intro k hk; cases hk; exact Nat.le_refl _)
  have hB20 := bl_trans hb4 hB2
  simp only [Nat.zero_add, List.nil_append] at hO2
  obtain ⟨ao2, cap2, rfl⟩ := owns_form' hO2
  refine hK.out _ _ (HSb _ hB20) ?_
  clear hK K
  try simp only [Act.put, List.setIfInBounds_toArray]
  refine wpHead_step rfl (by rfl) (fun K hK => ?_)
  go_simp
  refine hK.out _ _ (HSb _ (bl_alloc hB20 _)) ?_
  clear hK K
  try simp only [Act.put, List.setIfInBounds_toArray]
  refine wpHead_step rfl (by rfl) (fun K hK => ?_)
  refine wp_append_r _ (.tmp 26) (.tmp 30) _ (by rfl) W0.heap.size 28 j0 (.slice none 0 0) 24 Try.underlying38 hj hy0 hy1 hy2 (by rfl) _ _ _ (by rfl) (owns_fr (F := fun _ => False) hown4 (.of_below (bl_alloc hB2 _)) (fun _ _ h => h)) id _ [.slice ao2 p.length cap2] (by rfl) (reads_one id _ _ _) (by simp [Value.oneCell']) Q1 Q2 (by exact (bl_alloc hB20 _).size) ?_
  intro u2 W5 hO5 hg5
  have hB5 := bl_grown (bl_alloc hB20 _) hg5 (fun k hk => (hown4.lt k hk).1)
  have hx25 := bl_get hB5 hx20.out
  have d0 := (cells_of4 hx25).1
  have d1 := (cells_of4 hx25).2.1
  have d2 := (cells_of4 hx25).2.2.1
  have d3 := (cells_of4 hx25).2.2.2
  have f0 := frozen_of' (j := 0) hx25
  have f1 := frozen_of' (j := 1) hx25
  have f2 := frozen_of' (j := 2) hx25
  have f3 := frozen_of' (j := 3) hx25
  obtain ⟨ao5, cap5, rfl⟩ := owns_form' hO5
  refine hK.out _ _ (HSb _ hB5) ?_
  clear hK K
  try simp only [Act.put, List.setIfInBounds_toArray]
  refine wpHead_free (v := ?_) rfl (by rfl) ?_ ?_
  rotate_left
  focus (intro w1; go_simp; try with_reducible rfl)
  simp only [Act.put]
  refine wpHead_nil ?_
  refine wpTail_step rfl (by rfl) (fun K hK => ?_)
  go_simp
  refine hK.out _ _ ?_
  clear hK K
  try simp only [Act.put, List.setIfInBounds_toArray]
  refine wpTail_step rfl (by rfl) (fun K hK => ?_)
  go_simp
  refine hK.out _ _ ?_
  clear hK K
  try simp only [Act.put, List.setIfInBounds_toArray]
  refine wpTail_nil ?_
  have hW6 := set_four W5 (w.heap.size + 1) _ _ _ _ (.int .i64 s.size) (.int .i64 s.base) (.slice ao5 (s.ps.length + 1) cap5) (.int .i64 s.under) _ hx25
  have hF6 := fr_four W5 (w.heap.size + 1) (.int .i64 s.size) (.int .i64 s.base) (.slice ao5 (s.ps.length + 1) cap5) (.int .i64 s.under)
  generalize (((W5.setCell ⟨w.heap.size + 1, 0, none⟩ (.int .i64 s.size)).setCell ⟨w.heap.size + 1, 1, none⟩ (.int .i64 s.base)).setCell ⟨w.heap.size + 1, 2, none⟩ (.slice ao5 (s.ps.length + 1) cap5)).setCell ⟨w.heap.size + 1, 3, none⟩ (.int .i64 s.under) = W6 at hW6 hF6 ⊢
  have hBf : Below w.heap.size w W6 := bl_fr (bl_trans hB0 hB5) hF6 (fun k hk => by omega)
  have hsz0 := lt_of_get hx20.out
  have hsz4 := hb4.size
  clear d0 d1 d2 d3 f0 f1 f2 f3 hx25
  obtain ⟨d0, d1, d2, d3⟩ := cells_of4 hW6
  have hO5' : W5.ownsRow W0.heap.size 28 1 (.slice ao5 (s.ps.length + 1) cap5) (s.ps.length + 1) (vs ++ [.slice ao2 p.length cap2]) := by simpa using hO5
  have hO6 := owns_fr hO5' hF6 (fun k hk e => by have := (hO5'.lt k hk).1; omega)
  have hx4 : Byt (fun k => w4.heap.size ≤ k ∧ k < W2.heap.size) W2 (.slice ao2 p.length cap2) p := ⟨Rd.of_owns hO2 (by simp only [maxLen]; omega), hw⟩
  have hFg : Fr (fun k => (Value.slice lo s.ps.length lc).ownBlock = some k) _ W5 := (Fr.refl _ _).grown hg5 (fun k hk => .inl hk)
  have hx6 := ((hx4.below (bl_alloc (bl_refl W2) _)).fr hFg (fun k hk h => by have := (hown4.lt k h).2; omega)).fr hF6 (fun k hk e => by omega)
  have hszB2 := hB2.size
  have hsz5 : W2.heap.size ≤ W5.heap.size := Nat.le_trans (by simp) hFg.size
  have hsz6 := hF6.size
  clear hx4 hFg hg5 hO5 hB2 hB20 hg2
  go_wp2
  try simp only [Exit.inBlock, Exit.then]
  refine bodyPost_ret (by simp [results, Try.results31, go_sem, d0, d1, d2, d3]; try rfl) rfl ?_
  refine ⟨_, rfl, ⟨vs ++ [.slice ao2 p.length cap2], by simp [hvl], ⟨?_, fun k hk => ?_⟩, fun i x q hx hq => ?_⟩, hBf⟩
  · have e : (vs ++ [Value.slice ao2 p.length cap2]).length = s.ps.length + 1 := by simp [hvl]
    refine Reads.of_owns (base := W0.heap.size) (e := 28) ?_ (by rw [e]; exact Q1)
    rw [e, List.map_id]
    exact hO6
  · have := hO6.lt k hk
    have := hB0.size
    exact .inr ⟨by omega, by omega⟩
  · by_cases hj : i < vs.length
    · rw [List.getElem?_append_left hj] at hx
      have hq : (s.ps ++ [p])[i]? = some q := hq
      rw [List.getElem?_append_left (by rw [← hvl]; exact hj)] at hq
      exact ((hel i x q hx hq).below hBf).mono (fun k hk => .inl hk)
    · have hlt := (List.getElem?_eq_some_iff.1 hx).1
      have e : i = vs.length := by simp at hlt; omega
      subst e
      have hq : (s.ps ++ [p])[vs.length]? = some q := hq
      rw [List.getElem?_append_right (Nat.le_refl _), Nat.sub_self] at hx
      rw [hvl, List.getElem?_append_right (Nat.le_refl _), Nat.sub_self] at hq
      cases hx
      cases hq
      have := hB0.size
      exact hx6.mono (fun k hk => .inr ⟨by omega, by omega⟩)

end Go.Proofs.Ytgfcppjahebidaa
