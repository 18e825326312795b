/- The reference's sender: Push where it pushes. Written by program (gen_refpush.py). portagelaw09.cross: all that both ends sent comes to the other one. Two ends between which nothing is lost are up behind two exchanges: the plain law. No program in sight. link.New at numbers that are not right; what a nil end answers. Conditions: as they stand. -/
import Derived.WalkKit
import Derived.Lib.Hide
import Derived.BigQuiet
import Derived.Handy
import Derived.Test.YthmdibagcbbgoaaGreatM29
import Derived.Test.YthmdibagcbbgoaaGreatM09
import Derived.Test.YthmdibagcbbgoaaGreatM26
import Derived.Test.YthmdibagcbbgoaaGreatM13
namespace Go.Proofs.YthmdibagcbbgoaaGreat
open Go.RowKit

theorem set_four (W : World) (g : Nat) (a b c d a' b' c' d' : Value) (t : TypeId) (h : W.heap[g]? = some (.cells #[a, b, c, d] t (0, 0))) : ((((W.setCell ⟨g, 0, none⟩ a').setCell ⟨g, 1, none⟩ b').setCell ⟨g, 2, none⟩ c').setCell ⟨g, 3, none⟩ d').heap[g]? = some (.cells #[a', b', c', d'] t (0, 0)) :=
  heap_set_box' _ _ _ _ _ _ (heap_set_box' _ _ _ _ _ _ (heap_set_box' _ _ _ _ _ _ (heap_set_box' _ _ _ _ _ _ h)))
theorem fr_four (W : World) (g : Nat) (a' b' c' d' : Value) : Fr (fun k => k = g) W ((((W.setCell ⟨g, 0, none⟩ a').setCell ⟨g, 1, none⟩ b').setCell ⟨g, 2, none⟩ c').setCell ⟨g, 3, none⟩ d') :=
  (((fr_cell W g 0 a').trans (fr_cell _ g 1 b') (fun _ h => .inl h)).trans (fr_cell _ g 2 c') (fun _ h => .inl h)).trans (fr_cell _ g 3 d') (fun _ h => .inl h)

set_option maxRecDepth 100000 in
set_option maxHeartbeats 2000000 in
theorem rpush_ok (R : Nat → Prop) (s : Snd) (v u : Value) (p : List Int) (w : World) (hP : Pays R w v s.ps) (hr : Reads (Value.int .u8) w u p) (hw : ∀ n ∈ p, (Lit.int .u8 n).wf = true) (hE : s.pushE p = 0) :
    Calls Tryz.prog 43 #[refV s v, u] w fun e w' => ∃ v', e = .returned (.tuple #[refV (s.push p) v', .int .i64 0]) ∧ Pays (fun k => R k ∨ (w.heap.size ≤ k ∧ k < w'.heap.size)) w' v' (s.push p).ps ∧ Below w.heap.size w w' := by
  obtain ⟨ao, cap, rfl, hc, _⟩ := hP.form
  obtain ⟨po, pcap, rfl⟩ : ∃ po pcap, u = .slice po p.length pcap := by
    obtain ⟨_, po, pcap, h, _⟩ := hr
    exact ⟨po, pcap, h⟩
  obtain ⟨vs, hvl, hvs, hel⟩ := hP
  obtain ⟨⟨q1, q2⟩, q3⟩ := pushE_zero hE
  have hpn : payN p = 0 := by unfold payN; rw [if_neg (by omega), if_neg (by omega)]
  have hpu : s.push p = { s with ps := s.ps ++ [p] } := by unfold Snd.push; rw [if_pos hE]
  rw [hpu]
  clear hE hpu
  unfold refV
  obtain ⟨W0, hW0⟩ : ∃ W0, (w.alloc (.cells #[.int .i64 s.size, .int .i64 s.base, .slice ao s.ps.length cap, .int .i64 s.under] 31)).alloc (.cells #[.int .i64 0, .int .i64 0, .slice none 0 0, .int .i64 0] 31) = W0 := ⟨_, rfl⟩
  have hB0 : Below w.heap.size w W0 := by rw [← hW0]; exact bl_alloc (bl_alloc (bl_refl w) _) _
  have hx1 : W0.heap[w.heap.size]? = some (.cells #[.int .i64 s.size, .int .i64 s.base, .slice ao s.ps.length cap, .int .i64 s.under] 31 (0, 0)) := by rw [← hW0]; exact kept_alloc (heap_alloc_new w _) _
  have hx2 : W0.heap[w.heap.size + 1]? = some (.cells #[.int .i64 0, .int .i64 0, .slice none 0 0, .int .i64 0] 31 (0, 0)) := by
    rw [← hW0]
    have := heap_alloc_new (w.alloc (.cells #[.int .i64 s.size, .int .i64 s.base, .slice ao s.ps.length cap, .int .i64 s.under] 31)) (.cells #[.int .i64 0, .int .i64 0, .slice none 0 0, .int .i64 0] 31)
    simpa using this
  obtain ⟨c0, c1, c2, c3⟩ := cells_of4 hx1
  have c2' := below_cell (bl_alloc (bl_refl W0) (.cells #[] 44)) c2
  have hr0 := hr.below hB0
  have hvs0 := (hvs.1.below hB0).below (bl_alloc (bl_refl W0) (.cells #[] 44))
  have hone : ∀ y ∈ vs, (id y : Value).oneCell' = true := by
    intro y hy
    obtain ⟨i, hi⟩ := List.mem_iff_getElem?.1 hy
    obtain ⟨q, hq⟩ := get_some (xs := s.ps) (k := i) (by rw [← hvl]; exact (List.getElem?_eq_some_iff.1 hi).1)
    obtain ⟨⟨⟨_, yo, yc, rfl, _⟩, _⟩, _⟩ := hel i y q hi hq
    rfl
  obtain ⟨j0, hj, hy0, hy1, hy2⟩ := info_parts infoBytes
  obtain ⟨i0, hi, hz0, hz1, hz2⟩ := info_parts infoByte'
  have A1 : 0 + vs.length ≤ maxLen := by simp only [maxLen]; omega
  have A2 : (0 + vs.length) * 24 ≤ 140737488355328 := by omega
  have A3 : w.heap.size ≤ (W0.alloc (.cells #[] 44)).heap.size := (bl_alloc hB0 _).size
  have P1 : 0 + p.length ≤ maxLen := by simp only [maxLen]; omega
  have P2 : (0 + p.length) * 1 ≤ 140737488355328 := by omega
  have Q1 : s.ps.length + 1 ≤ maxLen := by simp only [maxLen]; omega
  have Q2 : (s.ps.length + 1) * 24 ≤ 140737488355328 := by omega
  have hLI : (s.ps.length : Int) < 64 := by omega
  go_enter Tryz.func43, Tryz.ntmps43
  go_wp2_with fail
  try simp only [hW0]
  refine (rpay_any _ p _ hr0).mono ?_
  rintro e w' ⟨rfl, rfl⟩
  rw [hpn]
  go_wp2_with (at_builtin; refine wpList_append_r _ rfl _ _ 29 rfl W0.heap.size 44 j0 (.slice none 0 0) 24 Tryz.underlying29 hj hy0 hy1 hy2 rfl _ _ _ rfl (owns_empty W0 44 (Nat.le_refl _)) id _ vs rfl hvs0 hone A1 A2 (by simp) ?_; intro l1 w4 hown4 hgrow4 hne4)
  simp only [Nat.zero_add, List.nil_append, List.map_id, hvl] at hown4
  have hb4 : Below W0.heap.size W0 w4 := bl_grown (bl_alloc (bl_refl W0) _) hgrow4 (by intro k hk; cases hk; exact Nat.le_refl _)
  have hx10 := hx1
  have hx20 := Lib.hid hx2
  have hx1 := bl_get hb4 hx1
  have hx2 := bl_get hb4 hx2
  have hr4 := hr0.below hb4
  clear c0 c1 c2 c3 c2' hvs0 hgrow4 hne4 A1 A2 A3
  have hx10 := Lib.hid hx10
  have HSb : ∀ w' : World, Below W0.heap.size W0 w' → (fun w' : World => w'.cell? ⟨w.heap.size, 0, none⟩ = some (.int .i64 s.size) ∧ w'.cell? ⟨w.heap.size, 1, none⟩ = some (.int .i64 s.base) ∧ w'.cell? ⟨w.heap.size, 3, none⟩ = some (.int .i64 s.under)) w' := fun w' hb => by
    obtain ⟨c0, c1, _, c3⟩ := cells_of4 (bl_get hb hx10.out)
    exact ⟨c0, c1, c3⟩
  obtain ⟨lo, lc, rfl⟩ := owns_form' hown4
  go_wp2_with fail
  refine wp_region_order (fun w' => w'.cell? ⟨w.heap.size, 0, none⟩ = some (.int .i64 s.size) ∧ w'.cell? ⟨w.heap.size, 1, none⟩ = some (.int .i64 s.base) ∧ w'.cell? ⟨w.heap.size, 3, none⟩ = some (.int .i64 s.under))
    [(0, 0), (1, 1), (2, 0), (3, 1), (4, 0), (6, 0), (10, 0), (11, 1), (5, 2), (7, 2), (8, 2), (9, 2), (12, 0)] [(13, false), (14, false)] [13, 14] []
    (by kernel_rfl) (fun _ _ d _ _ h => by cases d <;> exact h) (by decide +kernel) (HSb _ (by first | exact hb4 | exact bl_drew hb4)) ?_
  refine wpHead_free (v := ?_) rfl (by rfl) ?_ ?_
  rotate_left
  focus (intro w1; go_simp; try with_reducible rfl)
  simp only [Act.put, List.setIfInBounds_toArray]
  refine wpHead_take (v := ?_) rfl (by rfl) ?_ ?_
  rotate_left
  focus (rintro w1 ⟨q0, q1, q3⟩; go_simp; try with_reducible rfl)
  simp only [Act.put]
  refine wpHead_free (v := ?_) rfl (by rfl) ?_ ?_
  rotate_left
  focus (intro w1; go_simp; try with_reducible rfl)
  simp only [Act.put]
  refine wpHead_take (v := ?_) rfl (by rfl) ?_ ?_
  rotate_left
  focus (rintro w1 ⟨q0, q1, q3⟩; go_simp; try with_reducible rfl)
  simp only [Act.put]
  refine wpHead_free (v := ?_) rfl (by rfl) ?_ ?_
  rotate_left
  focus (intro w1; go_simp; try with_reducible rfl)
  simp only [Act.put]
  refine wpHead_free (v := ?_) rfl (by rfl) ?_ ?_
  rotate_left
  focus (intro w1; go_simp; try with_reducible rfl)
  simp only [Act.put]
  refine wpHead_free (v := ?_) rfl (by rfl) ?_ ?_
  rotate_left
  focus (intro w1; go_simp; try with_reducible rfl)
  simp only [Act.put]
  refine wpHead_take (v := ?_) rfl (by rfl) ?_ ?_
  rotate_left
  focus (rintro w1 ⟨q0, q1, q3⟩; go_simp; try with_reducible rfl)
  simp only [Act.put]
  refine wpHead_step rfl (by rfl) (fun K hK => ?_)
  go_simp
  refine hK.out _ _ (HSb _ (by first | exact bl_alloc hb4 _ | exact bl_alloc (bl_drew hb4) _)) ?_
  clear hK K
  try simp only [Act.put, List.setIfInBounds_toArray]
  refine wpHead_step rfl (by rfl) (fun K hK => ?_)
  refine wp_append_r _ (.tmp 27) (.tmp 28) _ (by rfl) w4.heap.size 5 i0 (.int .u8 0) 1 Tryz.underlying44 hi hz0 hz1 hz2 (by rfl) _ _ _ (by rfl) (owns_empty _ 5 (Nat.le_refl _)) (Value.int .u8) _ p (by rfl) (hr4.below (by first | exact bl_alloc (bl_refl _) _ | exact bl_alloc (bl_drew (bl_refl _)) _)) (by intros; rfl) P1 P2 (by simp) ?_
  intro u1 W2 hO2 hg2
  have hB2 : Below w4.heap.size w4 W2 := bl_grown (by first | exact bl_alloc (bl_refl w4) _ | exact bl_alloc (bl_drew (bl_refl w4)) _) hg2 (by intro k hk; cases hk; exact Nat.le_refl _)
  have hB20 := bl_trans hb4 hB2
  simp only [Nat.zero_add, List.nil_append] at hO2
  obtain ⟨ao2, cap2, rfl⟩ := owns_form' hO2
  refine hK.out _ _ (HSb _ hB20) ?_
  clear hK K
  try simp only [Act.put, List.setIfInBounds_toArray]
  refine wpHead_step rfl (by rfl) (fun K hK => ?_)
  go_simp
  refine hK.out _ _ (HSb _ (bl_alloc hB20 _)) ?_
  clear hK K
  try simp only [Act.put, List.setIfInBounds_toArray]
  refine wpHead_step rfl (by rfl) (fun K hK => ?_)
  refine wp_append_r _ (.tmp 26) (.tmp 30) _ (by rfl) W0.heap.size 44 j0 (.slice none 0 0) 24 Tryz.underlying29 hj hy0 hy1 hy2 (by rfl) _ _ _ (by rfl) (owns_fr (F := fun _ => False) hown4 (.of_below (bl_alloc hB2 _)) (fun _ _ h => h)) id _ [.slice ao2 p.length cap2] (by rfl) (reads_one id _ _ _) (by simp [Value.oneCell']) Q1 Q2 (by exact (bl_alloc hB20 _).size) ?_
  intro u2 W5 hO5 hg5
  have hB5 := bl_grown (bl_alloc hB20 _) hg5 (fun k hk => (hown4.lt k hk).1)
  have hx25 := bl_get hB5 hx20.out
  have d0 := (cells_of4 hx25).1
  have d1 := (cells_of4 hx25).2.1
  have d2 := (cells_of4 hx25).2.2.1
  have d3 := (cells_of4 hx25).2.2.2
  have f0 := frozen_of' (j := 0) hx25
  have f1 := frozen_of' (j := 1) hx25
  have f2 := frozen_of' (j := 2) hx25
  have f3 := frozen_of' (j := 3) hx25
  obtain ⟨ao5, cap5, rfl⟩ := owns_form' hO5
  refine hK.out _ _ (HSb _ hB5) ?_
  clear hK K
  try simp only [Act.put, List.setIfInBounds_toArray]
  refine wpHead_free (v := ?_) rfl (by rfl) ?_ ?_
  rotate_left
  focus (intro w1; go_simp; try with_reducible rfl)
  simp only [Act.put]
  refine wpHead_nil ?_
  refine wpTail_step rfl (by rfl) (fun K hK => ?_)
  go_simp
  refine hK.out _ _ ?_
  clear hK K
  try simp only [Act.put, List.setIfInBounds_toArray]
  refine wpTail_step rfl (by rfl) (fun K hK => ?_)
  go_simp
  refine hK.out _ _ ?_
  clear hK K
  try simp only [Act.put, List.setIfInBounds_toArray]
  refine wpTail_nil ?_
  have hW6 := set_four W5 (w.heap.size + 1) _ _ _ _ (.int .i64 s.size) (.int .i64 s.base) (.slice ao5 (s.ps.length + 1) cap5) (.int .i64 s.under) _ hx25
  have hF6 := fr_four W5 (w.heap.size + 1) (.int .i64 s.size) (.int .i64 s.base) (.slice ao5 (s.ps.length + 1) cap5) (.int .i64 s.under)
  generalize (((W5.setCell ⟨w.heap.size + 1, 0, none⟩ (.int .i64 s.size)).setCell ⟨w.heap.size + 1, 1, none⟩ (.int .i64 s.base)).setCell ⟨w.heap.size + 1, 2, none⟩ (.slice ao5 (s.ps.length + 1) cap5)).setCell ⟨w.heap.size + 1, 3, none⟩ (.int .i64 s.under) = W6 at hW6 hF6 ⊢
  have hBf : Below w.heap.size w W6 := bl_fr (bl_trans hB0 hB5) hF6 (fun k hk => by omega)
  have hsz0 := lt_of_get hx20.out
  have hsz4 := hb4.size
  clear d0 d1 d2 d3 f0 f1 f2 f3 hx25
  obtain ⟨d0, d1, d2, d3⟩ := cells_of4 hW6
  have hO5' : W5.ownsRow W0.heap.size 44 1 (.slice ao5 (s.ps.length + 1) cap5) (s.ps.length + 1) (vs ++ [.slice ao2 p.length cap2]) := by simpa using hO5
  have hO6 := owns_fr hO5' hF6 (fun k hk e => by have := (hO5'.lt k hk).1; omega)
  have hx4 : Byt (fun k => w4.heap.size ≤ k ∧ k < W2.heap.size) W2 (.slice ao2 p.length cap2) p := ⟨Rd.of_owns hO2 (by simp only [maxLen]; omega), hw⟩
  have hFg : Fr (fun k => (Value.slice lo s.ps.length lc).ownBlock = some k) _ W5 := (Fr.refl _ _).grown hg5 (fun k hk => .inl hk)
  have hx6 := ((hx4.below (bl_alloc (bl_refl W2) _)).fr hFg (fun k hk h => by have := (hown4.lt k h).2; omega)).fr hF6 (fun k hk e => by omega)
  have hszB2 := hB2.size
  have hsz5 : W2.heap.size ≤ W5.heap.size := Nat.le_trans (by simp) hFg.size
  have hsz6 := hF6.size
  clear hx4 hFg hg5 hO5 hB2 hB20 hg2
  go_wp2
  try simp only [Exit.inBlock, Exit.then]
  refine bodyPost_ret (by simp [results, Tryz.results43, go_sem, d0, d1, d2, d3]; try rfl) rfl ?_
  refine ⟨_, rfl, ⟨vs ++ [.slice ao2 p.length cap2], by simp [hvl], ⟨?_, fun k hk => ?_⟩, fun i x q hx hq => ?_⟩, hBf⟩
  · have e : (vs ++ [Value.slice ao2 p.length cap2]).length = s.ps.length + 1 := by simp [hvl]
    refine Reads.of_owns (base := W0.heap.size) (e := 44) ?_ (by rw [e]; exact Q1)
    rw [e, List.map_id]
    exact hO6
  · have := hO6.lt k hk
    have := hB0.size
    exact .inr ⟨by omega, by omega⟩
  · by_cases hj : i < vs.length
    · rw [List.getElem?_append_left hj] at hx
      have hq : (s.ps ++ [p])[i]? = some q := hq
      rw [List.getElem?_append_left (by rw [← hvl]; exact hj)] at hq
      exact ((hel i x q hx hq).below hBf).mono (fun k hk => .inl hk)
    · have hlt := (List.getElem?_eq_some_iff.1 hx).1
      have e : i = vs.length := by simp at hlt; omega
      subst e
      have hq : (s.ps ++ [p])[vs.length]? = some q := hq
      rw [List.getElem?_append_right (Nat.le_refl _), Nat.sub_self] at hx
      rw [hvl, List.getElem?_append_right (Nat.le_refl _), Nat.sub_self] at hq
      cases hx
      cases hq
      have := hB0.size
      exact hx6.mono (fun k hk => .inr ⟨by omega, by omega⟩)

end Go.Proofs.YthmdibagcbbgoaaGreat

namespace Go.Proofs.YthmdibagcbbgoaaGreat
open Go.RowKit

/-- Two ends, apart in memory. -/
structure Ends (B : Nat) (w : World) (a1 s1 r1 a2 s2 r2 : Nat) (t1 t2 : Lk) : Prop where
  ex : ∃ (ca : Nat → Nat) (oa ia : Value) (cb : Nat → Nat) (ob ib : Value), LkP B ca w a1 s1 r1 oa ia t1 ∧ LkP B cb w a2 s2 r2 ob ib t2 ∧ ∀ k, ca k ≠ 0 → cb k = 0
/-- Two ends, and two rows of controls that nobody turns. -/
structure EndsR (B : Nat) (w : World) (a1 s1 r1 a2 s2 r2 : Nat) (t1 t2 : Lk) (pv qv : Value) (p q : List Cn) : Prop where
  ex : ∃ (ca : Nat → Nat) (oa ia : Value) (cb : Nat → Nat) (ob ib : Value) (F : Nat → Prop), LkP B ca w a1 s1 r1 oa ia t1 ∧ LkP B cb w a2 s2 r2 ob ib t2 ∧ (∀ k, ca k ≠ 0 → cb k = 0) ∧ CtlsR F w pv p ∧ CtlsR F w qv q ∧ ∀ k, F k → k < w.heap.size ∧ ¬ (1 ≤ ca k ∧ ca k ≤ 5) ∧ ¬ (1 ≤ cb k ∧ cb k ≤ 5)
section
variable {B : Nat} {w w' : World} {a1 s1 r1 a2 s2 r2 : Nat} {t1 t2 t1' t2' : Lk} {pv qv oa ia ob ib : Value} {p q : List Cn} {ca cb : Nat → Nat} {F : Nat → Prop}
theorem EndsR.ends (h : EndsR B w a1 s1 r1 a2 s2 r2 t1 t2 pv qv p q) : Ends B w a1 s1 r1 a2 s2 r2 t1 t2 := by
  obtain ⟨ca, oa, ia, cb, ob, ib, F, h1, h2, h3, _⟩ := h.ex
  exact ⟨⟨ca, oa, ia, cb, ob, ib, h1, h2, h3⟩⟩
theorem ends_second (hA : LkP B ca w a1 s1 r1 oa ia t1) (hd : ∀ k, ca k ≠ 0 → cb k = 0) (hp : CtlsR F w pv p) (hq : CtlsR F w qv q) (hs : ∀ k, F k → k < w.heap.size ∧ ¬ (1 ≤ ca k ∧ ca k ≤ 5) ∧ ¬ (1 ≤ cb k ∧ cb k ≤ 5))
    (hto : LkTo B cb w a2 s2 r2 t2' w') : EndsR B w' a1 s1 r1 a2 s2 r2 t1 t2' pv qv p q := by
  obtain ⟨⟨c', o', i', h', hc'⟩, hf⟩ := hto
  refine ⟨⟨ca, oa, ia, c', o', i', F, hA.fr hf (fun k hk g => by have := hd k hk; omega), h', fun k hk => ?_, hp.fr hf (fun k hk => (hs k hk).2.2), hq.fr hf (fun k hk => (hs k hk).2.2), fun k hk => ?_⟩⟩
  · have h1 := hc' k (hA.cols.2 k hk).2
    have := hd k hk
    omega
  · obtain ⟨h1, h2, h3⟩ := hs k hk
    have := hc' k h1
    exact ⟨Nat.lt_of_lt_of_le h1 hf.size, h2, by omega⟩
theorem ends_first (hB : LkP B cb w a2 s2 r2 ob ib t2) (hd : ∀ k, ca k ≠ 0 → cb k = 0) (hp : CtlsR F w pv p) (hq : CtlsR F w qv q) (hs : ∀ k, F k → k < w.heap.size ∧ ¬ (1 ≤ ca k ∧ ca k ≤ 5) ∧ ¬ (1 ≤ cb k ∧ cb k ≤ 5))
    (hto : LkTo B ca w a1 s1 r1 t1' w') : EndsR B w' a1 s1 r1 a2 s2 r2 t1' t2 pv qv p q := by
  obtain ⟨⟨c', o', i', h', hc'⟩, hf⟩ := hto
  refine ⟨⟨c', o', i', cb, ob, ib, F, h', hB.fr hf (fun k hk g => by have := hd k (by omega); omega), fun k hk => ?_, hp.fr hf (fun k hk => (hs k hk).2.1), hq.fr hf (fun k hk => (hs k hk).2.1), fun k hk => ?_⟩⟩
  · by_cases hkl : k < w.heap.size
    · exact hd k (by rw [← hc' k hkl hk]; exact hk)
    · apply Classical.byContradiction
      intro hne
      exact hkl (hB.cols.2 k hne).2
  · obtain ⟨h1, h2, h3⟩ := hs k hk
    have := hc' k h1
    exact ⟨Nat.lt_of_lt_of_le h1 hf.size, by omega, h3⟩
theorem LkTo.bl (h : LkTo B ca w a1 s1 r1 t1' w') (hA : LkP B ca w a1 s1 r1 oa ia t1) : Below B w w' := fr_bl h.fr (fun k hk => (hA.cols.2 k (by omega)).1) hA.cols.1
theorem CtlsR.at_ {ao : Option Addr} {n cap : Nat} {l : List Cn} (h : CtlsR F w (.slice ao n cap) l) {i : Nat} {c : Cn} (hi : l[i]? = some c) : ∃ b x, ao = some ⟨b, 0, none⟩ ∧ F b ∧ Byt F w x c.data ∧
    w.cell? ⟨b, i * 7, none⟩ = some (.int .i64 c.kind) ∧ w.cell? ⟨b, i * 7 + 1, none⟩ = some (.int .i64 c.ns) ∧ w.cell? ⟨b, i * 7 + 2, none⟩ = some (.int .i64 c.nr) ∧ w.cell? ⟨b, i * 7 + 3, none⟩ = some (.bool c.p) ∧
    w.cell? ⟨b, i * 7 + 4, none⟩ = some (.int .i64 c.me) ∧ w.cell? ⟨b, i * 7 + 5, none⟩ = some (.int .i64 c.peer) ∧ w.cell? ⟨b, i * 7 + 6, none⟩ = some x := by
  obtain ⟨_, ao', cap', hv, _, hc⟩ := h
  cases hv
  obtain ⟨b, x, ha, hF, h1, h2⟩ := hc i c hi
  exact ⟨b, x, ha, hF, h2, h1 0 _ rfl, h1 1 _ rfl, h1 2 _ rfl, h1 3 _ rfl, h1 4 _ rfl, h1 5 _ rfl, h1 6 _ rfl⟩
theorem CtlsR.form {l : List Cn} {v : Value} (h : CtlsR F w v l) : ∃ ao cap, v = .slice ao l.length cap ∧ l.length ≤ cap := by
  obtain ⟨_, ao, cap, hv, hl, _⟩ := h
  exact ⟨ao, cap, hv, hl⟩
theorem pl_of {x : Value} {d : List Int} (h : Byt F w x d) (hs : ∀ k, F k → k < w.heap.size ∧ ¬ (1 ≤ ca k ∧ ca k ≤ 5)) : Pl ca w x d := ⟨h.1.1, h.2, fun _ k hk => hs k (h.1.2 k hk)⟩
end
theorem freed_nz {col : Nat → Nat} {d k : Nat} (h : freed d col k ≠ 0) : col k ≠ 0 := fun e => h (by unfold freed; split; rfl; exact e)
def Lk.outed (t : Lk) : Lk := { t with out := [] }
theorem recvAll_snoc {l : List Cn} {i : Nat} {c : Cn} (h : l[i]? = some c) (t : Lk) : (t.recvAll (l.take i)).recv c = t.recvAll (l.take (i + 1)) := by
  rw [take_snoc' h]
  unfold Lk.recvAll
  rw [List.foldl_append]
  rfl

set_option maxRecDepth 100000 in
set_option maxHeartbeats 4000000 in
theorem cross_any (B : Nat) (w : World) (a1 s1 r1 a2 s2 r2 : Nat) (t1 t2 : Lk) (h : Ends B w a1 s1 r1 a2 s2 r2 t1 t2) (ok1 : LkOk t1) (ok2 : LkOk t2) (l1 : t1.out.length ≤ 300) (l2 : t2.out.length ≤ 300) (n1 : t1.inn.length ≤ 1000) (n2 : t2.inn.length ≤ 1000) :
    Calls Tryz.prog 28 #[.pointer (some ⟨a1, 0, none⟩), .pointer (some ⟨a2, 0, none⟩)] w fun e w' => e = .returned (.bool (decide (0 < t1.out.length + t2.out.length))) ∧ Ends B w' a1 s1 r1 a2 s2 r2 (t1.outed.recvAll t2.out) (t2.outed.recvAll t1.out) ∧ Below B w w' := by
  obtain ⟨ca, oa, ia, cb, ob, ib, hA, hB, hd⟩ := h.ex
  have hnb : ∀ k, ca k ≠ 0 → k ≠ a2 := fun k hk e => by have := hd k hk; rw [e, hB.own] at this; omega
  have hna : ∀ k, cb k ≠ 0 → k ≠ a1 := fun k hk e => by
    have := hd a1 (by rw [hA.own]; omega)
    rw [e] at hk
    omega
  have f1 := fr_cell w a1 13 (.slice none 0 0)
  have f2 := fr_cell (w.setCell ⟨a1, 13, none⟩ (.slice none 0 0)) a2 13 (.slice none 0 0)
  have hB1 := hB.fr f1 hna
  have hA2 := hA.outed.fr f2 (fun k hk => hnb k (freed_nz hk))
  have hB2 := hB1.outed
  have HO1 := lout_any B ca w a1 s1 r1 oa ia t1 hA
  have HO2 := lout_any B cb _ a2 s2 r2 ob ib t2 hB1
  have hp := ((hA.out.read (by omega)).fr f1 (fun k hk e => by have := hA.own; subst e; omega)).fr f2 (fun k hk => hnb k (by omega))
  have hq := (hB1.out.read (by omega)).fr f2 (fun k hk e => by have := hB.own; subst e; omega)
  have hbl : Below B w ((w.setCell ⟨a1, 13, none⟩ (.slice none 0 0)).setCell ⟨a2, 13, none⟩ (.slice none 0 0)) := (fr_bl f1 (fun k hk => by subst hk; exact (hA.cols.2 k (by rw [hA.own]; omega)).1) hA.cols.1).trans (fr_bl f2 (fun k hk => by subst hk; exact (hB1.cols.2 k (by rw [hB1.own]; omega)).1) hB1.cols.1)
  have hsz := hbl.size
  have HE : Hid (EndsR B ((w.setCell ⟨a1, 13, none⟩ (.slice none 0 0)).setCell ⟨a2, 13, none⟩ (.slice none 0 0)) a1 s1 r1 a2 s2 r2 t1.outed (t2.outed.recvAll (t1.out.take 0)) oa ob t1.out t2.out) := by
    refine ⟨⟨_, _, _, _, _, _, fun k => (ca k = 4 ∨ ca k = 7) ∨ (cb k = 4 ∨ cb k = 7), hA2, hB2, fun k hk => ?_, hp.mono fun k hk => .inl hk, hq.mono fun k hk => .inr hk, fun k hk => ?_⟩⟩
    · have h0 := hd k (freed_nz hk)
      show freed 4 cb k = 0
      unfold freed
      rw [if_neg (by omega)]
      exact h0
    · have hlt : k < w.heap.size := by
        rcases hk with hk | hk
        · exact (hA.cols.2 k (by omega)).2
        · exact (hB.cols.2 k (by omega)).2
      refine ⟨by omega, fun g => ?_, fun g => ?_⟩
      · have := freed_ne (c := freed 4 ca k) rfl (by omega)
        have := hd k (by omega)
        omega
      · have h9 := freed_ne (c := freed 4 cb k) rfl (by omega)
        rcases hk with hk | hk
        · have := hd k (by omega); omega
        · omega
  obtain ⟨po, pc, rfl, hpc⟩ := hp.form
  obtain ⟨qo, qc, rfl, hqc⟩ := hq.form
  have HBL := Lib.hid hbl
  have OK1 := Lib.hid ok1
  have OK2 := Lib.hid ok2
  clear h hA hB hd hnb hna f1 f2 hB1 hA2 hB2 hp hq hbl hsz ok1 ok2
  go_enter Tryz.func28, Tryz.ntmps28
  go_wp2_with fail
  refine HO1.mono ?_
  rintro e w1 ⟨rfl, rfl⟩
  go_wp2_with fail
  refine HO2.mono ?_
  rintro e w2 ⟨rfl, rfl⟩
  clear HO1 HO2
  obtain ⟨W2, hW2⟩ : ∃ W2, ((w.setCell ⟨a1, 13, none⟩ (.slice none 0 0)).setCell ⟨a2, 13, none⟩ (.slice none 0 0)) = W2 := ⟨_, rfl⟩
  rw [hW2] at HE HBL
  try simp only [hW2]
  clear hW2
  go_wp2_with fail
  go_loopw [7] (fun iv wr => ∃ i : Nat, iv = .int .i64 i ∧ i ≤ t1.out.length ∧ Hid (EndsR B wr a1 s1 r1 a2 s2 r2 t1.outed (t2.outed.recvAll (t1.out.take i)) (.slice po t1.out.length pc) (.slice qo t2.out.length qc) t1.out t2.out) ∧ Hid (Below B w wr)) (fun iv _ => 400 - (intOf iv).toNat)
  case atStart => exact ⟨0, rfl, by omega, HE, HBL⟩
  case round =>
    clear HE HBL
    obtain ⟨i, rfl, hi, HE, HBL⟩ := hrel
    by_cases hlt : i < t1.out.length
    · obtain ⟨ca, oa, ia, cb, ob, ib, F, hA, hB, hd, hp, hq, hs⟩ := HE.out.ex
      obtain ⟨c, hc⟩ := get_some hlt
      obtain ⟨b, x, rfl, hFb, hx, d0, d1, d2, d3, d4, d5, d6⟩ := hp.at_ hc
      have hgr := (recvAll_grow (t1.out.take i) t2.outed) ⟨OK2.out.me, OK2.out.s, OK2.out.r⟩
      have hln : (t1.out.take i).length ≤ 300 := by rw [List.length_take]; omega
      obtain ⟨g1, g2, g3⟩ := hgr
      have e1 : t2.outed.out.length = 0 := rfl
      have e2 : t2.outed.inn.length = t2.inn.length := rfl
      have HR := lrecv_any B cb wr a2 s2 r2 ob ib _ hB g1.me g1.s g1.r c x (pl_of hx (fun k hk => ⟨(hs k hk).1, (hs k hk).2.2⟩)) (by omega) (by omega)
      rw [recvAll_snoc hc] at HR
      have HEN : Hid (∀ W, LkTo B cb wr a2 s2 r2 (t2.outed.recvAll (t1.out.take (i + 1))) W → EndsR B W a1 s1 r1 a2 s2 r2 t1.outed (t2.outed.recvAll (t1.out.take (i + 1))) (.slice (some ⟨b, 0, none⟩) t1.out.length pc) (.slice qo t2.out.length qc) t1.out t2.out ∧ Below B wr W) := fun W h => ⟨ends_second hA hd hp hq hs h, h.bl hB⟩
      have j1 : (i : Int) < (t1.out.length : Int) := by omega
      have j2 : (0 : Int) ≤ (i : Int) := by omega
      have j3 : (i : Int) ≤ 300 := by omega
      obtain ⟨xo, xc, rfl⟩ : ∃ xo xc, x = .slice xo c.data.length xc := by
        obtain ⟨⟨⟨_, ao, cap, h, _⟩, _⟩, _⟩ := hx
        exact ⟨ao, cap, h⟩
      clear hA hB hd hp hq hs hx hFb hc HE g1 g2 g3 e1 e2 hln
      go_wp2_with fail
      refine HR.mono ?_
      rintro e w4 ⟨rfl, h4⟩
      obtain ⟨h5, h6⟩ := HEN.out _ h4
      have H5 := Lib.hid h5
      have H6 : Hid (Below B w w4) := HBL.out.trans h6
      clear h4 h5 h6 HR HEN d0 d1 d2 d3 d4 d5 d6
      go_wp2
      go_roundw
      case rel => exact ⟨i + 1, by go_num, by omega, H5, H6⟩
      case measure => simp [intOf]; omega
    · obtain rfl : i = t1.out.length := by omega
      rw [List.take_length] at HE
      have HE2 : Hid (EndsR B wr a1 s1 r1 a2 s2 r2 (t1.outed.recvAll (t2.out.take 0)) (t2.outed.recvAll t1.out) (.slice po t1.out.length pc) (.slice qo t2.out.length qc) t1.out t2.out) := HE
      clear HE
      go_wp2_with fail
      go_loopw [8] (fun jv wr => ∃ j : Nat, jv = .int .i64 j ∧ j ≤ t2.out.length ∧ Hid (EndsR B wr a1 s1 r1 a2 s2 r2 (t1.outed.recvAll (t2.out.take j)) (t2.outed.recvAll t1.out) (.slice po t1.out.length pc) (.slice qo t2.out.length qc) t1.out t2.out) ∧ Hid (Below B w wr)) (fun jv _ => 400 - (intOf jv).toNat)
      case atStart => exact ⟨0, rfl, by omega, HE2, HBL⟩
      case round =>
        clear HE2 HBL
        obtain ⟨j, rfl, hj, HE, HBL⟩ := hrel
        by_cases hlt : j < t2.out.length
        · obtain ⟨ca, oa, ia, cb, ob, ib, F, hA, hB, hd, hp, hq, hs⟩ := HE.out.ex
          obtain ⟨c, hc⟩ := get_some hlt
          obtain ⟨b, x, rfl, hFb, hx, d0, d1, d2, d3, d4, d5, d6⟩ := hq.at_ hc
          have hgr := (recvAll_grow (t2.out.take j) t1.outed) ⟨OK1.out.me, OK1.out.s, OK1.out.r⟩
          have hln : (t2.out.take j).length ≤ 300 := by rw [List.length_take]; omega
          obtain ⟨g1, g2, g3⟩ := hgr
          have e1 : t1.outed.out.length = 0 := rfl
          have e2 : t1.outed.inn.length = t1.inn.length := rfl
          have HR := lrecv_any B ca wr a1 s1 r1 oa ia _ hA g1.me g1.s g1.r c x (pl_of hx (fun k hk => ⟨(hs k hk).1, (hs k hk).2.1⟩)) (by omega) (by omega)
          rw [recvAll_snoc hc] at HR
          have HEN : Hid (∀ W, LkTo B ca wr a1 s1 r1 (t1.outed.recvAll (t2.out.take (j + 1))) W → EndsR B W a1 s1 r1 a2 s2 r2 (t1.outed.recvAll (t2.out.take (j + 1))) (t2.outed.recvAll t1.out) (.slice po t1.out.length pc) (.slice (some ⟨b, 0, none⟩) t2.out.length qc) t1.out t2.out ∧ Below B wr W) := fun W h => ⟨ends_first hB hd hp hq hs h, h.bl hA⟩
          have j1 : (j : Int) < (t2.out.length : Int) := by omega
          have j2 : (0 : Int) ≤ (j : Int) := by omega
          have j3 : (j : Int) ≤ 300 := by omega
          obtain ⟨xo, xc, rfl⟩ : ∃ xo xc, x = .slice xo c.data.length xc := by
            obtain ⟨⟨⟨_, ao, cap, h, _⟩, _⟩, _⟩ := hx
            exact ⟨ao, cap, h⟩
          clear hA hB hd hp hq hs hx hFb hc HE g1 g2 g3 e1 e2 hln
          go_wp2_with fail
          refine HR.mono ?_
          rintro e w4 ⟨rfl, h4⟩
          obtain ⟨h5, h6⟩ := HEN.out _ h4
          have H5 := Lib.hid h5
          have H6 : Hid (Below B w w4) := HBL.out.trans h6
          clear h4 h5 h6 HR HEN d0 d1 d2 d3 d4 d5 d6
          go_wp2
          go_roundw
          case rel => exact ⟨j + 1, by go_num, by omega, H5, H6⟩
          case measure => simp [intOf]; omega
        · obtain rfl : j = t2.out.length := by omega
          rw [List.take_length] at HE
          have HEE : Hid (Ends B wr a1 s1 r1 a2 s2 r2 (t1.outed.recvAll t2.out) (t2.outed.recvAll t1.out)) := HE.out.ends
          clear HE
          have j4 : (t1.out.length : Int) ≤ 300 := by omega
          have j5 : (t2.out.length : Int) ≤ 300 := by omega
          go_wp2
          go_ret
          refine ⟨ret_bool ?_, HEE.out, HBL.out⟩
          simp
          omega

end Go.Proofs.YthmdibagcbbgoaaGreat

namespace Go.Proofs.YthmdibagcbbgoaaGreat
open Go.RowKit

/-- What an end is made of. -/
structure St where
  me : Nat
  size : Nat
  timer : Nat
  tries : Nat
structure St.Ok (a : St) : Prop where
  me : a.me ≤ 65535
  timer1 : 1 ≤ a.timer
  timer2 : a.timer ≤ 64
  tries1 : 1 ≤ a.tries
  tries2 : a.tries ≤ 64
  size1 : 1 ≤ a.size
  size2 : a.size ≤ 63
def St.met (a b : St) : Lk := ⟨a.me, b.me, true, a.size, a.timer, a.tries, 0, 0, 1, false, false, ⟨a.size, 0, [], 0⟩, ⟨a.size, 0, [], []⟩, [], []⟩
def St.half (a b : St) : Lk := ⟨a.me, b.me, false, a.size, a.timer, a.tries, a.timer, 0, 1, false, false, ⟨a.size, 0, [], 0⟩, ⟨a.size, 0, [], []⟩, [⟨6, 0, 0, false, a.me, b.me, []⟩], []⟩
def St.stage (a b : St) : Nat → Lk
  | 0 => Lk.new a.me a.size a.timer a.tries
  | 1 => a.half b
  | _ => a.met b
theorem chk5 {me : Nat} (h : me ≤ 65535) (p : Bool) : (⟨5, 0, 0, p, me, 0, []⟩ : Cn).chk = 0 := by
  show chkN 5 0 0 (me : Int) 0 0 = 0
  exact chk_0 (by omega) (by omega) (by omega) (by omega)
theorem chk6 {me peer : Nat} (h : me ≤ 65535) (h2 : peer ≤ 65535) (p : Bool) : (⟨6, 0, 0, p, me, peer, []⟩ : Cn).chk = 0 := by
  show chkN 6 0 0 (me : Int) (peer : Int) 0 = 0
  exact chk_0 (by omega) (by omega) (by omega) (by omega)
theorem new_out (a : St) : (Lk.new a.me a.size a.timer a.tries).out = [⟨5, 0, 0, false, a.me, 0, []⟩] := rfl
theorem stage_step {a b : St} (ha : a.Ok) (hb : b.Ok) : ∀ i : Nat, (a.stage b i).outed.recvAll (b.stage a i).out = a.stage b (i + 1)
  | 0 => by
    show (Lk.new a.me a.size a.timer a.tries).outed.recvAll (Lk.new b.me b.size b.timer b.tries).out = a.half b
    rw [new_out]
    show (Lk.new a.me a.size a.timer a.tries).outed.recv ⟨5, 0, 0, false, b.me, 0, []⟩ = a.half b
    unfold Lk.recv
    rw [if_neg (by rw [chk5 hb.me]; decide), if_pos rfl]
    have hs : (Lk.new a.me a.size a.timer a.tries).outed.sabmed (b.me : Int) = ⟨a.me, b.me, false, a.size, a.timer, a.tries, a.timer, 0, 1, false, false, ⟨a.size, 0, [], 0⟩, ⟨a.size, 0, [], []⟩, [], []⟩ := by
      unfold Lk.sabmed
      rw [if_neg (by show ¬ (b.me : Int) = -1; omega)]
      have hw : wrap64 ((0 : Int) + 1) = 1 := by decide +kernel
      show ({ ({ (Lk.new a.me a.size a.timer a.tries).outed with peer := (b.me : Int) } : Lk).reset with left := if false = true then 0 else a.timer } : Lk) = _
      unfold Lk.reset
      show Lk.mk a.me b.me false a.size a.timer a.tries (if false = true then 0 else a.timer) 0 (wrap64 ((0 : Int) + 1)) false false ⟨a.size, 0, [], 0⟩ ⟨a.size, 0, [], []⟩ [] [] = _
      rw [hw]
      rfl
    show (Lk.new a.me a.size a.timer a.tries).outed.sabme (b.me : Int) false = a.half b
    unfold Lk.sabme
    rw [hs]
    rfl
  | 1 => by
    show (a.half b).outed.recv ⟨6, 0, 0, false, b.me, a.me, []⟩ = a.met b
    unfold Lk.recv
    rw [if_neg (by rw [chk6 hb.me ha.me]; decide), if_neg (by show ¬ (6 : Int) = 5; decide), if_pos rfl]
    show (a.half b).outed.ua (a.me : Int) (b.me : Int) = a.met b
    unfold Lk.ua
    rw [if_pos ⟨rfl, rfl⟩, if_pos (show (b.me : Int) = (a.half b).outed.peer from rfl)]
    rfl
  | _ + 2 => rfl
theorem stage_ok {a b : St} (ha : a.Ok) : ∀ i : Nat, LkOk (a.stage b i) ∧ (a.stage b i).out.length ≤ 1 ∧ (a.stage b i).inn.length = 0 := by
  have hs : (⟨a.size, 0, [], 0⟩ : Snd).Ok := ⟨ha.size1, ha.size2, by simp, by simp, by simp, by simp, by simp⟩
  have hr : (⟨a.size, 0, [], []⟩ : Rcv).Ok := new_ok ha.size1 ha.size2
  have hme : a.me < 65536 := by have := ha.me; omega
  intro i
  match i with
  | 0 => exact ⟨⟨hme, hs, hr⟩, by show [_].length ≤ 1; simp, rfl⟩
  | 1 => exact ⟨⟨hme, hs, hr⟩, by show [_].length ≤ 1; simp, rfl⟩
  | _ + 2 => exact ⟨⟨hme, hs, hr⟩, by show (0 : Nat) ≤ 1; omega, rfl⟩

end Go.Proofs.YthmdibagcbbgoaaGreat

namespace Go.Proofs.YthmdibagcbbgoaaGreat
open Go.RowKit

def setOk (me size timer tries : Int) : Prop := 0 ≤ me ∧ me ≤ 65535 ∧ 1 ≤ timer ∧ timer ≤ 64 ∧ 1 ≤ tries ∧ tries ≤ 64 ∧ 1 ≤ size ∧ size ≤ 63
set_option maxRecDepth 100000 in
set_option maxHeartbeats 2000000 in
theorem lnew_bad (me size timer tries : Int) (h : ¬ setOk me size timer tries) (w : World) :
    Calls Tryz.prog 4 #[.int .i64 me, .int .i64 size, .int .i64 timer, .int .i64 tries] w fun e w' => e = .returned (.tuple #[.pointer none, .int .i64 1]) ∧ w = w' := by
  by_cases g0 : me < 0
  · clear h
    go_enter Tryz.func4, Tryz.ntmps4
    go_wp2
    go_ret2
    exact ⟨rfl, rfl⟩
  by_cases g1 : 65535 < me
  · clear h
    go_enter Tryz.func4, Tryz.ntmps4
    go_wp2
    go_ret2
    exact ⟨rfl, rfl⟩
  by_cases g2 : timer < 1
  · clear h
    go_enter Tryz.func4, Tryz.ntmps4
    go_wp2
    go_ret2
    exact ⟨rfl, rfl⟩
  by_cases g3 : 64 < timer
  · clear h
    go_enter Tryz.func4, Tryz.ntmps4
    go_wp2
    go_ret2
    exact ⟨rfl, rfl⟩
  by_cases g4 : tries < 1
  · clear h
    go_enter Tryz.func4, Tryz.ntmps4
    go_wp2
    go_ret2
    exact ⟨rfl, rfl⟩
  by_cases g5 : 64 < tries
  · clear h
    go_enter Tryz.func4, Tryz.ntmps4
    go_wp2
    go_ret2
    exact ⟨rfl, rfl⟩
  have HS := snew_bad size (by unfold setOk at h; omega) w
  clear h
  go_enter Tryz.func4, Tryz.ntmps4
  go_wp2_with fail
  refine HS.mono ?_
  rintro e w1 ⟨rfl, rfl⟩
  go_wp2
  go_ret2
  exact ⟨rfl, rfl⟩

set_option maxRecDepth 100000 in
theorem lpush_nil (ao : Option Addr) (n cap : Nat) (w : World) : Calls Tryz.prog 27 #[.pointer none, .slice ao n cap] w fun e w' => e = .returned (.int .i64 7) ∧ Below w.heap.size w w' := by
  go_enter Tryz.func27, Tryz.ntmps27
  go_wp2
  go_ret
  exact ⟨rfl, by first | exact bl_refl _ | exact bl_alloc (bl_refl _) _⟩

set_option maxRecDepth 100000 in
theorem ltick_nil (w : World) : Calls Tryz.prog 31 #[.pointer none] w fun e w' => e = .returned (.int .i64 7) ∧ Below w.heap.size w w' := by
  go_enter Tryz.func31, Tryz.ntmps31
  go_wp2
  go_ret
  exact ⟨rfl, by first | exact bl_refl _ | exact bl_alloc (bl_refl _) _⟩

set_option maxRecDepth 100000 in
theorem lreceive_nil (k ns nr : Int) (p : Bool) (me peer : Int) (ao : Option Addr) (n cap : Nat) (w : World) : Calls Tryz.prog 33 #[.pointer none, .agg #[.int .i64 k, .int .i64 ns, .int .i64 nr, .bool p, .int .i64 me, .int .i64 peer, .slice ao n cap]] w fun e w' => e = .returned (.int .i64 7) ∧ Below w.heap.size w w' := by
  go_enter Tryz.func33, Tryz.ntmps33
  go_wp2
  go_ret
  exact ⟨rfl, by first | exact bl_refl _ | exact bl_alloc (bl_refl _) _⟩

set_option maxRecDepth 100000 in
theorem lbusy_nil (b : Bool) (w : World) : Calls Tryz.prog 35 #[.pointer none, .bool b] w fun e w' => e = .returned (.int .i64 7) ∧ Below w.heap.size w w' := by
  go_enter Tryz.func35, Tryz.ntmps35
  go_wp2
  go_ret
  exact ⟨rfl, by first | exact bl_refl _ | exact bl_alloc (bl_refl _) _⟩

set_option maxRecDepth 100000 in
theorem lout_nil (w : World) : Calls Tryz.prog 11 #[.pointer none] w fun e w' => e = .returned (.slice none 0 0) ∧ Below w.heap.size w w' := by
  go_enter Tryz.func11, Tryz.ntmps11
  go_wp2
  go_ret
  exact ⟨rfl, by first | exact bl_refl _ | exact bl_alloc (bl_refl _) _⟩

set_option maxRecDepth 100000 in
theorem lin_nil (w : World) : Calls Tryz.prog 13 #[.pointer none] w fun e w' => e = .returned (.slice none 0 0) ∧ Below w.heap.size w w' := by
  go_enter Tryz.func13, Tryz.ntmps13
  go_wp2
  go_ret
  exact ⟨rfl, by first | exact bl_refl _ | exact bl_alloc (bl_refl _) _⟩

set_option maxRecDepth 100000 in
theorem lup_nil (w : World) : Calls Tryz.prog 14 #[.pointer none] w fun e w' => e = .returned (.bool false) ∧ Below w.heap.size w w' := by
  go_enter Tryz.func14, Tryz.ntmps14
  go_wp2
  go_ret
  exact ⟨rfl, by first | exact bl_refl _ | exact bl_alloc (bl_refl _) _⟩

set_option maxRecDepth 100000 in
theorem lme_nil (w : World) : Calls Tryz.prog 15 #[.pointer none] w fun e w' => e = .returned (.int .i64 0) ∧ Below w.heap.size w w' := by
  go_enter Tryz.func15, Tryz.ntmps15
  go_wp2
  go_ret
  exact ⟨rfl, by first | exact bl_refl _ | exact bl_alloc (bl_refl _) _⟩

set_option maxRecDepth 100000 in
theorem lpeer_nil (w : World) : Calls Tryz.prog 16 #[.pointer none] w fun e w' => e = .returned (.int .i64 (-1)) ∧ Below w.heap.size w w' := by
  go_enter Tryz.func16, Tryz.ntmps16
  go_wp2
  go_ret
  exact ⟨rfl, by first | exact bl_refl _ | exact bl_alloc (bl_refl _) _⟩

set_option maxRecDepth 100000 in
theorem lresets_nil (w : World) : Calls Tryz.prog 17 #[.pointer none] w fun e w' => e = .returned (.int .i64 0) ∧ Below w.heap.size w w' := by
  go_enter Tryz.func17, Tryz.ntmps17
  go_wp2
  go_ret
  exact ⟨rfl, by first | exact bl_refl _ | exact bl_alloc (bl_refl _) _⟩

set_option maxRecDepth 100000 in
theorem lpending_nil (w : World) : Calls Tryz.prog 18 #[.pointer none] w fun e w' => e = .returned (.int .i64 0) ∧ Below w.heap.size w w' := by
  go_enter Tryz.func18, Tryz.ntmps18
  go_wp2
  go_ret
  exact ⟨rfl, by first | exact bl_refl _ | exact bl_alloc (bl_refl _) _⟩

end Go.Proofs.YthmdibagcbbgoaaGreat
