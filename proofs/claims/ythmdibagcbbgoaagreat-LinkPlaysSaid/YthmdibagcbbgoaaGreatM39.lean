/- portageref08.Take where it does not take, and both. Conditions: as they stand. -/
import Derived.Test.YthmdibagcbbgoaaGreatM38
import Derived.Test.YthmdibagcbbgoaaGreatM09
import Derived.Test.YthmdibagcbbgoaaGreatM33
namespace Go.Proofs.YthmdibagcbbgoaaGreat
open Go.RowKit

set_option maxRecDepth 100000 in
set_option maxHeartbeats 4000000 in
theorem r8take_bad (F : Nat → Prop) (r : Rcv) (rl ra : Value) (ns : Int) (v : Value) (p : List Int) (w : World) (hk : Els kKept F w rl r.kept) (hra : ∃ o n c, ra = .slice o n c) (hv : Reads (Value.int .u8) w v p) (hc : r.chk ns p.length ≠ 0) :
    Calls Tryz.prog 92 #[refR r rl ra, .int .i64 ns, v] w fun e w' => e = .returned (.tuple #[refR r rl ra, .slice none 0 0, .slice none 0 0, .int .i64 (r.chk ns p.length)]) ∧ Below w.heap.size w w' := by
  obtain ⟨ao, cap, rfl, _, _⟩ := hk.form
  obtain ⟨qo, qn, qc, rfl⟩ := hra
  obtain ⟨vo, vc, rfl⟩ : ∃ o c, v = .slice o p.length c := by
    obtain ⟨_, o, c, e, _⟩ := hv
    exact ⟨_, _, e⟩
  obtain ⟨W0, hW0, hb0, hx0, hz0⟩ := rcv_boxes w r (.slice ao r.kept.length cap) (.slice qo qn qc)
  have HCK := Lib.hid fun W : World => fun hb : Below w.heap.size w W => r8check_any _ r (.slice ao r.kept.length cap) (.slice qo qn qc) ns (.slice vo p.length vc) p W (hk.below hb) ⟨_, _, _, rfl⟩ (hv.below hb)
  obtain ⟨q, hq⟩ : ∃ q, r.chk ns p.length = q := ⟨_, rfl⟩
  rw [hq] at HCK hc ⊢
  have hcb : (q != 0) = true := by simpa using hc
  have f3 : ¬ q = 0 := hc
  unfold refR at HCK ⊢
  obtain ⟨a0, a1, a2, a3⟩ := rc_cells hx0
  have HX0 := Lib.hid hx0
  have HZ0 := Lib.hid hz0
  have HB0 := Lib.hid hb0
  have HS : Hid (∀ w' : World, Below W0.heap.size W0 w' → (fun w' => w'.cell? ⟨w.heap.size, 0, none⟩ = some (.int .i64 r.size) ∧ w'.cell? ⟨w.heap.size, 1, none⟩ = some (.int .i64 r.waits) ∧ w'.cell? ⟨w.heap.size, 2, none⟩ = some (.slice ao r.kept.length cap) ∧ w'.cell? ⟨w.heap.size, 3, none⟩ = some (.slice qo qn qc)) w') := fun w' hb => by
    obtain ⟨c0, c1, c2, c3⟩ := rc_cells (bl_get hb HX0.out)
    exact ⟨c0, c1, c2, c3⟩
  clear hx0 hz0 hv hk hq hb0
  go_enter Tryz.func92, Tryz.ntmps92
  go_wp2_with (simp only [hW0])
  refine (HCK.out _ HB0.out).mono ?_
  rintro e W1 ⟨rfl, hb1⟩
  obtain ⟨b0, b1, b2, b3⟩ := rc_cells (bl_get hb1 HX0.out)
  clear a0 a1 a2 a3
  go_wp2_with fail
  refine wp_region_order (fun w' => w'.cell? ⟨w.heap.size, 0, none⟩ = some (.int .i64 r.size) ∧ w'.cell? ⟨w.heap.size, 1, none⟩ = some (.int .i64 r.waits) ∧ w'.cell? ⟨w.heap.size, 2, none⟩ = some (.slice ao r.kept.length cap) ∧ w'.cell? ⟨w.heap.size, 3, none⟩ = some (.slice qo qn qc))
    [(0, 1), (1, 1), (2, 0), (3, 0), (4, 2)] [(5, false), (6, true), (7, true), (8, true)] [5] [2, 3, 6, 7, 8]
    (by kernel_rfl) (fun _ _ d _ _ h => by cases d <;> exact h) (by decide +kernel) (HS.out _ (bl_drew hb1)) ?_
  refine wpHead_take (v := ?_) rfl (by rfl) ?_ ?_
  rotate_left
  focus (rintro w1 ⟨q0, q1, q2, q3⟩; go_simp; try with_reducible rfl)
  simp only [Act.put, List.setIfInBounds_toArray]
  refine wpHead_take (v := ?_) rfl (by rfl) ?_ ?_
  rotate_left
  focus (rintro w1 ⟨q0, q1, q2, q3⟩; go_simp; try with_reducible rfl)
  simp only [Act.put]
  iterate 2
    refine wpHead_free (v := ?_) rfl (by rfl) ?_ ?_
    rotate_left
    focus (intro w1; go_simp; try with_reducible rfl)
    simp only [Act.put]
  refine wpHead_step rfl (by rfl) (fun K hK => ?_)
  go_simp; go_at_call 97
  refine (HCK.out _ (bl_trans HB0.out (bl_drew hb1))).mono ?_; rintro e w2 ⟨rfl, hb2⟩; simp only []
  have hb02 := bl_trans (bl_drew hb1) hb2
  refine hK.out _ _ (HS.out _ hb02) ?_
  clear hK K
  try simp only [Act.put, List.setIfInBounds_toArray]
  refine wpHead_nil ?_
  have zZ := bl_get hb02 HZ0.out
  obtain ⟨z0, z1, z2, z3⟩ := cells_of4 zZ
  have g0 := frozen_of' (j := 0) zZ
  have g1 := frozen_of' (j := 1) zZ
  have g2 := frozen_of' (j := 2) zZ
  have g3 := frozen_of' (j := 3) zZ
  refine wpTail_step rfl (by rfl) (fun K hK => ?_)
  go_simp
  refine hK.out _ _ ?_
  clear hK K
  try simp only [Act.put, List.setIfInBounds_toArray]
  iterate 3
    refine wpTail_free (v := ?_) rfl (by rfl) ?_ ?_
    rotate_left
    focus (intro w1; go_simp; try with_reducible rfl)
    simp only [Act.put, List.getElem_toArray, List.getElem_cons_zero, List.getElem_cons_succ, List.setIfInBounds_toArray]
  refine wpTail_nil ?_
  have hW6 := set_four w2 (w.heap.size + 1) _ _ _ _ (.int .i64 r.size) (.int .i64 r.waits) (.slice ao r.kept.length cap) (.slice qo qn qc) _ zZ
  have hF6 := fr_four w2 (w.heap.size + 1) (.int .i64 r.size) (.int .i64 r.waits) (.slice ao r.kept.length cap) (.slice qo qn qc)
  generalize (((w2.setCell ⟨w.heap.size + 1, 0, none⟩ (.int .i64 r.size)).setCell ⟨w.heap.size + 1, 1, none⟩ (.int .i64 r.waits)).setCell ⟨w.heap.size + 1, 2, none⟩ (.slice ao r.kept.length cap)).setCell ⟨w.heap.size + 1, 3, none⟩ (.slice qo qn qc) = W6 at hW6 hF6 ⊢
  clear z0 z1 z2 z3 g0 g1 g2 g3 zZ b0 b1 b2 b3
  obtain ⟨d0, d1, d2, d3⟩ := cells_of4 hW6
  go_wp2_with fail
  refine bodyPost_ret (by simp [results, Tryz.results92, go_sem, d0, d1, d2, d3]; try rfl) rfl ?_
  exact ⟨rfl, bl_fr (bl_trans HB0.out hb02) hF6 (fun k hk => by omega)⟩

theorem hasN_contains {A : List Int} (h : ∀ n ∈ A, 0 ≤ n ∧ n < 128) (n : Int) : hasN A n = A.contains n := by
  unfold hasN
  rw [List.contains_eq_any_beq]
  rw [Bool.eq_iff_iff, List.any_eq_true, List.any_eq_true]
  constructor
  · rintro ⟨x, hx, e⟩
    have h1 := h x hx
    refine ⟨x, hx, ?_⟩
    simp only [beq_iff_eq] at e ⊢
    omega
  · rintro ⟨x, hx, e⟩
    have h1 := h x hx
    refine ⟨x, hx, ?_⟩
    simp only [beq_iff_eq] at e ⊢
    omega

/-- What Take leaves. -/
structure TookR (C : Nat → Prop) (r : Rcv) (ns : Int) (p : List Int) (e : Ending) (w w' : World) : Prop where
  ex : ∃ rl ra tv av A, e = .returned (.tuple #[refR (r.take ns p) rl ra, tv, av, .int .i64 (r.chk ns p.length)]) ∧ Els kKept (Live C w') w' rl (r.take ns p).kept ∧ Rd (Live C w') (Value.int .i64) w' ra A ∧ AskRel (r.take ns p) A ∧
    Pays (Live C w') w' tv (r.tells ns p) ∧ Rd (Live C w') (Value.int .i64) w' av (r.wants ns p)
  bl : Below w.heap.size w w'

theorem r8take_any (C : Nat → Prop) (r : Rcv) (rl ra : Value) (ns : Int) (v : Value) (p : List Int) (w : World) (hlim : ∀ k, C k → k < w.heap.size) (hk : Els kKept (Live C w) w rl r.kept) (hA : ∃ A, Rd (Live C w) (Value.int .i64) w ra A ∧ AskRel r A) (hv : Reads (Value.int .u8) w v p) (hwf : ∀ n ∈ p, (Lit.int .u8 n).wf = true) (hok : r.Ok) {m : Nat} (hb : Bnd m r.asked) (hm : m ≤ 800000) :
    Calls Tryz.prog 92 #[refR r rl ra, .int .i64 ns, v] w fun e w' => TookR C r ns p e w w' := by
  obtain ⟨A, hA, hR⟩ := hA
  by_cases hc : r.chk ns p.length = 0
  · refine (r8take_ok C r rl ra A ns v p w hlim hk hA hv hwf hok hc).mono ?_
    rintro e w' ⟨rl', ra', tv, av, rfl, h1, h2, h3, h4, h5⟩
    obtain ⟨k1, k2, _⟩ := hR.took hok hb hm hc
    have e1 : r.take ns p = r.took ns p := by unfold Rcv.take; rw [if_pos hc]
    have e2 : r.tells ns p = (r.gone ns p).1 := by unfold Rcv.tells; rw [if_pos hc]
    have e3 : r.wants ns p = (r.gone ns p).2.missing.filter fun n => !hasN A n := by
      unfold Rcv.wants
      rw [if_pos hc, k2]
      refine List.filter_congr fun n _ => ?_
      rw [hasN_contains fun n hn => by
        have := (missing_iff hok).1 (hR.sub n hn)
        exact ⟨this.1, this.2.1⟩]
    refine ⟨⟨rl', ra', tv, av, (r.took ns p).missing, ?_, ?_, ?_, ?_, ?_, ?_⟩, h5⟩
    · rw [e1, hc]
      rfl
    · rw [e1]; exact h1
    · exact h2
    · rw [e1]; exact k1
    · rw [e2]; exact h3
    · rw [e3]; exact h4
  · have e1 : r.take ns p = r := by unfold Rcv.take; rw [if_neg hc]
    have e2 : r.tells ns p = [] := by unfold Rcv.tells; rw [if_neg hc]
    have e3 : r.wants ns p = [] := by unfold Rcv.wants; rw [if_neg hc]
    have hra : ∃ o n c, ra = .slice o n c := by
      obtain ⟨⟨_, o, c, e, _⟩, _⟩ := hA
      exact ⟨_, _, _, e⟩
    refine (r8take_bad _ r rl ra ns v p w hk hra hv hc).mono ?_
    rintro e w' ⟨rfl, h5⟩
    have hm' : ∀ k, Live C w k → Live C w' k := fun k hk => hk.grow h5.size
    refine ⟨⟨rl, ra, .slice none 0 0, .slice none 0 0, A, ?_, ?_, ?_, ?_, ?_, ?_⟩, h5⟩
    · rw [e1]
    · rw [e1]; exact (hk.below h5).mono hm'
    · exact (hA.below h5).mono hm'
    · rw [e1]; exact hR
    · rw [e2]; exact .nil _ _
    · rw [e3]; exact rd_nil _ _ _

end Go.Proofs.YthmdibagcbbgoaaGreat
