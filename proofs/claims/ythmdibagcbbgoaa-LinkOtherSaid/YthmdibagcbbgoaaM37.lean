/- portagelaw09.LinkUp: two ends between which nothing is lost are up within four exchanges. Conditions: as they stand. -/
import Derived.Test.YthmdibagcbbgoaaM34
import Derived.Test.YthmdibagcbbgoaaM36
namespace Go.Proofs.Ythmdibagcbbgoaa
open Go.RowKit

instance (a b c d : Int) : Decidable (setOk a b c d) := by unfold setOk; infer_instance
theorem St.of {a0 a1 a2 a3 : Int} (h : setOk a0 a1 a2 a3) : ∃ a : St, a.Ok ∧ a0 = a.me ∧ a1 = a.size ∧ a2 = a.timer ∧ a3 = a.tries := by
  unfold setOk at h
  exact ⟨⟨a0.toNat, a1.toNat, a2.toNat, a3.toNat⟩, ⟨by simp only; omega, by simp only; omega, by simp only; omega, by simp only; omega, by simp only; omega, by simp only; omega, by simp only; omega⟩, by simp only; omega, by simp only; omega, by simp only; omega, by simp only; omega⟩
theorem both_some (a0 a1 a2 a3 b0 b1 b2 b3 : Int) (w : World) :
    Calls Try.prog 19 #[.agg #[.int .i64 a0, .int .i64 a1, .int .i64 a2, .int .i64 a3], .agg #[.int .i64 b0, .int .i64 b1, .int .i64 b2, .int .i64 b3]] w fun e w' => (∃ v1 v2, e = .returned (.tuple #[v1, v2, .bool (decide (setOk a0 a1 a2 a3 ∧ setOk b0 b1 b2 b3))])) ∧ Below w.heap.size w w' := by
  by_cases h : setOk a0 a1 a2 a3 ∧ setOk b0 b1 b2 b3
  · rw [decide_eq_true h]
    obtain ⟨a, ha, rfl, rfl, rfl, rfl⟩ := St.of h.1
    obtain ⟨b, hb, rfl, rfl, rfl, rfl⟩ := St.of h.2
    refine (both_ok a b ha hb w).mono ?_
    rintro e w' ⟨B, x1, x2, x3, x4, x5, x6, rfl, _, _, hbl⟩
    exact ⟨⟨_, _, rfl⟩, hbl⟩
  · rw [decide_eq_false h]
    exact both_bad _ _ _ _ _ _ _ _ h w

set_option maxRecDepth 100000 in
set_option maxHeartbeats 4000000 in
theorem walkLinkUp (a0 : Int) (_ : (Lit.int .i64 a0).wf = true) (a1 : Int) (_ : (Lit.int .i64 a1).wf = true) (a2 : Int) (_ : (Lit.int .i64 a2).wf = true) (a3 : Int) (_ : (Lit.int .i64 a3).wf = true) (b0 : Int) (_ : (Lit.int .i64 b0).wf = true) (b1 : Int) (_ : (Lit.int .i64 b1).wf = true) (b2 : Int) (_ : (Lit.int .i64 b2).wf = true) (b3 : Int) (_ : (Lit.int .i64 b3).wf = true) {w : World} :
    Calls Try.prog 4 #[.agg #[.int .i64 a0, .int .i64 a1, .int .i64 a2, .int .i64 a3], .agg #[.int .i64 b0, .int .i64 b1, .int .i64 b2, .int .i64 b3]] w fun e w' => e = .returned (.bool true) ∧ Below w.heap.size w w' := by
  obtain ⟨w1, hw1, hb1, hz1, d0, d1, d2, d3⟩ := set_box w a0 a1 a2 a3
  obtain ⟨w2, hw2, hb2, hz2, k0, k1, k2, k3⟩ := set_box w1 b0 b1 b2 b3
  replace d0 := below_cell hb2 d0
  replace d1 := below_cell hb2 d1
  replace d2 := below_cell hb2 d2
  replace d3 := below_cell hb2 d3
  have hBB : Hid (Below w.heap.size w w2) := hb1.trans (hb2.mono hb1.size)
  have HB := both_some a0 a1 a2 a3 b0 b1 b2 b3 w2
  clear hb1 hb2 hz1 hz2
  obtain ⟨p, hp⟩ : ∃ p : Bool, decide (setOk a0 a1 a2 a3) = p := ⟨_, rfl⟩
  obtain ⟨q, hq⟩ : ∃ q : Bool, decide (setOk b0 b1 b2 b3) = q := ⟨_, rfl⟩
  have hpq : decide (setOk a0 a1 a2 a3 ∧ setOk b0 b1 b2 b3) = (p && q) := by rw [← hp, ← hq]; simp
  rw [hpq] at HB
  have HR1 := fun W : World => right_any a0 a1 a2 a3 p (by rw [← hp]; simp) W
  have HR2 := fun W : World => right_any b0 b1 b2 b3 q (by rw [← hq]; simp) W
  clear hp hq hpq
  go_enter Try.func4, Try.ntmps4
  go_wp2_with fail
  try simp only [hw1, hw2]
  go_wp2_with fail
  refine HB.mono ?_
  rintro e w3 ⟨⟨v1, v2, rfl⟩, hb3⟩
  have e0 := below_cell hb3 d0
  have e1 := below_cell hb3 d1
  have e2 := below_cell hb3 d2
  have e3 := below_cell hb3 d3
  replace k0 := below_cell hb3 k0
  replace k1 := below_cell hb3 k1
  replace k2 := below_cell hb3 k2
  replace k3 := below_cell hb3 k3
  clear d0 d1 d2 d3 HB
  have H3 : Hid (Below w.heap.size w w3) := hBB.out.trans (hb3.mono hBB.out.size)
  clear hb3 hBB
  go_wp2_with fail
  refine (HR1 w3).mono ?_
  rintro e w4 ⟨rfl, hb4⟩
  have H4 : Hid (Below w.heap.size w w4) := bl_trans H3.out hb4
  replace k0 := below_cell hb4 k0
  replace k1 := below_cell hb4 k1
  replace k2 := below_cell hb4 k2
  replace k3 := below_cell hb4 k3
  clear hb4 H3 e0 e1 e2 e3
  cases p with
  | false =>
    go_wp2_with fail
    refine (awake9_any _).mono ?_
    rintro e w5 ⟨rfl, hb5⟩
    have H5 := bl_trans H4.out hb5
    clear hb5
    go_wp2
    go_ret
    exact ⟨rfl, H5⟩
  | true =>
    go_wp2_with fail
    refine (HR2 w4).mono ?_
    rintro e w5 ⟨rfl, hb5⟩
    have H5 : Hid (Below w.heap.size w w5) := bl_trans H4.out hb5
    clear hb5
    cases q with
    | false =>
      go_wp2_with fail
      refine (awake9_any _).mono ?_
      rintro e w6 ⟨rfl, hb6⟩
      have H6 := bl_trans H5.out hb6
      clear hb6
      go_wp2
      go_ret
      exact ⟨rfl, H6⟩
    | true =>
      go_wp2_with fail
      refine (awake9_any _).mono ?_
      rintro e w6 ⟨rfl, hb6⟩
      have H6 := bl_trans H5.out hb6
      clear hb6
      go_wp2
      go_ret
      exact ⟨rfl, H6⟩

end Go.Proofs.Ythmdibagcbbgoaa
