/- portagelaw09.awake. portagelaw09.LinkUp: two ends between which nothing is lost are up within four exchanges. portagelaw09.LinkOrder: what comes in are payloads that were pushed, in their order, none twice. Conditions: as they stand. -/
import Derived.Lib.SlBytesConst
import Derived.Test.YthmdibagcbbgoaaM37
import Derived.Test.YthmdibagcbbgoaaM39
import Derived.Test.YthmdibagcbbgoaaM46
import Derived.Test.YthmdibagcbbgoaaM47
namespace Go.Proofs.Ythmdibagcbbgoaa
open Go.RowKit

def awA : St := ⟨1, 4, 3, 3⟩
def awB : St := ⟨7, 4, 3, 3⟩
def awX1 : Lk := (awA.met awB).push [97]
def awY1 : Lk := (awB.met awA).outed.recvAll awX1.out
def awX2 : Lk := awX1.outed.recvAll (awB.met awA).out
def awY2 : Lk := { awY1 with inn := [] }
def awX3 : Lk := awX2.outed.recvAll awY2.out
theorem aw9_1 : (awA.met awB).pushE [97] = 0 := by kernel_rfl
theorem aw9_2 : awX1.out.length = 1 := by kernel_rfl
theorem aw9_3 : awY1.inn = [[97]] := by kernel_rfl
theorem aw9_4 : awY1.out.length = 1 := by kernel_rfl
theorem aw9_5 : awX2.s.ps.length = 1 := by kernel_rfl
theorem aw9_6 : awX2.out.length = 0 := by kernel_rfl
theorem aw9_7 : awX3.s.ps.length = 0 := by kernel_rfl
theorem aw9_8 : awX1.inn.length = 0 := by kernel_rfl
theorem aw9_9 : awX2.inn.length = 0 := by kernel_rfl
theorem awA_ok : awA.Ok := ⟨by decide, by decide, by decide, by decide, by decide, by decide, by decide⟩
theorem awB_ok : awB.Ok := ⟨by decide, by decide, by decide, by decide, by decide, by decide, by decide⟩

section
variable {B : Nat} {w w' : World} {a1 s1 r1 a2 s2 r2 : Nat} {t1 t2 t1' t2' : Lk} {oa ia ob ib : Value} {ca cb : Nat → Nat}
theorem ctls_nil (F : Nat → Prop) (w : World) : CtlsR F w (.slice none 0 0) [] := ⟨by simp, none, 0, rfl, by simp, fun i c h => by simp at h⟩
theorem ends_first0 (hB : LkP B cb w a2 s2 r2 ob ib t2) (hd : ∀ k, ca k ≠ 0 → cb k = 0) (hto : LkTo B ca w a1 s1 r1 t1' w') : Ends B w' a1 s1 r1 a2 s2 r2 t1' t2 :=
  (ends_first (F := fun _ => False) hB hd (ctls_nil _ _) (ctls_nil _ _) (fun _ hk => hk.elim) hto).ends
theorem ends_second0 (hA : LkP B ca w a1 s1 r1 oa ia t1) (hd : ∀ k, ca k ≠ 0 → cb k = 0) (hto : LkTo B cb w a2 s2 r2 t2' w') : Ends B w' a1 s1 r1 a2 s2 r2 t1 t2' :=
  (ends_second (F := fun _ => False) hA hd (ctls_nil _ _) (ctls_nil _ _) (fun _ hk => hk.elim) hto).ends
theorem Ends.below (h : Ends B w a1 s1 r1 a2 s2 r2 t1 t2) (hb : Below w.heap.size w w') : Ends B w' a1 s1 r1 a2 s2 r2 t1 t2 := by
  obtain ⟨ca, oa, ia, cb, ob, ib, hA, hB, hd⟩ := h.ex
  exact ⟨⟨ca, oa, ia, cb, ob, ib, hA.fr (G := fun _ => False) (.of_below hb) (fun _ _ h => h), hB.fr (G := fun _ => False) (.of_below hb) (fun _ _ h => h), hd⟩⟩
theorem ends_inned (hA : LkP B ca w a1 s1 r1 oa ia t1) (hB : LkP B cb w a2 s2 r2 ob ib t2) (hd : ∀ k, ca k ≠ 0 → cb k = 0) : Ends B (w.setCell ⟨a2, 14, none⟩ (.slice none 0 0)) a1 s1 r1 a2 s2 r2 t1 { t2 with inn := [] } := by
  have hq := fr_cell w a2 14 (.slice none 0 0)
  refine ⟨⟨_, _, _, _, _, _, hA.fr hq (fun k hk e => ?_), hB.inned, fun k hk => ?_⟩⟩
  · have := hd k hk
    rw [e, hB.own] at this
    omega
  · have := hd k hk
    unfold freed
    rw [if_neg (by omega)]
    exact this
end
theorem awX1_ok : LkOk (awA.met awB) ∧ LkOk (awB.met awA) := ⟨(stage_ok (b := awB) awA_ok 2).1, (stage_ok (b := awA) awB_ok 2).1⟩

set_option maxRecDepth 100000 in
set_option maxHeartbeats 4000000 in
theorem awake9_any (w : World) :
    Calls Try.prog 18 #[] w fun e w' => e = .returned (.bool true) ∧ Below w.heap.size w w' := by
  have hcv : ∀ (W : World) (x : Int), (convert 22 22 (.slice (some ⟨W.heap.size, 0, none⟩) 1 1)).run Try.prog (W.alloc (.cells #[.int .u8 x] 5)) = .ok (.slice (some ⟨W.heap.size, 0, none⟩) 1 1) (W.alloc (.cells #[.int .u8 x] 5 (1, 2))) := fun W x => Lib.run_convert_bytes_const W 22 5 #[.int .u8 x] 1 1 Try.underlying22 Try.underlying5
  have HB0 : Calls Try.prog 19 #[.agg #[.int .i64 1, .int .i64 4, .int .i64 3, .int .i64 3], .agg #[.int .i64 7, .int .i64 4, .int .i64 3, .int .i64 3]] w fun e w' => ∃ B a1 s1 r1 a2 s2 r2, e = .returned (.tuple #[.pointer (some ⟨a1, 0, none⟩), .pointer (some ⟨a2, 0, none⟩), .bool true]) ∧ w.heap.size ≤ B ∧ Ends B w' a1 s1 r1 a2 s2 r2 (awA.met awB) (awB.met awA) ∧ Below w.heap.size w w' := both_ok awA awB awA_ok awB_ok w
  obtain ⟨ko1, ko2⟩ := awX1_ok
  go_enter Try.func18, Try.ntmps18
  go_wp2_with fail
  refine HB0.mono ?_
  rintro e w1 ⟨B, a1, s1, r1, a2, s2, r2, rfl, hBw, hE, hb1⟩
  obtain ⟨ca, oa, ia, cb, ob, ib, hA, hB, hd⟩ := hE.ex
  have hba := bl_alloc (bl_refl w1) (.cells #[.int .u8 97] 5 (1, 2))
  have hA1 := hA.fr (G := fun _ => False) (.of_below hba) (fun _ _ h => h)
  have hB1 := hB.fr (G := fun _ => False) (.of_below hba) (fun _ _ h => h)
  have HP := lpush_any B ca _ a1 s1 r1 oa ia _ hA1 ko1.s (by show (0 : Nat) ≤ _; omega) _ [97] (reads_mark' w1 97 5 (1, 2)) (wf_one (by decide))
  rw [aw9_1] at HP
  have HEN : Hid (∀ W, LkTo B ca (w1.alloc (.cells #[.int .u8 97] 5 (1, 2))) a1 s1 r1 awX1 W → Ends B W a1 s1 r1 a2 s2 r2 awX1 (awB.met awA) ∧ Below w.heap.size w W) := fun W h => ⟨ends_first0 hB1 hd h, (hb1.trans (hba.mono hb1.size)).trans ((h.bl hA1).mono hBw)⟩
  have HWB := Lib.hid hBw
  clear hE hA hB hd hA1 hB1 hb1 hba HB0 hBw
  go_wp2_with fail
  refine HP.mono ?_
  rintro e w2 ⟨rfl, h2⟩
  obtain ⟨hE2, hb2⟩ := HEN.out _ h2
  have g1 := push_grow (awA.met awB) [97] ko1
  have HC := cross_any B w2 a1 s1 r1 a2 s2 r2 awX1 (awB.met awA) hE2 g1.1 ko2 (by rw [aw9_2]; omega) (by show (0 : Nat) ≤ _; omega) (by rw [aw9_8]; omega) (by show (0 : Nat) ≤ _; omega)
  have HB2 := Lib.hid hb2
  clear h2 hE2 hb2 HEN HP
  go_wp2_with fail
  refine HC.mono ?_
  rintro e w3 ⟨rfl, hE3, hb3⟩
  have hE3' : Ends B w3 a1 s1 r1 a2 s2 r2 awX2 awY1 := hE3
  obtain ⟨ca, oa, ia, cb, ob, ib, hA, hB, hd⟩ := hE3'.ex
  have HI := lin_any B cb w3 a2 s2 r2 ob ib awY1 hB
  have hE4 := ends_inned hA hB hd
  have hE4' : Ends B (w3.setCell ⟨a2, 14, none⟩ (.slice none 0 0)) a1 s1 r1 a2 s2 r2 awX2 awY2 := hE4
  have hq := fr_cell w3 a2 14 (.slice none 0 0)
  obtain ⟨vs, v1, v2, v3, v4⟩ := hB.inn
  rw [aw9_3] at v1 v4
  have hb4 : Below w.heap.size w (w3.setCell ⟨a2, 14, none⟩ (.slice none 0 0)) := (HB2.out.trans (hb3.mono HWB.out)).trans (fr_bl hq (fun k hk => by subst hk; exact Nat.le_trans HWB.out (hB.cols.2 k (by rw [hB.own]; omega)).1) (Nat.le_trans HWB.out hB.cols.1))
  obtain ⟨x, hx⟩ := get_some (xs := vs) (k := 0) (by rw [v1]; decide)
  have hrx := (v4 0 x [97] hx rfl).fr hq (fun k hk e => by have := hB.own; rw [show k = a2 from e] at hk; omega)
  obtain ⟨xo, xc, rfl⟩ : ∃ xo xc, x = .slice xo 1 xc := by
    obtain ⟨⟨⟨_, ao, cap, h, _⟩, _⟩, _⟩ := hrx
    exact ⟨ao, cap, h⟩
  have v1' : vs.length = 1 := v1
  rw [v1'] at v2
  obtain ⟨gi, ic, rfl⟩ : ∃ g c, ib = .slice (some ⟨g, 0, none⟩) 1 c := by
    rcases v2.2 with ⟨_, h0⟩ | ⟨g, c, cur, hv, _⟩
    · omega
    · exact ⟨g, c, hv⟩
  have hcell : w3.cell? ⟨gi, 0, none⟩ = some (.slice xo 1 xc) := by
    have := v2.cells (g := gi) rfl 0 _ hx
    rw [Addr.add_lit] at this
    simpa using this
  have hcell2 := hq.cell hcell (by have := v3 gi rfl; have := hB.own; intro e; subst e; omega)
  have hstr := conv_reads hrx.1.1
  rw [str_one] at hstr
  have g2 := recvAll_grow (awB.met awA).out awX1.outed ⟨g1.1.me, g1.1.s, g1.1.r⟩
  have g3 := recvAll_grow awX1.out (awB.met awA).outed ⟨ko2.me, ko2.s, ko2.r⟩
  have HB4 := Lib.hid hb4
  have HE4 := Lib.hid hE4'
  obtain ⟨W4, hW4⟩ : ∃ W4, w3.setCell ⟨a2, 14, none⟩ (.slice none 0 0) = W4 := ⟨_, rfl⟩
  rw [hW4] at HB4 HE4 hcell2 hstr HI
  have hn2 : awX2.inn.length ≤ 1000 := by rw [aw9_9]; omega
  have HC2 := cross_any B W4 a1 s1 r1 a2 s2 r2 awX2 awY2 HE4.out g2.1 ⟨g3.1.me, g3.1.s, g3.1.r⟩ (by rw [aw9_6]; omega) (by show awY1.out.length ≤ _; rw [aw9_4]; omega) hn2 (by show (0 : Nat) ≤ _; omega)
  rw [aw9_6] at HC2
  have e4 : awY2.out.length = 1 := aw9_4
  rw [e4] at HC2
  obtain ⟨ca', oa', ia', cb', ob', ib', hA', _, _⟩ := HE4.out.ex
  have HPN := lpending_any B ca' W4 a1 s1 r1 oa' ia' awX2 hA'
  rw [aw9_5] at HPN
  clear hE3 hE3' hA hB hd hE4 hE4' hq v1 v1' v2 v3 v4 hx hrx hb3 hb4 hcell g1 g2 g3 hA' hn2 HC HE4
  go_wp2_with fail
  refine HI.mono ?_
  rintro e w4 ⟨rfl, rfl⟩
  go_wp2_with fail
  refine HPN.mono ?_
  rintro e w5 ⟨rfl, rfl⟩
  go_wp2_with fail
  refine HC2.mono ?_
  rintro e w6 ⟨rfl, hE6, hb6⟩
  have hE6' : Ends B w6 a1 s1 r1 a2 s2 r2 awX3 (awY2.outed.recvAll awX2.out) := hE6
  obtain ⟨ca', oa', ia', cb', ob', ib', hA', _, _⟩ := hE6'.ex
  have HPN2 := lpending_any B ca' w6 a1 s1 r1 oa' ia' awX3 hA'
  rw [aw9_7] at HPN2
  have HB6 : Hid (Below w.heap.size w w6) := HB4.out.trans (hb6.mono HWB.out)
  clear hE6 hE6' hA' hb6 HC2 HI HPN
  go_wp2_with fail
  refine HPN2.mono ?_
  rintro e w7 ⟨rfl, rfl⟩
  go_wp2
  go_ret
  exact ⟨rfl, HB6.out⟩

end Go.Proofs.Ythmdibagcbbgoaa

namespace Go.Proofs.Ythmdibagcbbgoaa
open Go.RowKit

instance (a b c d : Int) : Decidable (setOk a b c d) := by unfold setOk; infer_instance
theorem St.of {a0 a1 a2 a3 : Int} (h : setOk a0 a1 a2 a3) : ∃ a : St, a.Ok ∧ a0 = a.me ∧ a1 = a.size ∧ a2 = a.timer ∧ a3 = a.tries := by
  unfold setOk at h
  exact ⟨⟨a0.toNat, a1.toNat, a2.toNat, a3.toNat⟩, ⟨by simp only; omega, by simp only; omega, by simp only; omega, by simp only; omega, by simp only; omega, by simp only; omega, by simp only; omega⟩, by simp only; omega, by simp only; omega, by simp only; omega, by simp only; omega⟩
theorem both_some (a0 a1 a2 a3 b0 b1 b2 b3 : Int) (w : World) :
    Calls Try.prog 19 #[.agg #[.int .i64 a0, .int .i64 a1, .int .i64 a2, .int .i64 a3], .agg #[.int .i64 b0, .int .i64 b1, .int .i64 b2, .int .i64 b3]] w fun e w' => (∃ v1 v2, e = .returned (.tuple #[v1, v2, .bool (decide (setOk a0 a1 a2 a3 ∧ setOk b0 b1 b2 b3))])) ∧ Below w.heap.size w w' := by
  by_cases h : setOk a0 a1 a2 a3 ∧ setOk b0 b1 b2 b3
  · rw [decide_eq_true h]
    obtain ⟨a, ha, rfl, rfl, rfl, rfl⟩ := St.of h.1
    obtain ⟨b, hb, rfl, rfl, rfl, rfl⟩ := St.of h.2
    refine (both_ok a b ha hb w).mono ?_
    rintro e w' ⟨B, x1, x2, x3, x4, x5, x6, rfl, _, _, hbl⟩
    exact ⟨⟨_, _, rfl⟩, hbl⟩
  · rw [decide_eq_false h]
    exact both_bad _ _ _ _ _ _ _ _ h w

set_option maxRecDepth 100000 in
set_option maxHeartbeats 4000000 in
theorem walkLinkUp (a0 : Int) (_ : (Lit.int .i64 a0).wf = true) (a1 : Int) (_ : (Lit.int .i64 a1).wf = true) (a2 : Int) (_ : (Lit.int .i64 a2).wf = true) (a3 : Int) (_ : (Lit.int .i64 a3).wf = true) (b0 : Int) (_ : (Lit.int .i64 b0).wf = true) (b1 : Int) (_ : (Lit.int .i64 b1).wf = true) (b2 : Int) (_ : (Lit.int .i64 b2).wf = true) (b3 : Int) (_ : (Lit.int .i64 b3).wf = true) {w : World} :
    Calls Try.prog 4 #[.agg #[.int .i64 a0, .int .i64 a1, .int .i64 a2, .int .i64 a3], .agg #[.int .i64 b0, .int .i64 b1, .int .i64 b2, .int .i64 b3]] w fun e w' => e = .returned (.bool true) ∧ Below w.heap.size w w' := by
  obtain ⟨w1, hw1, hb1, hz1, d0, d1, d2, d3⟩ := set_box w a0 a1 a2 a3
  obtain ⟨w2, hw2, hb2, hz2, k0, k1, k2, k3⟩ := set_box w1 b0 b1 b2 b3
  replace d0 := below_cell hb2 d0
  replace d1 := below_cell hb2 d1
  replace d2 := below_cell hb2 d2
  replace d3 := below_cell hb2 d3
  have hBB : Hid (Below w.heap.size w w2) := hb1.trans (hb2.mono hb1.size)
  have HB := both_some a0 a1 a2 a3 b0 b1 b2 b3 w2
  clear hb1 hb2 hz1 hz2
  obtain ⟨p, hp⟩ : ∃ p : Bool, decide (setOk a0 a1 a2 a3) = p := ⟨_, rfl⟩
  obtain ⟨q, hq⟩ : ∃ q : Bool, decide (setOk b0 b1 b2 b3) = q := ⟨_, rfl⟩
  have hpq : decide (setOk a0 a1 a2 a3 ∧ setOk b0 b1 b2 b3) = (p && q) := by rw [← hp, ← hq]; simp
  rw [hpq] at HB
  have HR1 := fun W : World => right_any a0 a1 a2 a3 p (by rw [← hp]; simp) W
  have HR2 := fun W : World => right_any b0 b1 b2 b3 q (by rw [← hq]; simp) W
  clear hp hq hpq
  go_enter Try.func4, Try.ntmps4
  go_wp2_with fail
  try simp only [hw1, hw2]
  go_wp2_with fail
  refine HB.mono ?_
  rintro e w3 ⟨⟨v1, v2, rfl⟩, hb3⟩
  have e0 := below_cell hb3 d0
  have e1 := below_cell hb3 d1
  have e2 := below_cell hb3 d2
  have e3 := below_cell hb3 d3
  replace k0 := below_cell hb3 k0
  replace k1 := below_cell hb3 k1
  replace k2 := below_cell hb3 k2
  replace k3 := below_cell hb3 k3
  clear d0 d1 d2 d3 HB
  have H3 : Hid (Below w.heap.size w w3) := hBB.out.trans (hb3.mono hBB.out.size)
  clear hb3 hBB
  go_wp2_with fail
  refine (HR1 w3).mono ?_
  rintro e w4 ⟨rfl, hb4⟩
  have H4 : Hid (Below w.heap.size w w4) := bl_trans H3.out hb4
  replace k0 := below_cell hb4 k0
  replace k1 := below_cell hb4 k1
  replace k2 := below_cell hb4 k2
  replace k3 := below_cell hb4 k3
  clear hb4 H3 e0 e1 e2 e3
  cases p with
  | false =>
    go_wp2_with fail
    refine (awake9_any _).mono ?_
    rintro e w5 ⟨rfl, hb5⟩
    have H5 := bl_trans H4.out hb5
    clear hb5
    go_wp2
    go_ret
    exact ⟨rfl, H5⟩
  | true =>
    go_wp2_with fail
    refine (HR2 w4).mono ?_
    rintro e w5 ⟨rfl, hb5⟩
    have H5 : Hid (Below w.heap.size w w5) := bl_trans H4.out hb5
    clear hb5
    cases q with
    | false =>
      go_wp2_with fail
      refine (awake9_any _).mono ?_
      rintro e w6 ⟨rfl, hb6⟩
      have H6 := bl_trans H5.out hb6
      clear hb6
      go_wp2
      go_ret
      exact ⟨rfl, H6⟩
    | true =>
      go_wp2_with fail
      refine (awake9_any _).mono ?_
      rintro e w6 ⟨rfl, hb6⟩
      have H6 := bl_trans H5.out hb6
      clear hb6
      go_wp2
      go_ret
      exact ⟨rfl, H6⟩

end Go.Proofs.Ythmdibagcbbgoaa

namespace Go.Proofs.Ythmdibagcbbgoaa
open Go.RowKit

theorem step_any {B n : Nat} {w : World} {nb : Nat} {st : Nat → St} {L : Ln} (h : LineAt B w nb st true L) (hg : Good n L) (hn : n ≤ 300) (hs : ∀ i, i < 2 → (st i).Ok) (k : Int) (b : Bool) :
    Calls Try.prog 22 #[.pointer (some ⟨nb, 0, none⟩), .agg #[.int .i64 k, .bool b]] w fun e w' => StepTo B n w nb st e w' := by
  by_cases hk : k < 0 ∨ 5 < k
  · cases b with
    | false => exact step_other0 h hg hn k hk
    | true => exact step_other1 h hg hn k hk
  rcases (show k = 0 ∨ k = 1 ∨ k = 2 ∨ k = 3 ∨ k = 4 ∨ k = 5 by omega) with rfl | rfl | rfl | rfl | rfl | rfl
  · cases b with
    | false => exact step_push0 h hg hn
    | true => exact step_push1 h hg hn
  · cases b with
    | false => exact step_tick0 h hg hn
    | true => exact step_tick1 h hg hn
  · cases b with
    | false => cases hw : L.way 0 with
      | nil => exact step_none2_0 h hg hn hw
      | cons c l => exact step_once0 h hg hn hw
    | true => cases hw : L.way 1 with
      | nil => exact step_none2_1 h hg hn hw
      | cons c l => exact step_once1 h hg hn hw
  · cases b with
    | false => cases hw : L.way 0 with
      | nil => exact step_none3_0 h hg hn hw
      | cons c l => exact step_lost0 h hg hn hw
    | true => cases hw : L.way 1 with
      | nil => exact step_none3_1 h hg hn hw
      | cons c l => exact step_lost1 h hg hn hw
  · cases b with
    | false => cases hw : L.way 0 with
      | nil => exact step_none4_0 h hg hn hw
      | cons c l => exact step_twice0 h hg hn hw
    | true => cases hw : L.way 1 with
      | nil => exact step_none4_1 h hg hn hw
      | cons c l => exact step_twice1 h hg hn hw
  · cases b with
    | false => exact step_renew0 h hg hn (hs 0 (by omega))
    | true => exact step_renew1 h hg hn (hs 1 (by omega))

/-- The line between two rounds. -/
structure Lined (w : World) (nb : Nat) (st : Nat → St) (n : Nat) (wr : World) : Prop where
  ex : ∃ B L, w.heap.size ≤ B ∧ LineAt B wr nb st true L ∧ Good n L
  bl : Below w.heap.size w wr

set_option maxRecDepth 100000 in
set_option maxHeartbeats 4000000 in
theorem lorder_ok (a b : St) (ha : a.Ok) (hb : b.Ok) (v : Value) (l : List (Int × Bool)) (w : World) (hl : WaybAt w.heap.size w v l) :
    Calls Try.prog 6 #[.agg #[.int .i64 a.me, .int .i64 a.size, .int .i64 a.timer, .int .i64 a.tries], .agg #[.int .i64 b.me, .int .i64 b.size, .int .i64 b.timer, .int .i64 b.tries], v] w fun e w' => e = .returned (.bool true) ∧ Below w.heap.size w w' := by
  obtain ⟨ao, cap, rfl, hlc, hm⟩ : ∃ ao cap, v = .slice ao l.length cap ∧ l.length ≤ cap ∧ l.length ≤ maxLen := by
    obtain ⟨hm, ao, cap, hv, hl, _⟩ := hl
    exact ⟨ao, cap, hv, hl, hm⟩
  simp only [maxLen] at hm
  obtain ⟨w1, hw1, hb1, hz1, d0, d1, d2, d3⟩ := set_box w a.me a.size a.timer a.tries
  obtain ⟨w2, hw2, hb2, hz2, k0, k1, k2, k3⟩ := set_box w1 b.me b.size b.timer b.tries
  replace d0 := below_cell hb2 d0
  replace d1 := below_cell hb2 d1
  replace d2 := below_cell hb2 d2
  replace d3 := below_cell hb2 d3
  have HBB : Hid (Below w.heap.size w w2) := hb1.trans (hb2.mono hb1.size)
  have HL := Lib.hid hl
  have HB := begin_ok a b ha hb w2
  have HOK : Hid (a.Ok ∧ b.Ok) := ⟨ha, hb⟩
  clear hl hb1 hb2 hz1 hz2 ha hb
  go_enter Try.func6, Try.ntmps6
  go_wp2_with fail
  try simp only [hw1, hw2]
  go_wp2_with fail
  refine HB.mono ?_
  rintro e w3 ⟨B, nb, rfl, hBw, hln, hb3⟩
  have H3 : Hid (Below w.heap.size w w3) := bl_trans HBB.out hb3
  replace d0 := below_cell hb3 d0
  replace k0 := below_cell hb3 k0
  have HLN : Hid (w.heap.size ≤ B ∧ LineAt B w3 nb (two a b) true (Ln.start (Lk.new a.me a.size a.timer a.tries) (Lk.new b.me b.size b.timer b.tries))) := ⟨Nat.le_trans HBB.out.size hBw, hln⟩
  clear hln hb3 hBw HB d1 d2 d3 k1 k2 k3 HBB
  by_cases hm1 : a.me ≤ 60000
  · have g1 : ((60000 : Int) < (a.me : Int)) = False := eq_false (by omega)
    by_cases hm2 : b.me ≤ 60000
    · have g2 : ((60000 : Int) < (b.me : Int)) = False := eq_false (by omega)
      have HI : Hid (Lined w nb (two a b) 0 w3) := ⟨⟨_, _, HLN.out.1, HLN.out.2, good_start HOK.out.1 HOK.out.2 hm1 hm2⟩, H3.out⟩
      have HST : Hid (∀ i, i < 2 → (two a b i).Ok) := lt_two HOK.out.1 HOK.out.2
      clear HLN H3 HOK hm1 hm2
      go_wp2_with fail
      go_loopw [8] (fun iv wr => ∃ i : Nat, iv = .int .i64 i ∧ i ≤ l.length ∧ i ≤ 300 ∧ Hid (Lined w nb (two a b) i wr)) (fun iv _ => 300 - (intOf iv).toNat)
      case atStart => exact ⟨0, rfl, by omega, by omega, HI⟩
      case round =>
        clear HI
        obtain ⟨i, rfl, hi1, hi2, HI⟩ := hrel
        by_cases hlt : i < l.length ∧ i < 300
        · obtain ⟨hlt1, hlt2⟩ := hlt
          obtain ⟨c, hci⟩ := get_some hlt1
          obtain ⟨b0, o, rfl, hbw, hc0, hc1, _⟩ := HL.out.at_ hci
          rw [← Nat.add_assoc] at hc1
          replace hc0 := (HI.out.bl.cell (p := ⟨b0, _, none⟩) hbw).trans hc0
          replace hc1 := (HI.out.bl.cell (p := ⟨b0, _, none⟩) hbw).trans hc1
          obtain ⟨B', L, hB', hLr, hg⟩ := HI.out.ex
          have HS := step_any hLr hg (by omega) HST.out c.1 c.2
          have HBW := Lib.hid hB'
          have f0 : (0 : Int) ≤ (i : Int) := by omega
          have f1 : (i : Int) < (l.length : Int) := by omega
          have f2 : (i : Int) < 300 := by omega
          clear hci hLr hg hB'
          go_wp2_with fail
          refine HS.mono ?_
          rintro e w4 ⟨⟨rv, rfl⟩, ⟨L4, hL4, hg4⟩, hb4⟩
          have H4 : Hid (Lined w nb (two a b) (i + 1) w4) := ⟨⟨_, _, HBW.out, hL4, hg4⟩, HI.out.bl.trans (hb4.mono HBW.out)⟩
          have q16 : w4.cell? ⟨nb, 16, none⟩ = some (.bool true) := by
            obtain ⟨_, _, _, _, _, _, _, _, _, h9⟩ := hL4.ex
            exact h9.cell 16 rfl
          clear hL4 hg4 hb4 HS hc0 hc1
          go_wp2
          go_roundw
          case rel => exact ⟨i + 1, by go_num, by omega, by omega, H4⟩
          case measure => simp [intOf]; omega
        · have HAW := Lib.hid (awake9_any wr)
          by_cases hll : i < l.length
          · have hii : i = 300 := by omega
            subst hii
            go_wp2_with fail
            refine HAW.out.mono ?_
            rintro e w5 ⟨rfl, hb5⟩
            go_wp2
            go_ret
            exact ⟨rfl, bl_trans HI.out.bl hb5⟩
          · obtain rfl : i = l.length := by omega
            go_wp2_with fail
            refine HAW.out.mono ?_
            rintro e w5 ⟨rfl, hb5⟩
            go_wp2
            go_ret
            exact ⟨rfl, bl_trans HI.out.bl hb5⟩
    · have g2 : (60000 : Int) < (b.me : Int) := by omega
      clear HLN HOK hm1 hm2
      go_wp2_with fail
      refine (awake9_any _).mono ?_
      rintro e w5 ⟨rfl, hb5⟩
      have H5 := bl_trans H3.out hb5
      clear hb5
      go_wp2
      go_ret
      exact ⟨rfl, H5⟩
  · have g1 : (60000 : Int) < (a.me : Int) := by omega
    clear HLN HOK hm1
    go_wp2_with fail
    refine (awake9_any _).mono ?_
    rintro e w5 ⟨rfl, hb5⟩
    have H5 := bl_trans H3.out hb5
    clear hb5
    go_wp2
    go_ret
    exact ⟨rfl, H5⟩

set_option maxRecDepth 100000 in
set_option maxHeartbeats 4000000 in
theorem lorder_bad (a0 a1 a2 a3 b0 b1 b2 b3 : Int) (v : Value) (h : ¬ (setOk a0 a1 a2 a3 ∧ setOk b0 b1 b2 b3)) (w : World) :
    Calls Try.prog 6 #[.agg #[.int .i64 a0, .int .i64 a1, .int .i64 a2, .int .i64 a3], .agg #[.int .i64 b0, .int .i64 b1, .int .i64 b2, .int .i64 b3], v] w fun e w' => e = .returned (.bool true) ∧ Below w.heap.size w w' := by
  obtain ⟨w1, hw1, hb1, hz1, d0, d1, d2, d3⟩ := set_box w a0 a1 a2 a3
  obtain ⟨w2, hw2, hb2, hz2, k0, k1, k2, k3⟩ := set_box w1 b0 b1 b2 b3
  replace d0 := below_cell hb2 d0
  replace d1 := below_cell hb2 d1
  replace d2 := below_cell hb2 d2
  replace d3 := below_cell hb2 d3
  have hBB : Hid (Below w.heap.size w w2) := hb1.trans (hb2.mono hb1.size)
  have HB := begin_bad a0 a1 a2 a3 b0 b1 b2 b3 h w2
  clear hb1 hb2 hz1 hz2
  obtain ⟨p, hp⟩ : ∃ p : Bool, decide (setOk a0 a1 a2 a3) = p := ⟨_, rfl⟩
  obtain ⟨q, hq⟩ : ∃ q : Bool, decide (setOk b0 b1 b2 b3) = q := ⟨_, rfl⟩
  have hpq : (p && q) = false := by rw [← hp, ← hq]; simpa using h
  have HR1 := fun W : World => right_any a0 a1 a2 a3 p (by rw [← hp]; simp) W
  have HR2 := fun W : World => right_any b0 b1 b2 b3 q (by rw [← hq]; simp) W
  clear hp hq h
  go_enter Try.func6, Try.ntmps6
  go_wp2_with fail
  try simp only [hw1, hw2]
  go_wp2_with fail
  refine HB.mono ?_
  rintro e w3 ⟨rfl, hb3⟩
  have e0 := below_cell hb3 d0
  have e1 := below_cell hb3 d1
  have e2 := below_cell hb3 d2
  have e3 := below_cell hb3 d3
  replace k0 := below_cell hb3 k0
  replace k1 := below_cell hb3 k1
  replace k2 := below_cell hb3 k2
  replace k3 := below_cell hb3 k3
  clear d0 d1 d2 d3 HB
  have H3 : Hid (Below w.heap.size w w3) := bl_trans hBB.out hb3
  clear hb3 hBB
  go_wp2_with fail
  refine (HR1 w3).mono ?_
  rintro e w4 ⟨rfl, hb4⟩
  have H4 : Hid (Below w.heap.size w w4) := bl_trans H3.out hb4
  replace k0 := below_cell hb4 k0
  replace k1 := below_cell hb4 k1
  replace k2 := below_cell hb4 k2
  replace k3 := below_cell hb4 k3
  clear hb4 H3 e0 e1 e2 e3
  cases p with
  | false =>
    clear hpq
    go_wp2_with fail
    refine (awake9_any _).mono ?_
    rintro e w5 ⟨rfl, hb5⟩
    have H5 := bl_trans H4.out hb5
    clear hb5
    go_wp2
    go_ret
    exact ⟨rfl, H5⟩
  | true =>
    cases q with
    | true => cases hpq
    | false =>
      clear hpq
      go_wp2_with fail
      refine (HR2 w4).mono ?_
      rintro e w5 ⟨rfl, hb5⟩
      have H5 : Hid (Below w.heap.size w w5) := bl_trans H4.out hb5
      clear hb5
      go_wp2_with fail
      refine (awake9_any _).mono ?_
      rintro e w6 ⟨rfl, hb6⟩
      have H6 := bl_trans H5.out hb6
      clear hb6
      go_wp2
      go_ret
      exact ⟨rfl, H6⟩

theorem walkLinkOrder {w : World} (a0 : Int) (_ : (Lit.int .i64 a0).wf = true) (a1 : Int) (_ : (Lit.int .i64 a1).wf = true) (a2 : Int) (_ : (Lit.int .i64 a2).wf = true) (a3 : Int) (_ : (Lit.int .i64 a3).wf = true) (b0 : Int) (_ : (Lit.int .i64 b0).wf = true) (b1 : Int) (_ : (Lit.int .i64 b1).wf = true) (b2 : Int) (_ : (Lit.int .i64 b2).wf = true) (b3 : Int) (_ : (Lit.int .i64 b3).wf = true) (v : Value) (l : List (Int × Bool)) (hl : WaybAt w.heap.size w v l) :
    Calls Try.prog 6 #[.agg #[.int .i64 a0, .int .i64 a1, .int .i64 a2, .int .i64 a3], .agg #[.int .i64 b0, .int .i64 b1, .int .i64 b2, .int .i64 b3], v] w fun e w' => e = .returned (.bool true) ∧ Below w.heap.size w w' := by
  by_cases h : setOk a0 a1 a2 a3 ∧ setOk b0 b1 b2 b3
  · obtain ⟨a, ha, rfl, rfl, rfl, rfl⟩ := St.of h.1
    obtain ⟨b, hb, rfl, rfl, rfl, rfl⟩ := St.of h.2
    exact lorder_ok a b ha hb v l w hl
  · exact lorder_bad _ _ _ _ _ _ _ _ v h w

end Go.Proofs.Ythmdibagcbbgoaa
