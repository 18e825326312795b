/- portagelaw09.awake. Conditions: as they stand. -/
import Derived.Lib.SlBytesConst
import Derived.Test.YthmdibagcbbgoaaM33
namespace Go.Proofs.Ythmdibagcbbgoaa
open Go.RowKit

def awA : St := ⟨1, 4, 3, 3⟩
def awB : St := ⟨7, 4, 3, 3⟩
def awX1 : Lk := (awA.met awB).push [97]
def awY1 : Lk := (awB.met awA).outed.recvAll awX1.out
def awX2 : Lk := awX1.outed.recvAll (awB.met awA).out
def awY2 : Lk := { awY1 with inn := [] }
def awX3 : Lk := awX2.outed.recvAll awY2.out
theorem aw9_1 : (awA.met awB).pushE [97] = 0 := by kernel_rfl
theorem aw9_2 : awX1.out.length = 1 := by kernel_rfl
theorem aw9_3 : awY1.inn = [[97]] := by kernel_rfl
theorem aw9_4 : awY1.out.length = 1 := by kernel_rfl
theorem aw9_5 : awX2.s.ps.length = 1 := by kernel_rfl
theorem aw9_6 : awX2.out.length = 0 := by kernel_rfl
theorem aw9_7 : awX3.s.ps.length = 0 := by kernel_rfl
theorem aw9_8 : awX1.inn.length = 0 := by kernel_rfl
theorem aw9_9 : awX2.inn.length = 0 := by kernel_rfl
theorem awA_ok : awA.Ok := ⟨by decide, by decide, by decide, by decide, by decide, by decide, by decide⟩
theorem awB_ok : awB.Ok := ⟨by decide, by decide, by decide, by decide, by decide, by decide, by decide⟩

section
variable {B : Nat} {w w' : World} {a1 s1 r1 a2 s2 r2 : Nat} {t1 t2 t1' t2' : Lk} {oa ia ob ib : Value} {ca cb : Nat → Nat}
theorem ctls_nil (F : Nat → Prop) (w : World) : CtlsR F w (.slice none 0 0) [] := ⟨by simp, none, 0, rfl, by simp, fun i c h => by simp at h⟩
theorem ends_first0 (hB : LkP B cb w a2 s2 r2 ob ib t2) (hd : ∀ k, ca k ≠ 0 → cb k = 0) (hto : LkTo B ca w a1 s1 r1 t1' w') : Ends B w' a1 s1 r1 a2 s2 r2 t1' t2 :=
  (ends_first (F := fun _ => False) hB hd (ctls_nil _ _) (ctls_nil _ _) (fun _ hk => hk.elim) hto).ends
theorem ends_second0 (hA : LkP B ca w a1 s1 r1 oa ia t1) (hd : ∀ k, ca k ≠ 0 → cb k = 0) (hto : LkTo B cb w a2 s2 r2 t2' w') : Ends B w' a1 s1 r1 a2 s2 r2 t1 t2' :=
  (ends_second (F := fun _ => False) hA hd (ctls_nil _ _) (ctls_nil _ _) (fun _ hk => hk.elim) hto).ends
theorem Ends.below (h : Ends B w a1 s1 r1 a2 s2 r2 t1 t2) (hb : Below w.heap.size w w') : Ends B w' a1 s1 r1 a2 s2 r2 t1 t2 := by
  obtain ⟨ca, oa, ia, cb, ob, ib, hA, hB, hd⟩ := h.ex
  exact ⟨⟨ca, oa, ia, cb, ob, ib, hA.fr (G := fun _ => False) (.of_below hb) (fun _ _ h => h), hB.fr (G := fun _ => False) (.of_below hb) (fun _ _ h => h), hd⟩⟩
theorem ends_inned (hA : LkP B ca w a1 s1 r1 oa ia t1) (hB : LkP B cb w a2 s2 r2 ob ib t2) (hd : ∀ k, ca k ≠ 0 → cb k = 0) : Ends B (w.setCell ⟨a2, 14, none⟩ (.slice none 0 0)) a1 s1 r1 a2 s2 r2 t1 { t2 with inn := [] } := by
  have hq := fr_cell w a2 14 (.slice none 0 0)
  refine ⟨⟨_, _, _, _, _, _, hA.fr hq (fun k hk e => ?_), hB.inned, fun k hk => ?_⟩⟩
  · have := hd k hk
    rw [e, hB.own] at this
    omega
  · have := hd k hk
    unfold freed
    rw [if_neg (by omega)]
    exact this
end
theorem awX1_ok : LkOk (awA.met awB) ∧ LkOk (awB.met awA) := ⟨(stage_ok (b := awB) awA_ok 2).1, (stage_ok (b := awA) awB_ok 2).1⟩

set_option maxRecDepth 100000 in
set_option maxHeartbeats 4000000 in
theorem awake9_any (w : World) :
    Calls Try.prog 18 #[] w fun e w' => e = .returned (.bool true) ∧ Below w.heap.size w w' := by
  have hcv : ∀ (W : World) (x : Int), (convert 22 22 (.slice (some ⟨W.heap.size, 0, none⟩) 1 1)).run Try.prog (W.alloc (.cells #[.int .u8 x] 5)) = .ok (.slice (some ⟨W.heap.size, 0, none⟩) 1 1) (W.alloc (.cells #[.int .u8 x] 5 (1, 2))) := fun W x => Lib.run_convert_bytes_const W 22 5 #[.int .u8 x] 1 1 Try.underlying22 Try.underlying5
  have HB0 : Calls Try.prog 19 #[.agg #[.int .i64 1, .int .i64 4, .int .i64 3, .int .i64 3], .agg #[.int .i64 7, .int .i64 4, .int .i64 3, .int .i64 3]] w fun e w' => ∃ B a1 s1 r1 a2 s2 r2, e = .returned (.tuple #[.pointer (some ⟨a1, 0, none⟩), .pointer (some ⟨a2, 0, none⟩), .bool true]) ∧ w.heap.size ≤ B ∧ Ends B w' a1 s1 r1 a2 s2 r2 (awA.met awB) (awB.met awA) ∧ Below w.heap.size w w' := both_ok awA awB awA_ok awB_ok w
  obtain ⟨ko1, ko2⟩ := awX1_ok
  go_enter Try.func18, Try.ntmps18
  go_wp2_with fail
  refine HB0.mono ?_
  rintro e w1 ⟨B, a1, s1, r1, a2, s2, r2, rfl, hBw, hE, hb1⟩
  obtain ⟨ca, oa, ia, cb, ob, ib, hA, hB, hd⟩ := hE.ex
  have hba := bl_alloc (bl_refl w1) (.cells #[.int .u8 97] 5 (1, 2))
  have hA1 := hA.fr (G := fun _ => False) (.of_below hba) (fun _ _ h => h)
  have hB1 := hB.fr (G := fun _ => False) (.of_below hba) (fun _ _ h => h)
  have HP := lpush_any B ca _ a1 s1 r1 oa ia _ hA1 ko1.s (by show (0 : Nat) ≤ _; omega) _ [97] (reads_mark' w1 97 5 (1, 2)) (wf_one (by decide))
  rw [aw9_1] at HP
  have HEN : Hid (∀ W, LkTo B ca (w1.alloc (.cells #[.int .u8 97] 5 (1, 2))) a1 s1 r1 awX1 W → Ends B W a1 s1 r1 a2 s2 r2 awX1 (awB.met awA) ∧ Below w.heap.size w W) := fun W h => ⟨ends_first0 hB1 hd h, (hb1.trans (hba.mono hb1.size)).trans ((h.bl hA1).mono hBw)⟩
  have HWB := Lib.hid hBw
  clear hE hA hB hd hA1 hB1 hb1 hba HB0 hBw
  go_wp2_with fail
  refine HP.mono ?_
  rintro e w2 ⟨rfl, h2⟩
  obtain ⟨hE2, hb2⟩ := HEN.out _ h2
  have g1 := push_grow (awA.met awB) [97] ko1
  have HC := cross_any B w2 a1 s1 r1 a2 s2 r2 awX1 (awB.met awA) hE2 g1.1 ko2 (by rw [aw9_2]; omega) (by show (0 : Nat) ≤ _; omega) (by rw [aw9_8]; omega) (by show (0 : Nat) ≤ _; omega)
  have HB2 := Lib.hid hb2
  clear h2 hE2 hb2 HEN HP
  go_wp2_with fail
  refine HC.mono ?_
  rintro e w3 ⟨rfl, hE3, hb3⟩
  have hE3' : Ends B w3 a1 s1 r1 a2 s2 r2 awX2 awY1 := hE3
  obtain ⟨ca, oa, ia, cb, ob, ib, hA, hB, hd⟩ := hE3'.ex
  have HI := lin_any B cb w3 a2 s2 r2 ob ib awY1 hB
  have hE4 := ends_inned hA hB hd
  have hE4' : Ends B (w3.setCell ⟨a2, 14, none⟩ (.slice none 0 0)) a1 s1 r1 a2 s2 r2 awX2 awY2 := hE4
  have hq := fr_cell w3 a2 14 (.slice none 0 0)
  obtain ⟨vs, v1, v2, v3, v4⟩ := hB.inn
  rw [aw9_3] at v1 v4
  have hb4 : Below w.heap.size w (w3.setCell ⟨a2, 14, none⟩ (.slice none 0 0)) := (HB2.out.trans (hb3.mono HWB.out)).trans (fr_bl hq (fun k hk => by subst hk; exact Nat.le_trans HWB.out (hB.cols.2 k (by rw [hB.own]; omega)).1) (Nat.le_trans HWB.out hB.cols.1))
  obtain ⟨x, hx⟩ := get_some (xs := vs) (k := 0) (by rw [v1]; decide)
  have hrx := (v4 0 x [97] hx rfl).fr hq (fun k hk e => by have := hB.own; rw [show k = a2 from e] at hk; omega)
  obtain ⟨xo, xc, rfl⟩ : ∃ xo xc, x = .slice xo 1 xc := by
    obtain ⟨⟨⟨_, ao, cap, h, _⟩, _⟩, _⟩ := hrx
    exact ⟨ao, cap, h⟩
  have v1' : vs.length = 1 := v1
  rw [v1'] at v2
  obtain ⟨gi, ic, rfl⟩ : ∃ g c, ib = .slice (some ⟨g, 0, none⟩) 1 c := by
    rcases v2.2 with ⟨_, h0⟩ | ⟨g, c, cur, hv, _⟩
    · omega
    · exact ⟨g, c, hv⟩
  have hcell : w3.cell? ⟨gi, 0, none⟩ = some (.slice xo 1 xc) := by
    have := v2.cells (g := gi) rfl 0 _ hx
    rw [Addr.add_lit] at this
    simpa using this
  have hcell2 := hq.cell hcell (by have := v3 gi rfl; have := hB.own; intro e; subst e; omega)
  have hstr := conv_reads hrx.1.1
  rw [str_one] at hstr
  have g2 := recvAll_grow (awB.met awA).out awX1.outed ⟨g1.1.me, g1.1.s, g1.1.r⟩
  have g3 := recvAll_grow awX1.out (awB.met awA).outed ⟨ko2.me, ko2.s, ko2.r⟩
  have HB4 := Lib.hid hb4
  have HE4 := Lib.hid hE4'
  obtain ⟨W4, hW4⟩ : ∃ W4, w3.setCell ⟨a2, 14, none⟩ (.slice none 0 0) = W4 := ⟨_, rfl⟩
  rw [hW4] at HB4 HE4 hcell2 hstr HI
  have hn2 : awX2.inn.length ≤ 1000 := by rw [aw9_9]; omega
  have HC2 := cross_any B W4 a1 s1 r1 a2 s2 r2 awX2 awY2 HE4.out g2.1 ⟨g3.1.me, g3.1.s, g3.1.r⟩ (by rw [aw9_6]; omega) (by show awY1.out.length ≤ _; rw [aw9_4]; omega) hn2 (by show (0 : Nat) ≤ _; omega)
  rw [aw9_6] at HC2
  have e4 : awY2.out.length = 1 := aw9_4
  rw [e4] at HC2
  obtain ⟨ca', oa', ia', cb', ob', ib', hA', _, _⟩ := HE4.out.ex
  have HPN := lpending_any B ca' W4 a1 s1 r1 oa' ia' awX2 hA'
  rw [aw9_5] at HPN
  clear hE3 hE3' hA hB hd hE4 hE4' hq v1 v1' v2 v3 v4 hx hrx hb3 hb4 hcell g1 g2 g3 hA' hn2 HC HE4
  go_wp2_with fail
  refine HI.mono ?_
  rintro e w4 ⟨rfl, rfl⟩
  go_wp2_with fail
  refine HPN.mono ?_
  rintro e w5 ⟨rfl, rfl⟩
  go_wp2_with fail
  refine HC2.mono ?_
  rintro e w6 ⟨rfl, hE6, hb6⟩
  have hE6' : Ends B w6 a1 s1 r1 a2 s2 r2 awX3 (awY2.outed.recvAll awX2.out) := hE6
  obtain ⟨ca', oa', ia', cb', ob', ib', hA', _, _⟩ := hE6'.ex
  have HPN2 := lpending_any B ca' w6 a1 s1 r1 oa' ia' awX3 hA'
  rw [aw9_7] at HPN2
  have HB6 : Hid (Below w.heap.size w w6) := HB4.out.trans (hb6.mono HWB.out)
  clear hE6 hE6' hA' hb6 HC2 HI HPN
  go_wp2_with fail
  refine HPN2.mono ?_
  rintro e w7 ⟨rfl, rfl⟩
  go_wp2
  go_ret
  exact ⟨rfl, HB6.out⟩

end Go.Proofs.Ythmdibagcbbgoaa
