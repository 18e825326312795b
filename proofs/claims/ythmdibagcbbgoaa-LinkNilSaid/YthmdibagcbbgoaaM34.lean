/- portagelaw09.awake. An argument that is a struct of seven one-cell fields; a field that is a slice of integers. No program in sight. portagelaw09.LinkNil: a nil end has nothing. Conditions: as they stand. -/
import Derived.Lib.SlBytesConst
import Derived.Test.YthmdibagcbbgoaaM33
import Derived.WalkKit
import Derived.ProofKit
import Derived.OpenShut
import Derived.SizedLaws
import Derived.Lib.SmallJoins
import Derived.Test.YthmdibagcbbgoaaM00
import Derived.Deep.Slices
import Derived.Deep.Fields
import Derived.ChangeSame
namespace Go.Proofs.Ythmdibagcbbgoaa
open Go.RowKit

def awA : St := ⟨1, 4, 3, 3⟩
def awB : St := ⟨7, 4, 3, 3⟩
def awX1 : Lk := (awA.met awB).push [97]
def awY1 : Lk := (awB.met awA).outed.recvAll awX1.out
def awX2 : Lk := awX1.outed.recvAll (awB.met awA).out
def awY2 : Lk := { awY1 with inn := [] }
def awX3 : Lk := awX2.outed.recvAll awY2.out
theorem aw9_1 : (awA.met awB).pushE [97] = 0 := by kernel_rfl
theorem aw9_2 : awX1.out.length = 1 := by kernel_rfl
theorem aw9_3 : awY1.inn = [[97]] := by kernel_rfl
theorem aw9_4 : awY1.out.length = 1 := by kernel_rfl
theorem aw9_5 : awX2.s.ps.length = 1 := by kernel_rfl
theorem aw9_6 : awX2.out.length = 0 := by kernel_rfl
theorem aw9_7 : awX3.s.ps.length = 0 := by kernel_rfl
theorem aw9_8 : awX1.inn.length = 0 := by kernel_rfl
theorem aw9_9 : awX2.inn.length = 0 := by kernel_rfl
theorem awA_ok : awA.Ok := ⟨by decide, by decide, by decide, by decide, by decide, by decide, by decide⟩
theorem awB_ok : awB.Ok := ⟨by decide, by decide, by decide, by decide, by decide, by decide, by decide⟩

section
variable {B : Nat} {w w' : World} {a1 s1 r1 a2 s2 r2 : Nat} {t1 t2 t1' t2' : Lk} {oa ia ob ib : Value} {ca cb : Nat → Nat}
theorem ctls_nil (F : Nat → Prop) (w : World) : CtlsR F w (.slice none 0 0) [] := ⟨by simp, none, 0, rfl, by simp, fun i c h => by simp at h⟩
theorem ends_first0 (hB : LkP B cb w a2 s2 r2 ob ib t2) (hd : ∀ k, ca k ≠ 0 → cb k = 0) (hto : LkTo B ca w a1 s1 r1 t1' w') : Ends B w' a1 s1 r1 a2 s2 r2 t1' t2 :=
  (ends_first (F := fun _ => False) hB hd (ctls_nil _ _) (ctls_nil _ _) (fun _ hk => hk.elim) hto).ends
theorem ends_second0 (hA : LkP B ca w a1 s1 r1 oa ia t1) (hd : ∀ k, ca k ≠ 0 → cb k = 0) (hto : LkTo B cb w a2 s2 r2 t2' w') : Ends B w' a1 s1 r1 a2 s2 r2 t1 t2' :=
  (ends_second (F := fun _ => False) hA hd (ctls_nil _ _) (ctls_nil _ _) (fun _ hk => hk.elim) hto).ends
theorem Ends.below (h : Ends B w a1 s1 r1 a2 s2 r2 t1 t2) (hb : Below w.heap.size w w') : Ends B w' a1 s1 r1 a2 s2 r2 t1 t2 := by
  obtain ⟨ca, oa, ia, cb, ob, ib, hA, hB, hd⟩ := h.ex
  exact ⟨⟨ca, oa, ia, cb, ob, ib, hA.fr (G := fun _ => False) (.of_below hb) (fun _ _ h => h), hB.fr (G := fun _ => False) (.of_below hb) (fun _ _ h => h), hd⟩⟩
theorem ends_inned (hA : LkP B ca w a1 s1 r1 oa ia t1) (hB : LkP B cb w a2 s2 r2 ob ib t2) (hd : ∀ k, ca k ≠ 0 → cb k = 0) : Ends B (w.setCell ⟨a2, 14, none⟩ (.slice none 0 0)) a1 s1 r1 a2 s2 r2 t1 { t2 with inn := [] } := by
  have hq := fr_cell w a2 14 (.slice none 0 0)
  refine ⟨⟨_, _, _, _, _, _, hA.fr hq (fun k hk e => ?_), hB.inned, fun k hk => ?_⟩⟩
  · have := hd k hk
    rw [e, hB.own] at this
    omega
  · have := hd k hk
    unfold freed
    rw [if_neg (by omega)]
    exact this
end
theorem awX1_ok : LkOk (awA.met awB) ∧ LkOk (awB.met awA) := ⟨(stage_ok (b := awB) awA_ok 2).1, (stage_ok (b := awA) awB_ok 2).1⟩

set_option maxRecDepth 100000 in
set_option maxHeartbeats 4000000 in
theorem awake9_any (w : World) :
    Calls Try.prog 18 #[] w fun e w' => e = .returned (.bool true) ∧ Below w.heap.size w w' := by
  have hcv : ∀ (W : World) (x : Int), (convert 22 22 (.slice (some ⟨W.heap.size, 0, none⟩) 1 1)).run Try.prog (W.alloc (.cells #[.int .u8 x] 5)) = .ok (.slice (some ⟨W.heap.size, 0, none⟩) 1 1) (W.alloc (.cells #[.int .u8 x] 5 (1, 2))) := fun W x => Lib.run_convert_bytes_const W 22 5 #[.int .u8 x] 1 1 Try.underlying22 Try.underlying5
  have HB0 : Calls Try.prog 19 #[.agg #[.int .i64 1, .int .i64 4, .int .i64 3, .int .i64 3], .agg #[.int .i64 7, .int .i64 4, .int .i64 3, .int .i64 3]] w fun e w' => ∃ B a1 s1 r1 a2 s2 r2, e = .returned (.tuple #[.pointer (some ⟨a1, 0, none⟩), .pointer (some ⟨a2, 0, none⟩), .bool true]) ∧ w.heap.size ≤ B ∧ Ends B w' a1 s1 r1 a2 s2 r2 (awA.met awB) (awB.met awA) ∧ Below w.heap.size w w' := both_ok awA awB awA_ok awB_ok w
  obtain ⟨ko1, ko2⟩ := awX1_ok
  go_enter Try.func18, Try.ntmps18
  go_wp2_with fail
  refine HB0.mono ?_
  rintro e w1 ⟨B, a1, s1, r1, a2, s2, r2, rfl, hBw, hE, hb1⟩
  obtain ⟨ca, oa, ia, cb, ob, ib, hA, hB, hd⟩ := hE.ex
  have hba := bl_alloc (bl_refl w1) (.cells #[.int .u8 97] 5 (1, 2))
  have hA1 := hA.fr (G := fun _ => False) (.of_below hba) (fun _ _ h => h)
  have hB1 := hB.fr (G := fun _ => False) (.of_below hba) (fun _ _ h => h)
  have HP := lpush_any B ca _ a1 s1 r1 oa ia _ hA1 ko1.s (by show (0 : Nat) ≤ _; omega) _ [97] (reads_mark' w1 97 5 (1, 2)) (wf_one (by decide))
  rw [aw9_1] at HP
  have HEN : Hid (∀ W, LkTo B ca (w1.alloc (.cells #[.int .u8 97] 5 (1, 2))) a1 s1 r1 awX1 W → Ends B W a1 s1 r1 a2 s2 r2 awX1 (awB.met awA) ∧ Below w.heap.size w W) := fun W h => ⟨ends_first0 hB1 hd h, (hb1.trans (hba.mono hb1.size)).trans ((h.bl hA1).mono hBw)⟩
  have HWB := Lib.hid hBw
  clear hE hA hB hd hA1 hB1 hb1 hba HB0 hBw
  go_wp2_with fail
  refine HP.mono ?_
  rintro e w2 ⟨rfl, h2⟩
  obtain ⟨hE2, hb2⟩ := HEN.out _ h2
  have g1 := push_grow (awA.met awB) [97] ko1
  have HC := cross_any B w2 a1 s1 r1 a2 s2 r2 awX1 (awB.met awA) hE2 g1.1 ko2 (by rw [aw9_2]; omega) (by show (0 : Nat) ≤ _; omega) (by rw [aw9_8]; omega) (by show (0 : Nat) ≤ _; omega)
  have HB2 := Lib.hid hb2
  clear h2 hE2 hb2 HEN HP
  go_wp2_with fail
  refine HC.mono ?_
  rintro e w3 ⟨rfl, hE3, hb3⟩
  have hE3' : Ends B w3 a1 s1 r1 a2 s2 r2 awX2 awY1 := hE3
  obtain ⟨ca, oa, ia, cb, ob, ib, hA, hB, hd⟩ := hE3'.ex
  have HI := lin_any B cb w3 a2 s2 r2 ob ib awY1 hB
  have hE4 := ends_inned hA hB hd
  have hE4' : Ends B (w3.setCell ⟨a2, 14, none⟩ (.slice none 0 0)) a1 s1 r1 a2 s2 r2 awX2 awY2 := hE4
  have hq := fr_cell w3 a2 14 (.slice none 0 0)
  obtain ⟨vs, v1, v2, v3, v4⟩ := hB.inn
  rw [aw9_3] at v1 v4
  have hb4 : Below w.heap.size w (w3.setCell ⟨a2, 14, none⟩ (.slice none 0 0)) := (HB2.out.trans (hb3.mono HWB.out)).trans (fr_bl hq (fun k hk => by subst hk; exact Nat.le_trans HWB.out (hB.cols.2 k (by rw [hB.own]; omega)).1) (Nat.le_trans HWB.out hB.cols.1))
  obtain ⟨x, hx⟩ := get_some (xs := vs) (k := 0) (by rw [v1]; decide)
  have hrx := (v4 0 x [97] hx rfl).fr hq (fun k hk e => by have := hB.own; rw [show k = a2 from e] at hk; omega)
  obtain ⟨xo, xc, rfl⟩ : ∃ xo xc, x = .slice xo 1 xc := by
    obtain ⟨⟨⟨_, ao, cap, h, _⟩, _⟩, _⟩ := hrx
    exact ⟨ao, cap, h⟩
  have v1' : vs.length = 1 := v1
  rw [v1'] at v2
  obtain ⟨gi, ic, rfl⟩ : ∃ g c, ib = .slice (some ⟨g, 0, none⟩) 1 c := by
    rcases v2.2 with ⟨_, h0⟩ | ⟨g, c, cur, hv, _⟩
    · omega
    · exact ⟨g, c, hv⟩
  have hcell : w3.cell? ⟨gi, 0, none⟩ = some (.slice xo 1 xc) := by
    have := v2.cells (g := gi) rfl 0 _ hx
    rw [Addr.add_lit] at this
    simpa using this
  have hcell2 := hq.cell hcell (by have := v3 gi rfl; have := hB.own; intro e; subst e; omega)
  have hstr := conv_reads hrx.1.1
  rw [str_one] at hstr
  have g2 := recvAll_grow (awB.met awA).out awX1.outed ⟨g1.1.me, g1.1.s, g1.1.r⟩
  have g3 := recvAll_grow awX1.out (awB.met awA).outed ⟨ko2.me, ko2.s, ko2.r⟩
  have HB4 := Lib.hid hb4
  have HE4 := Lib.hid hE4'
  obtain ⟨W4, hW4⟩ : ∃ W4, w3.setCell ⟨a2, 14, none⟩ (.slice none 0 0) = W4 := ⟨_, rfl⟩
  rw [hW4] at HB4 HE4 hcell2 hstr HI
  have hn2 : awX2.inn.length ≤ 1000 := by rw [aw9_9]; omega
  have HC2 := cross_any B W4 a1 s1 r1 a2 s2 r2 awX2 awY2 HE4.out g2.1 ⟨g3.1.me, g3.1.s, g3.1.r⟩ (by rw [aw9_6]; omega) (by show awY1.out.length ≤ _; rw [aw9_4]; omega) hn2 (by show (0 : Nat) ≤ _; omega)
  rw [aw9_6] at HC2
  have e4 : awY2.out.length = 1 := aw9_4
  rw [e4] at HC2
  obtain ⟨ca', oa', ia', cb', ob', ib', hA', _, _⟩ := HE4.out.ex
  have HPN := lpending_any B ca' W4 a1 s1 r1 oa' ia' awX2 hA'
  rw [aw9_5] at HPN
  clear hE3 hE3' hA hB hd hE4 hE4' hq v1 v1' v2 v3 v4 hx hrx hb3 hb4 hcell g1 g2 g3 hA' hn2 HC HE4
  go_wp2_with fail
  refine HI.mono ?_
  rintro e w4 ⟨rfl, rfl⟩
  go_wp2_with fail
  refine HPN.mono ?_
  rintro e w5 ⟨rfl, rfl⟩
  go_wp2_with fail
  refine HC2.mono ?_
  rintro e w6 ⟨rfl, hE6, hb6⟩
  have hE6' : Ends B w6 a1 s1 r1 a2 s2 r2 awX3 (awY2.outed.recvAll awX2.out) := hE6
  obtain ⟨ca', oa', ia', cb', ob', ib', hA', _, _⟩ := hE6'.ex
  have HPN2 := lpending_any B ca' w6 a1 s1 r1 oa' ia' awX3 hA'
  rw [aw9_7] at HPN2
  have HB6 : Hid (Below w.heap.size w w6) := HB4.out.trans (hb6.mono HWB.out)
  clear hE6 hE6' hA' hb6 HC2 HI HPN
  go_wp2_with fail
  refine HPN2.mono ?_
  rintro e w7 ⟨rfl, rfl⟩
  go_wp2
  go_ret
  exact ⟨rfl, HB6.out⟩

end Go.Proofs.Ythmdibagcbbgoaa

namespace Go.Proofs.Ythmdibagcbbgoaa
open Go.ChangeShapes Go.WideShapes Go.ChangeAt Go.RowKit Go.Joins Go.Deep

section
variable {H : Type} {enc : TypeId × Value → H} {P : Program} {w : World} {base : Nat} {spare : Nat → Bool} {held : Bool}

theorem array7 {α : Type} {cs : Array α} (h : cs.size = 7) : ∃ c0 c1 c2 c3 c4 c5 c6, cs = #[c0, c1, c2, c3, c4, c5, c6] := by
  obtain ⟨l⟩ := cs
  match l, h with
  | [c0, c1, c2, c3, c4, c5, c6], _ => exact ⟨c0, c1, c2, c3, c4, c5, c6, rfl⟩

theorem trod_struct7 {t : TypeId} {f0 f1 f2 f3 f4 f5 f6 : Field} {fuel : Nat} {cs : List Value} {x : DataW H × List MemPlace} (ht : P.underlying t = some (.struct #[f0, f1, f2, f3, f4, f5, f6])) (h : DataW.trod enc P w base spare held fuel t cs = some x) :
    ∃ y0 y1 y2 y3 y4 y5 y6 n, x = (.agg [y0.1, y1.1, y2.1, y3.1, y4.1, y5.1, y6.1], y0.2 ++ (y1.2 ++ (y2.2 ++ (y3.2 ++ (y4.2 ++ (y5.2 ++ y6.2)))))) ∧ cs.length = P.cellsOf t ∧ DataW.trod enc P w base spare held n f0.type ((cs.drop f0.offset).take (P.cellsOf f0.type)) = some y0 ∧ DataW.trod enc P w base spare held n f1.type ((cs.drop f1.offset).take (P.cellsOf f1.type)) = some y1 ∧ DataW.trod enc P w base spare held n f2.type ((cs.drop f2.offset).take (P.cellsOf f2.type)) = some y2 ∧ DataW.trod enc P w base spare held n f3.type ((cs.drop f3.offset).take (P.cellsOf f3.type)) = some y3 ∧ DataW.trod enc P w base spare held n f4.type ((cs.drop f4.offset).take (P.cellsOf f4.type)) = some y4 ∧ DataW.trod enc P w base spare held n f5.type ((cs.drop f5.offset).take (P.cellsOf f5.type)) = some y5 ∧ DataW.trod enc P w base spare held n f6.type ((cs.drop f6.offset).take (P.cellsOf f6.type)) = some y6 := by
  obtain ⟨xs, n, _, rfl, hl, hlen, hf⟩ := DataW.trod_struct ht h
  match xs, hlen with
  | [y0, y1, y2, y3, y4, y5, y6], _ => exact ⟨y0, y1, y2, y3, y4, y5, y6, n, by simp, hl, by simpa using hf 0 f0 rfl, by simpa using hf 1 f1 rfl, by simpa using hf 2 f2 rfl, by simpa using hf 3 f3 rfl, by simpa using hf 4 f4 rfl, by simpa using hf 5 f5 rfl, by simpa using hf 6 f6 rfl⟩

theorem open_agg7 {r : Reach} {b0 : Nat} {t : TypeId} {f0 f1 f2 f3 f4 f5 f6 : Field} {v : Value} {d : DataW H} {p : List MemPlace} (hs : P.underlying t = some (.struct #[f0, f1, f2, f3, f4, f5, f6])) (hone : oneCellFields P #[f0, f1, f2, f3, f4, f5, f6] = true) (hC : P.cellsOf t = 7)
    (hv : Value.okWide P w r b0 t v) (h : DataW.Trod enc P w base spare held t v d p) :
    ∃ (v0 v1 v2 v3 v4 v5 v6 : Value) (y0 y1 y2 y3 y4 y5 y6 : DataW H × List MemPlace) (n : Nat), v = .agg #[v0, v1, v2, v3, v4, v5, v6] ∧ d = .agg [y0.1, y1.1, y2.1, y3.1, y4.1, y5.1, y6.1] ∧ p = y0.2 ++ (y1.2 ++ (y2.2 ++ (y3.2 ++ (y4.2 ++ (y5.2 ++ y6.2))))) ∧ DataW.trod enc P w base spare held n f0.type [v0] = some y0 ∧ DataW.trod enc P w base spare held n f1.type [v1] = some y1 ∧ DataW.trod enc P w base spare held n f2.type [v2] = some y2 ∧ DataW.trod enc P w base spare held n f3.type [v3] = some y3 ∧ DataW.trod enc P w base spare held n f4.type [v4] = some y4 ∧ DataW.trod enc P w base spare held n f5.type [v5] = some y5 ∧ DataW.trod enc P w base spare held n f6.type [v6] = some y6 := by
  obtain ⟨cs, rfl, hsz⟩ := okWide_struct hs hv
  obtain ⟨c0, c1, c2, c3, c4, c5, c6, rfl⟩ := array7 (hsz.trans hC)
  obtain ⟨fuel, hf⟩ := h
  obtain ⟨y0, y1, y2, y3, y4, y5, y6, n, hx, _, h0, h1, h2, h3, h4, h5, h6⟩ := trod_struct7 hs hf
  obtain ⟨o0, k0⟩ := hone_of hone 0 f0 rfl
  obtain ⟨o1, k1⟩ := hone_of hone 1 f1 rfl
  obtain ⟨o2, k2⟩ := hone_of hone 2 f2 rfl
  obtain ⟨o3, k3⟩ := hone_of hone 3 f3 rfl
  obtain ⟨o4, k4⟩ := hone_of hone 4 f4 rfl
  obtain ⟨o5, k5⟩ := hone_of hone 5 f5 rfl
  obtain ⟨o6, k6⟩ := hone_of hone 6 f6 rfl
  simp only [Prod.mk.injEq] at hx
  exact ⟨c0, c1, c2, c3, c4, c5, c6, y0, y1, y2, y3, y4, y5, y6, n, rfl, hx.1, hx.2, by simpa [Value.cells, o0, k0] using h0, by simpa [Value.cells, o1, k1] using h1, by simpa [Value.cells, o2, k2] using h2, by simpa [Value.cells, o3, k3] using h3, by simpa [Value.cells, o4, k4] using h4, by simpa [Value.cells, o5, k5] using h5, by simpa [Value.cells, o6, k6] using h6⟩

/-- A field that is a slice of integers reads as a list. -/
theorem open_reads_cell {t e : TypeId} {k : IntKind} {B fuel : Nat} {c : Value} {y : DataW H × List MemPlace}
    (hT : P.underlying t = some (.slice e)) (hE : P.underlying e = some (.int k)) (hC : P.cellsOf e = 1)
    (h : DataW.trod enc P w 0 (fun _ => true) true fuel t [c] = some y)
    (hsz : ∀ el sp, y.1 = .slice el sp → (el.length + sp.length) * B ≤ reachBytes) :
    ∃ (xs : List Int) (ao : Option Addr) (cap : Nat), c = .slice ao xs.length cap ∧ Reads (Value.int k) w (.slice ao xs.length cap) xs ∧ (∀ n ∈ xs, (Lit.int k n).wf = true) ∧ xs.length * B ≤ reachBytes := by
  rcases open_ints hT hE hC h with ⟨hcs, _⟩ | ⟨a, l, cc, zs, hcs, _, hl, hm, hz, hx, hcell, hwz⟩
  · simp at hcs
    subst hcs
    exact ⟨[], none, 0, rfl, Reads.nil _ _, by simp, by simp⟩
  · simp at hcs
    subst hcs
    have hs := hsz (lits k (zs.take l)) (lits k (zs.drop l)) (by rw [hx])
    simp only [lits, List.length_map, List.length_take, List.length_drop] at hs
    have hz' : zs.length = cc := by simpa using hz
    have hlen : (zs.take l).length = l := by rw [List.length_take]; omega
    refine ⟨zs.take l, some a, cc, by rw [hlen], ⟨by rw [hlen]; omega, some a, cc, rfl, ⟨by rw [hlen]; omega, fun h => by cases h⟩, fun i x hx => ?_⟩, fun n hn => hwz n (List.mem_of_mem_take hn), ?_⟩
    · have hi : i < l := by have := (List.getElem?_eq_some_iff.1 hx).1; omega
      have hx' : zs[i]? = some x := by rw [List.getElem?_take, if_pos hi] at hx; exact hx
      have hci := hcell i (by omega)
      obtain ⟨b, off, spot⟩ := a
      have hspot : spot = none := by simpa [Addr.add] using World.cell?_spot (hcell 0 (by omega))
      subst hspot
      refine ⟨b, off, rfl, ?_⟩
      rw [Addr.add_lit] at hci
      rw [hci, List.getD_eq_getElem?_getD, hx']
      rfl
    · rw [hlen]
      refine Nat.le_trans (Nat.mul_le_mul_right _ ?_) hs
      omega

theorem sized_field {ts : List TypeId} {ds : List (DataW H)} (h : (DataW.weightsEach P ts ds).all (· ≤ reachBytes) = true) {j i : Nat} {t tf e : TypeId} {fs : Array Field} {parts el sp : List (DataW H)} (ht : ts[j]? = some t) (hd : ds[j]? = some (.agg parts))
    (hu : P.underlying t = some (.struct fs)) (hf : (fs.toList.map (·.type))[i]? = some tf) (hp : parts[i]? = some (.slice el sp)) (hus : P.underlying tf = some (.slice e)) : (el.length + sp.length) * P.bytesOf e ≤ reachBytes := by
  have := List.all_eq_true.1 h _ (DataW.weights_mem_each ht hd ((el.length + sp.length) * P.bytesOf e) (by
    simp only [DataW.weights, hu]
    exact DataW.weights_mem_each hf hp _ (by simp [DataW.weights, hus])))
  simpa using this

end
end Go.Proofs.Ythmdibagcbbgoaa

namespace Go.Proofs.Ythmdibagcbbgoaa
open Go.ChangeShapes Go.WideShapes Go.Deep Go.ChangeAt Go.RowKit Go.Joins

section
variable {H : Type} {enc : TypeId × Value → H} {P : Program} {w : World} {base : Nat} {spare : Nat → Bool} {held : Bool}
theorem open_slice_shape {t e : TypeId} {fuel : Nat} {cs : List Value} {x : DataW H × List MemPlace} (ht : P.underlying t = some (.slice e)) (h : DataW.trod enc P w base spare held fuel t cs = some x) : ∃ ao n c, cs = [.slice ao n c] := by
  rcases open_slice ht h with ⟨hcs, _⟩ | ⟨a, len, cap, m, n, D, Pl, hcs, _⟩
  · exact ⟨_, _, _, hcs⟩
  · exact ⟨_, _, _, hcs⟩
theorem split10 {cs : Array Value} (hs : cs.size = 10) {x0 : Value} (h0 : (cs.toList.drop 0).take 1 = [x0]) {x1 : Value} (h1 : (cs.toList.drop 1).take 1 = [x1]) {x2 x3 x4 x5 x6 x7 x8 : Value} (h2 : (cs.toList.drop 2).take 7 = [x2, x3, x4, x5, x6, x7, x8]) {x9 : Value} (h9 : (cs.toList.drop 9).take 1 = [x9]) :
    cs = #[x0, x1, x2, x3, x4, x5, x6, x7, x8, x9] := by
  obtain ⟨l⟩ := cs
  match l, hs with
  | [c0, c1, c2, c3, c4, c5, c6, c7, c8, c9], _ => simp at h0 h1 h2 h9; obtain ⟨rfl, rfl, rfl, rfl, rfl, rfl, rfl⟩ := h2; subst h0 h1 h9; rfl
theorem list7 {l : List Value} (h : l.length = 7) : ∃ a b c d e f g, l = [a, b, c, d, e, f, g] := by
  match l, h with
  | [a, b, c, d, e, f, g], _ => exact ⟨a, b, c, d, e, f, g, rfl⟩
theorem open_act9 {r : Reach} {b0 : Nat} {t ti tb tc tl te : TypeId} {f0 f1 f2 f3 g0 g1 g2 g3 g4 g5 g6 : Field} {v : Value} {d : DataW H} {p : List MemPlace} (hS : P.underlying t = some (.struct #[f0, f1, f2, f3])) (hC : P.cellsOf t = 10)
    (e0 : f0.type = ti) (e1 : f1.type = tl) (e2 : f2.type = tc) (e3 : f3.type = tb) (o0 : f0.offset = 0) (o1 : f1.offset = 1) (o2 : f2.offset = 2) (o3 : f3.offset = 9) (ci : P.cellsOf ti = 1) (cl : P.cellsOf tl = 1) (cc : P.cellsOf tc = 7) (cb : P.cellsOf tb = 1)
    (hI : P.underlying ti = some (.int .i64)) (hB : P.underlying tb = some .bool) (hL : P.underlying tl = some (.slice te)) (hT : P.underlying tc = some (.struct #[g0, g1, g2, g3, g4, g5, g6])) (hone : oneCellFields P #[g0, g1, g2, g3, g4, g5, g6] = true)
    (k0 : g0.type = ti) (k1 : g1.type = ti) (k2 : g2.type = ti) (k3 : g3.type = tb) (k4 : g4.type = ti) (k5 : g5.type = ti) (k6 : g6.type = tl)
    (hv : Value.okWide P w r b0 t v) (h : DataW.Trod enc P w base spare held t v d p) :
    ∃ (k k2 ns nr me peer : Int) (pp on : Bool) (ao1 ao2 : Option Addr) (n1 c1 n2 c2 : Nat), v = .agg #[.int .i64 k, .slice ao1 n1 c1, .int .i64 k2, .int .i64 ns, .int .i64 nr, .bool pp, .int .i64 me, .int .i64 peer, .slice ao2 n2 c2, .bool on] := by
  obtain ⟨cs, rfl, hsz⟩ := okWide_struct hS hv
  obtain ⟨fuel, hf⟩ := h
  obtain ⟨y0, y1, y2, y3, n, hx, hl, q0, q1, q2, q3⟩ := trod_struct4 hS hf
  rw [e0, o0, ci] at q0
  rw [e1, o1, cl] at q1
  rw [e2, o2, cc] at q2
  rw [e3, o3, cb] at q3
  obtain ⟨z0, s0, _⟩ := DataW.trod_int hI q0
  obtain ⟨ao1, n1, c1, s1⟩ := open_slice_shape hL q1
  obtain ⟨z3, s3, _⟩ := DataW.trod_bool hB q3
  have hcl : (Value.agg cs).cells.toList = cs.toList := rfl
  rw [hC] at hsz
  have hl7 : ((Value.agg cs).cells.toList.drop 2 |>.take 7).length = 7 := by
    rw [hcl, List.length_take, List.length_drop, Array.length_toList]
    omega
  obtain ⟨a0, a1, a2, a3, a4, a5, a6, hl7⟩ := list7 hl7
  rw [hl7] at q2
  obtain ⟨m0, m1, m2, m3, m4, m5, m6, nn, _, _, r0, r1, r2, r3, r4, r5, r6⟩ := trod_struct7 hT q2
  obtain ⟨u0, v0⟩ := hone_of hone 0 g0 rfl
  obtain ⟨u1, v1⟩ := hone_of hone 1 g1 rfl
  obtain ⟨u2, v2⟩ := hone_of hone 2 g2 rfl
  obtain ⟨u3, v3⟩ := hone_of hone 3 g3 rfl
  obtain ⟨u4, v4⟩ := hone_of hone 4 g4 rfl
  obtain ⟨u5, v5⟩ := hone_of hone 5 g5 rfl
  obtain ⟨u6, v6⟩ := hone_of hone 6 g6 rfl
  rw [u0, v0, k0] at r0
  rw [u1, v1, k1] at r1
  rw [u2, v2, k2] at r2
  rw [u3, v3, k3] at r3
  rw [u4, v4, k4] at r4
  rw [u5, v5, k5] at r5
  rw [u6, v6, k6] at r6
  obtain ⟨x0, t0, _⟩ := DataW.trod_int hI r0
  obtain ⟨x1, t1, _⟩ := DataW.trod_int hI r1
  obtain ⟨x2, t2, _⟩ := DataW.trod_int hI r2
  obtain ⟨x3, t3, _⟩ := DataW.trod_bool hB r3
  obtain ⟨x4, t4, _⟩ := DataW.trod_int hI r4
  obtain ⟨x5, t5, _⟩ := DataW.trod_int hI r5
  obtain ⟨ao2, n2, c2, t6⟩ := open_slice_shape hL r6
  simp at t0 t1 t2 t3 t4 t5 t6
  subst t0 t1 t2 t3 t4 t5 t6
  have := split10 hsz s0 s1 hl7 s3
  exact ⟨_, _, _, _, _, _, _, _, _, _, _, _, _, _, congrArg Value.agg this⟩
end

set_option maxRecDepth 100000 in
set_option maxHeartbeats 4000000 in
theorem walkLinkNil (k k2 ns nr me peer : Int) (pp on : Bool) (ao1 ao2 : Option Addr) (n1 c1 n2 c2 : Nat) {w : World} :
    Calls Try.prog 3 #[.agg #[.int .i64 k, .slice ao1 n1 c1, .int .i64 k2, .int .i64 ns, .int .i64 nr, .bool pp, .int .i64 me, .int .i64 peer, .slice ao2 n2 c2, .bool on]] w fun e w' => e = .returned (.bool true) ∧ Below w.heap.size w w' := by
  have hbx := heap_alloc_new w (.cells #[.int .i64 k, .slice ao1 n1 c1, .int .i64 k2, .int .i64 ns, .int .i64 nr, .bool pp, .int .i64 me, .int .i64 peer, .slice ao2 n2 c2, .bool on] 26)
  have hb := bl_alloc (bl_refl w) (.cells #[.int .i64 k, .slice ao1 n1 c1, .int .i64 k2, .int .i64 ns, .int .i64 nr, .bool pp, .int .i64 me, .int .i64 peer, .slice ao2 n2 c2, .bool on] 26)
  obtain ⟨w1, hw1⟩ : ∃ w1, w.alloc (.cells #[.int .i64 k, .slice ao1 n1 c1, .int .i64 k2, .int .i64 ns, .int .i64 nr, .bool pp, .int .i64 me, .int .i64 peer, .slice ao2 n2 c2, .bool on] 26) = w1 := ⟨_, rfl⟩
  rw [hw1] at hbx hb
  have hc : ∀ W, Below w1.heap.size w1 W → W.cell? ⟨w.heap.size, 1, none⟩ = some (.slice ao1 n1 c1) ∧ W.cell? ⟨w.heap.size, 2, none⟩ = some (.int .i64 k2) ∧ W.cell? ⟨w.heap.size, 3, none⟩ = some (.int .i64 ns) ∧ W.cell? ⟨w.heap.size, 4, none⟩ = some (.int .i64 nr) ∧ W.cell? ⟨w.heap.size, 5, none⟩ = some (.bool pp) ∧
      W.cell? ⟨w.heap.size, 6, none⟩ = some (.int .i64 me) ∧ W.cell? ⟨w.heap.size, 7, none⟩ = some (.int .i64 peer) ∧ W.cell? ⟨w.heap.size, 8, none⟩ = some (.slice ao2 n2 c2) ∧ W.cell? ⟨w.heap.size, 9, none⟩ = some (.bool on) := by
    intro W hW
    have := bl_get hW hbx
    refine ⟨?_, ?_, ?_, ?_, ?_, ?_, ?_, ?_, ?_⟩ <;> (rw [cell_of_row _ _ _ _ _ _ this]; rfl)
  obtain ⟨d1, d2, d3, d4, d5, d6, d7, d8, d9⟩ := hc w1 (bl_refl w1)
  have HC := Lib.hid hc
  have HB := Lib.hid hb
  clear hbx hb hc
  go_enter Try.func3, Try.ntmps3
  go_wp2_with fail
  try simp only [hw1]
  go_wp2_with fail
  refine (lpush_nil _ _ _ _).mono ?_
  rintro e w2 ⟨rfl, hb2⟩
  clear d1 d2 d3 d4 d5 d6 d7 d8 d9
  go_wp2_with fail
  refine (ltick_nil _).mono ?_
  rintro e w3 ⟨rfl, hb3⟩
  have h3 := bl_trans hb2 hb3
  clear hb2 hb3
  obtain ⟨d1, d2, d3, d4, d5, d6, d7, d8, d9⟩ := HC.out w3 h3
  go_wp2_with fail
  refine (lreceive_nil _ _ _ _ _ _ _ _ _ _).mono ?_
  rintro e w4 ⟨rfl, hb4⟩
  have h4 := bl_trans h3 hb4
  clear h3 hb4 d1 d2 d3 d4 d5 d6 d7 d8 d9
  obtain ⟨d1, d2, d3, d4, d5, d6, d7, d8, d9⟩ := HC.out w4 h4
  go_wp2_with fail
  refine (lbusy_nil _ _).mono ?_
  rintro e w5 ⟨rfl, hb5⟩
  have h5 := bl_trans h4 hb5
  clear h4 hb5 d1 d2 d3 d4 d5 d6 d7 d8 d9
  go_wp2_with fail
  refine (lout_nil _).mono ?_
  rintro e w6 ⟨rfl, hb6⟩
  have h6 := bl_trans h5 hb6
  clear h5 hb6
  go_wp2_with fail
  refine (lin_nil _).mono ?_
  rintro e w7 ⟨rfl, hb7⟩
  have h7 := bl_trans h6 hb7
  clear h6 hb7
  go_wp2_with fail
  refine (lup_nil _).mono ?_
  rintro e w8 ⟨rfl, hb8⟩
  have h8 := bl_trans h7 hb8
  clear h7 hb8
  go_wp2_with fail
  refine (lme_nil _).mono ?_
  rintro e w9 ⟨rfl, hb9⟩
  have h9 := bl_trans h8 hb9
  clear h8 hb9
  go_wp2_with fail
  refine (lpeer_nil _).mono ?_
  rintro e w10 ⟨rfl, hb10⟩
  have h10 := bl_trans h9 hb10
  clear h9 hb10
  go_wp2_with fail
  refine (lresets_nil _).mono ?_
  rintro e w11 ⟨rfl, hb11⟩
  have h11 := bl_trans h10 hb11
  clear h10 hb11
  go_wp2_with fail
  refine (lpending_nil _).mono ?_
  rintro e w12 ⟨rfl, hb12⟩
  have h12 := bl_trans h11 hb12
  clear h11 hb12
  go_wp2_with fail
  refine (awake9_any _).mono ?_
  rintro e w13 ⟨rfl, hb13⟩
  have h13 := bl_trans HB.out (bl_trans h12 hb13)
  clear h12 hb13
  go_wp2
  go_ret
  exact ⟨rfl, h13⟩

end Go.Proofs.Ythmdibagcbbgoaa
