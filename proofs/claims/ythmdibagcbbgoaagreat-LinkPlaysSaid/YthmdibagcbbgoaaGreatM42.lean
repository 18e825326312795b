/- portagelaw09.awake. portagelaw09.LinkNil: a nil end has nothing. An argument that is a slice of structs (int, []byte, a control, bool): it reads as a list of calls. No program in sight. LinkPlays: both ends, the program's and the reference's, in memory. Conditions: as they stand. -/
import Derived.Lib.SlBytesConst
import Derived.Test.YthmdibagcbbgoaaGreatM31
import Derived.Deep.Slices
import Derived.Deep.Fields
import Derived.ChangeSame
import Derived.Test.YthmdibagcbbgoaaGreatM41
import Derived.Test.YthmdibagcbbgoaaGreatM40
namespace Go.Proofs.YthmdibagcbbgoaaGreat
open Go.RowKit

def awA : St := ⟨1, 4, 3, 3⟩
def awB : St := ⟨7, 4, 3, 3⟩
def awX1 : Lk := (awA.met awB).push [97]
def awY1 : Lk := (awB.met awA).outed.recvAll awX1.out
def awX2 : Lk := awX1.outed.recvAll (awB.met awA).out
def awY2 : Lk := { awY1 with inn := [] }
def awX3 : Lk := awX2.outed.recvAll awY2.out
theorem aw9_1 : (awA.met awB).pushE [97] = 0 := by kernel_rfl
theorem aw9_2 : awX1.out.length = 1 := by kernel_rfl
theorem aw9_3 : awY1.inn = [[97]] := by kernel_rfl
theorem aw9_4 : awY1.out.length = 1 := by kernel_rfl
theorem aw9_5 : awX2.s.ps.length = 1 := by kernel_rfl
theorem aw9_6 : awX2.out.length = 0 := by kernel_rfl
theorem aw9_7 : awX3.s.ps.length = 0 := by kernel_rfl
theorem aw9_8 : awX1.inn.length = 0 := by kernel_rfl
theorem aw9_9 : awX2.inn.length = 0 := by kernel_rfl
theorem awA_ok : awA.Ok := ⟨by decide, by decide, by decide, by decide, by decide, by decide, by decide⟩
theorem awB_ok : awB.Ok := ⟨by decide, by decide, by decide, by decide, by decide, by decide, by decide⟩

section
variable {B : Nat} {w w' : World} {a1 s1 r1 a2 s2 r2 : Nat} {t1 t2 t1' t2' : Lk} {oa ia ob ib : Value} {ca cb : Nat → Nat}
theorem ctls_nil (F : Nat → Prop) (w : World) : CtlsR F w (.slice none 0 0) [] := ⟨by simp, none, 0, rfl, by simp, fun i c h => by simp at h⟩
theorem ends_first0 (hB : LkP B cb w a2 s2 r2 ob ib t2) (hd : ∀ k, ca k ≠ 0 → cb k = 0) (hto : LkTo B ca w a1 s1 r1 t1' w') : Ends B w' a1 s1 r1 a2 s2 r2 t1' t2 :=
  (ends_first (F := fun _ => False) hB hd (ctls_nil _ _) (ctls_nil _ _) (fun _ hk => hk.elim) hto).ends
theorem ends_second0 (hA : LkP B ca w a1 s1 r1 oa ia t1) (hd : ∀ k, ca k ≠ 0 → cb k = 0) (hto : LkTo B cb w a2 s2 r2 t2' w') : Ends B w' a1 s1 r1 a2 s2 r2 t1 t2' :=
  (ends_second (F := fun _ => False) hA hd (ctls_nil _ _) (ctls_nil _ _) (fun _ hk => hk.elim) hto).ends
theorem Ends.below (h : Ends B w a1 s1 r1 a2 s2 r2 t1 t2) (hb : Below w.heap.size w w') : Ends B w' a1 s1 r1 a2 s2 r2 t1 t2 := by
  obtain ⟨ca, oa, ia, cb, ob, ib, hA, hB, hd⟩ := h.ex
  exact ⟨⟨ca, oa, ia, cb, ob, ib, hA.fr (G := fun _ => False) (.of_below hb) (fun _ _ h => h), hB.fr (G := fun _ => False) (.of_below hb) (fun _ _ h => h), hd⟩⟩
theorem ends_inned (hA : LkP B ca w a1 s1 r1 oa ia t1) (hB : LkP B cb w a2 s2 r2 ob ib t2) (hd : ∀ k, ca k ≠ 0 → cb k = 0) : Ends B (w.setCell ⟨a2, 14, none⟩ (.slice none 0 0)) a1 s1 r1 a2 s2 r2 t1 { t2 with inn := [] } := by
  have hq := fr_cell w a2 14 (.slice none 0 0)
  refine ⟨⟨_, _, _, _, _, _, hA.fr hq (fun k hk e => ?_), hB.inned, fun k hk => ?_⟩⟩
  · have := hd k hk
    rw [e, hB.own] at this
    omega
  · have := hd k hk
    unfold freed
    rw [if_neg (by omega)]
    exact this
end
theorem awX1_ok : LkOk (awA.met awB) ∧ LkOk (awB.met awA) := ⟨(stage_ok (b := awB) awA_ok 2).1, (stage_ok (b := awA) awB_ok 2).1⟩

set_option maxRecDepth 100000 in
set_option maxHeartbeats 4000000 in
theorem awake9_any (w : World) :
    Calls Tryz.prog 6 #[] w fun e w' => e = .returned (.bool true) ∧ Below w.heap.size w w' := by
  have hcv : ∀ (W : World) (x : Int), (convert 44 44 (.slice (some ⟨W.heap.size, 0, none⟩) 1 1)).run Tryz.prog (W.alloc (.cells #[.int .u8 x] 5)) = .ok (.slice (some ⟨W.heap.size, 0, none⟩) 1 1) (W.alloc (.cells #[.int .u8 x] 5 (1, 2))) := fun W x => Lib.run_convert_bytes_const W 44 5 #[.int .u8 x] 1 1 Tryz.underlying44 Tryz.underlying5
  have HB0 : Calls Tryz.prog 26 #[.agg #[.int .i64 1, .int .i64 4, .int .i64 3, .int .i64 3], .agg #[.int .i64 7, .int .i64 4, .int .i64 3, .int .i64 3]] w fun e w' => ∃ B a1 s1 r1 a2 s2 r2, e = .returned (.tuple #[.pointer (some ⟨a1, 0, none⟩), .pointer (some ⟨a2, 0, none⟩), .bool true]) ∧ w.heap.size ≤ B ∧ Ends B w' a1 s1 r1 a2 s2 r2 (awA.met awB) (awB.met awA) ∧ Below w.heap.size w w' := both_ok awA awB awA_ok awB_ok w
  obtain ⟨ko1, ko2⟩ := awX1_ok
  go_enter Tryz.func6, Tryz.ntmps6
  go_wp2_with fail
  refine HB0.mono ?_
  rintro e w1 ⟨B, a1, s1, r1, a2, s2, r2, rfl, hBw, hE, hb1⟩
  obtain ⟨ca, oa, ia, cb, ob, ib, hA, hB, hd⟩ := hE.ex
  have hba := bl_alloc (bl_refl w1) (.cells #[.int .u8 97] 5 (1, 2))
  have hA1 := hA.fr (G := fun _ => False) (.of_below hba) (fun _ _ h => h)
  have hB1 := hB.fr (G := fun _ => False) (.of_below hba) (fun _ _ h => h)
  have HP := lpush_any B ca _ a1 s1 r1 oa ia _ hA1 ko1.s (by show (0 : Nat) ≤ _; omega) _ [97] (reads_mark' w1 97 5 (1, 2)) (wf_one (by decide))
  rw [aw9_1] at HP
  have HEN : Hid (∀ W, LkTo B ca (w1.alloc (.cells #[.int .u8 97] 5 (1, 2))) a1 s1 r1 awX1 W → Ends B W a1 s1 r1 a2 s2 r2 awX1 (awB.met awA) ∧ Below w.heap.size w W) := fun W h => ⟨ends_first0 hB1 hd h, (hb1.trans (hba.mono hb1.size)).trans ((h.bl hA1).mono hBw)⟩
  have HWB := Lib.hid hBw
  clear hE hA hB hd hA1 hB1 hb1 hba HB0 hBw
  go_wp2_with fail
  refine HP.mono ?_
  rintro e w2 ⟨rfl, h2⟩
  obtain ⟨hE2, hb2⟩ := HEN.out _ h2
  have g1 := push_grow (awA.met awB) [97] ko1
  have HC := cross_any B w2 a1 s1 r1 a2 s2 r2 awX1 (awB.met awA) hE2 g1.1 ko2 (by rw [aw9_2]; omega) (by show (0 : Nat) ≤ _; omega) (by rw [aw9_8]; omega) (by show (0 : Nat) ≤ _; omega)
  have HB2 := Lib.hid hb2
  clear h2 hE2 hb2 HEN HP
  go_wp2_with fail
  refine HC.mono ?_
  rintro e w3 ⟨rfl, hE3, hb3⟩
  have hE3' : Ends B w3 a1 s1 r1 a2 s2 r2 awX2 awY1 := hE3
  obtain ⟨ca, oa, ia, cb, ob, ib, hA, hB, hd⟩ := hE3'.ex
  have HI := lin_any B cb w3 a2 s2 r2 ob ib awY1 hB
  have hE4 := ends_inned hA hB hd
  have hE4' : Ends B (w3.setCell ⟨a2, 14, none⟩ (.slice none 0 0)) a1 s1 r1 a2 s2 r2 awX2 awY2 := hE4
  have hq := fr_cell w3 a2 14 (.slice none 0 0)
  obtain ⟨vs, v1, v2, v3, v4⟩ := hB.inn
  rw [aw9_3] at v1 v4
  have hb4 : Below w.heap.size w (w3.setCell ⟨a2, 14, none⟩ (.slice none 0 0)) := (HB2.out.trans (hb3.mono HWB.out)).trans (fr_bl hq (fun k hk => by subst hk; exact Nat.le_trans HWB.out (hB.cols.2 k (by rw [hB.own]; omega)).1) (Nat.le_trans HWB.out hB.cols.1))
  obtain ⟨x, hx⟩ := get_some (xs := vs) (k := 0) (by rw [v1]; decide)
  have hrx := (v4 0 x [97] hx rfl).fr hq (fun k hk e => by have := hB.own; rw [show k = a2 from e] at hk; omega)
  obtain ⟨xo, xc, rfl⟩ : ∃ xo xc, x = .slice xo 1 xc := by
    obtain ⟨⟨⟨_, ao, cap, h, _⟩, _⟩, _⟩ := hrx
    exact ⟨ao, cap, h⟩
  have v1' : vs.length = 1 := v1
  rw [v1'] at v2
  obtain ⟨gi, ic, rfl⟩ : ∃ g c, ib = .slice (some ⟨g, 0, none⟩) 1 c := by
    rcases v2.2 with ⟨_, h0⟩ | ⟨g, c, cur, hv, _⟩
    · omega
    · exact ⟨g, c, hv⟩
  have hcell : w3.cell? ⟨gi, 0, none⟩ = some (.slice xo 1 xc) := by
    have := v2.cells (g := gi) rfl 0 _ hx
    rw [Addr.add_lit] at this
    simpa using this
  have hcell2 := hq.cell hcell (by have := v3 gi rfl; have := hB.own; intro e; subst e; omega)
  have hstr := conv_reads hrx.1.1
  rw [str_one] at hstr
  have g2 := recvAll_grow (awB.met awA).out awX1.outed ⟨g1.1.me, g1.1.s, g1.1.r⟩
  have g3 := recvAll_grow awX1.out (awB.met awA).outed ⟨ko2.me, ko2.s, ko2.r⟩
  have HB4 := Lib.hid hb4
  have HE4 := Lib.hid hE4'
  obtain ⟨W4, hW4⟩ : ∃ W4, w3.setCell ⟨a2, 14, none⟩ (.slice none 0 0) = W4 := ⟨_, rfl⟩
  rw [hW4] at HB4 HE4 hcell2 hstr HI
  have hn2 : awX2.inn.length ≤ 1000 := by rw [aw9_9]; omega
  have HC2 := cross_any B W4 a1 s1 r1 a2 s2 r2 awX2 awY2 HE4.out g2.1 ⟨g3.1.me, g3.1.s, g3.1.r⟩ (by rw [aw9_6]; omega) (by show awY1.out.length ≤ _; rw [aw9_4]; omega) hn2 (by show (0 : Nat) ≤ _; omega)
  rw [aw9_6] at HC2
  have e4 : awY2.out.length = 1 := aw9_4
  rw [e4] at HC2
  obtain ⟨ca', oa', ia', cb', ob', ib', hA', _, _⟩ := HE4.out.ex
  have HPN := lpending_any B ca' W4 a1 s1 r1 oa' ia' awX2 hA'
  rw [aw9_5] at HPN
  clear hE3 hE3' hA hB hd hE4 hE4' hq v1 v1' v2 v3 v4 hx hrx hb3 hb4 hcell g1 g2 g3 hA' hn2 HC HE4
  go_wp2_with fail
  refine HI.mono ?_
  rintro e w4 ⟨rfl, rfl⟩
  go_wp2_with fail
  refine HPN.mono ?_
  rintro e w5 ⟨rfl, rfl⟩
  go_wp2_with fail
  refine HC2.mono ?_
  rintro e w6 ⟨rfl, hE6, hb6⟩
  have hE6' : Ends B w6 a1 s1 r1 a2 s2 r2 awX3 (awY2.outed.recvAll awX2.out) := hE6
  obtain ⟨ca', oa', ia', cb', ob', ib', hA', _, _⟩ := hE6'.ex
  have HPN2 := lpending_any B ca' w6 a1 s1 r1 oa' ia' awX3 hA'
  rw [aw9_7] at HPN2
  have HB6 : Hid (Below w.heap.size w w6) := HB4.out.trans (hb6.mono HWB.out)
  clear hE6 hE6' hA' hb6 HC2 HI HPN
  go_wp2_with fail
  refine HPN2.mono ?_
  rintro e w7 ⟨rfl, rfl⟩
  go_wp2
  go_ret
  exact ⟨rfl, HB6.out⟩

end Go.Proofs.YthmdibagcbbgoaaGreat

namespace Go.Proofs.YthmdibagcbbgoaaGreat
open Go.ChangeShapes Go.WideShapes Go.Deep Go.ChangeAt Go.RowKit Go.Joins

section
variable {H : Type} {enc : TypeId × Value → H} {P : Program} {w : World} {base : Nat} {spare : Nat → Bool} {held : Bool}
theorem open_slice_shape {t e : TypeId} {fuel : Nat} {cs : List Value} {x : DataW H × List MemPlace} (ht : P.underlying t = some (.slice e)) (h : DataW.trod enc P w base spare held fuel t cs = some x) : ∃ ao n c, cs = [.slice ao n c] := by
  rcases open_slice ht h with ⟨hcs, _⟩ | ⟨a, len, cap, m, n, D, Pl, hcs, _⟩
  · exact ⟨_, _, _, hcs⟩
  · exact ⟨_, _, _, hcs⟩
theorem split10 {cs : Array Value} (hs : cs.size = 10) {x0 : Value} (h0 : (cs.toList.drop 0).take 1 = [x0]) {x1 : Value} (h1 : (cs.toList.drop 1).take 1 = [x1]) {x2 x3 x4 x5 x6 x7 x8 : Value} (h2 : (cs.toList.drop 2).take 7 = [x2, x3, x4, x5, x6, x7, x8]) {x9 : Value} (h9 : (cs.toList.drop 9).take 1 = [x9]) :
    cs = #[x0, x1, x2, x3, x4, x5, x6, x7, x8, x9] := by
  obtain ⟨l⟩ := cs
  match l, hs with
  | [c0, c1, c2, c3, c4, c5, c6, c7, c8, c9], _ => simp at h0 h1 h2 h9; obtain ⟨rfl, rfl, rfl, rfl, rfl, rfl, rfl⟩ := h2; subst h0 h1 h9; rfl
theorem list7 {l : List Value} (h : l.length = 7) : ∃ a b c d e f g, l = [a, b, c, d, e, f, g] := by
  match l, h with
  | [a, b, c, d, e, f, g], _ => exact ⟨a, b, c, d, e, f, g, rfl⟩
theorem open_act9 {r : Reach} {b0 : Nat} {t ti tb tc tl te : TypeId} {f0 f1 f2 f3 g0 g1 g2 g3 g4 g5 g6 : Field} {v : Value} {d : DataW H} {p : List MemPlace} (hS : P.underlying t = some (.struct #[f0, f1, f2, f3])) (hC : P.cellsOf t = 10)
    (e0 : f0.type = ti) (e1 : f1.type = tl) (e2 : f2.type = tc) (e3 : f3.type = tb) (o0 : f0.offset = 0) (o1 : f1.offset = 1) (o2 : f2.offset = 2) (o3 : f3.offset = 9) (ci : P.cellsOf ti = 1) (cl : P.cellsOf tl = 1) (cc : P.cellsOf tc = 7) (cb : P.cellsOf tb = 1)
    (hI : P.underlying ti = some (.int .i64)) (hB : P.underlying tb = some .bool) (hL : P.underlying tl = some (.slice te)) (hT : P.underlying tc = some (.struct #[g0, g1, g2, g3, g4, g5, g6])) (hone : oneCellFields P #[g0, g1, g2, g3, g4, g5, g6] = true)
    (k0 : g0.type = ti) (k1 : g1.type = ti) (k2 : g2.type = ti) (k3 : g3.type = tb) (k4 : g4.type = ti) (k5 : g5.type = ti) (k6 : g6.type = tl)
    (hv : Value.okWide P w r b0 t v) (h : DataW.Trod enc P w base spare held t v d p) :
    ∃ (k k2 ns nr me peer : Int) (pp on : Bool) (ao1 ao2 : Option Addr) (n1 c1 n2 c2 : Nat), v = .agg #[.int .i64 k, .slice ao1 n1 c1, .int .i64 k2, .int .i64 ns, .int .i64 nr, .bool pp, .int .i64 me, .int .i64 peer, .slice ao2 n2 c2, .bool on] := by
  obtain ⟨cs, rfl, hsz⟩ := okWide_struct hS hv
  obtain ⟨fuel, hf⟩ := h
  obtain ⟨y0, y1, y2, y3, n, hx, hl, q0, q1, q2, q3⟩ := trod_struct4 hS hf
  rw [e0, o0, ci] at q0
  rw [e1, o1, cl] at q1
  rw [e2, o2, cc] at q2
  rw [e3, o3, cb] at q3
  obtain ⟨z0, s0, _⟩ := DataW.trod_int hI q0
  obtain ⟨ao1, n1, c1, s1⟩ := open_slice_shape hL q1
  obtain ⟨z3, s3, _⟩ := DataW.trod_bool hB q3
  have hcl : (Value.agg cs).cells.toList = cs.toList := rfl
  rw [hC] at hsz
  have hl7 : ((Value.agg cs).cells.toList.drop 2 |>.take 7).length = 7 := by
    rw [hcl, List.length_take, List.length_drop, Array.length_toList]
    omega
  obtain ⟨a0, a1, a2, a3, a4, a5, a6, hl7⟩ := list7 hl7
  rw [hl7] at q2
  obtain ⟨m0, m1, m2, m3, m4, m5, m6, nn, _, _, r0, r1, r2, r3, r4, r5, r6⟩ := trod_struct7 hT q2
  obtain ⟨u0, v0⟩ := hone_of hone 0 g0 rfl
  obtain ⟨u1, v1⟩ := hone_of hone 1 g1 rfl
  obtain ⟨u2, v2⟩ := hone_of hone 2 g2 rfl
  obtain ⟨u3, v3⟩ := hone_of hone 3 g3 rfl
  obtain ⟨u4, v4⟩ := hone_of hone 4 g4 rfl
  obtain ⟨u5, v5⟩ := hone_of hone 5 g5 rfl
  obtain ⟨u6, v6⟩ := hone_of hone 6 g6 rfl
  rw [u0, v0, k0] at r0
  rw [u1, v1, k1] at r1
  rw [u2, v2, k2] at r2
  rw [u3, v3, k3] at r3
  rw [u4, v4, k4] at r4
  rw [u5, v5, k5] at r5
  rw [u6, v6, k6] at r6
  obtain ⟨x0, t0, _⟩ := DataW.trod_int hI r0
  obtain ⟨x1, t1, _⟩ := DataW.trod_int hI r1
  obtain ⟨x2, t2, _⟩ := DataW.trod_int hI r2
  obtain ⟨x3, t3, _⟩ := DataW.trod_bool hB r3
  obtain ⟨x4, t4, _⟩ := DataW.trod_int hI r4
  obtain ⟨x5, t5, _⟩ := DataW.trod_int hI r5
  obtain ⟨ao2, n2, c2, t6⟩ := open_slice_shape hL r6
  simp at t0 t1 t2 t3 t4 t5 t6
  subst t0 t1 t2 t3 t4 t5 t6
  have := split10 hsz s0 s1 hl7 s3
  exact ⟨_, _, _, _, _, _, _, _, _, _, _, _, _, _, congrArg Value.agg this⟩
end

end Go.Proofs.YthmdibagcbbgoaaGreat

namespace Go.Proofs.YthmdibagcbbgoaaGreat
open Go.ChangeShapes Go.WideShapes Go.Deep Go.ChangeAt Go.RowKit Go.Joins

def ActL.cells (a : ActL) (x y : Value) : Array Value := #[.int .i64 a.k, x, .int .i64 a.c.kind, .int .i64 a.c.ns, .int .i64 a.c.nr, .bool a.c.p, .int .i64 a.c.me, .int .i64 a.c.peer, y, .bool a.on]
/-- The slice value reads as a list of calls; all that it has lies below B. -/
def Acts9 (B : Nat) (w : World) (v : Value) (l : List ActL) : Prop :=
  l.length ≤ maxLen ∧ ∃ ao cap, v = .slice ao l.length cap ∧ l.length ≤ cap ∧ ∀ (i : Nat) (c : ActL), l[i]? = some c → ∃ b o x y, ao = some ⟨b, o, none⟩ ∧ b < B ∧
    (∀ (j : Nat) (u : Value), (c.cells x y)[j]? = some u → w.cell? ⟨b, o + i * 10 + j, none⟩ = some u) ∧ ByB B w x c.p ∧ ByB B w y c.c.data ∧ c.p.length ≤ 140737488351232
theorem Acts9.below {B : Nat} {w w' : World} {v : Value} {l : List ActL} (h : Acts9 B w v l) (hb : Below B w w') : Acts9 B w' v l := by
  obtain ⟨hm, ao, cap, hv, hl, hc⟩ := h
  refine ⟨hm, ao, cap, hv, hl, fun i c hi => ?_⟩
  obtain ⟨b, o, x, y, ha, hlt, h0, hx, hy, hle⟩ := hc i c hi
  exact ⟨b, o, x, y, ha, hlt, fun j u hu => (hb.cell (p := ⟨b, _, none⟩) hlt).trans (h0 j u hu), hx.below hb, hy.below hb, hle⟩

section
variable {H : Type} {enc : TypeId × Value → H} {P : Program} {w : World} {base : Nat} {spare : Nat → Bool} {held : Bool}
theorem byb_of {x : Value} {xs : List Int} {xo : Option Addr} {xc : Nat} (hx : x = .slice xo xs.length xc) (hrd : Reads (Value.int .u8) w (.slice xo xs.length xc) xs) (hwf : ∀ n ∈ xs, (Lit.int .u8 n).wf = true) : ByB w.heap.size w x xs := by
  subst hx
  refine ⟨hrd, hwf, fun hne k hk => ?_⟩
  cases xo with
  | none => simp [Value.ownBlock] at hk
  | some ax =>
    simp [Value.ownBlock] at hk
    subst hk
    obtain ⟨_, ao', cap', hv', _, hcc⟩ := hrd
    cases hv'
    obtain ⟨y, hy⟩ := get_some (xs := xs) (k := 0) (List.length_pos_iff.2 hne)
    obtain ⟨bb, oo, hbb, hcell⟩ := hcc 0 y hy
    cases hbb
    exact cell_lt hcell
theorem list10 {cs : List Value} (hs : cs.length = 10) {x0 x1 x2 x3 x4 x5 x6 x7 x8 x9 : Value} (h0 : (cs.drop 0).take 1 = [x0]) (h1 : (cs.drop 1).take 1 = [x1]) (h2 : (cs.drop 2).take 7 = [x2, x3, x4, x5, x6, x7, x8]) (h9 : (cs.drop 9).take 1 = [x9]) :
    cs = [x0, x1, x2, x3, x4, x5, x6, x7, x8, x9] := by
  match cs, hs with
  | [c0, c1, c2, c3, c4, c5, c6, c7, c8, c9], _ => simp at h0 h1 h2 h9; obtain ⟨rfl, rfl, rfl, rfl, rfl, rfl, rfl⟩ := h2; subst h0 h1 h9; rfl
theorem open_acts9 {r : Reach} {b0 : Nat} {ts t ti tb tc tl te : TypeId} {f0 f1 f2 f3 g0 g1 g2 g3 g4 g5 g6 : Field} {v : Value} {d : DataW H} {p : List MemPlace} (hSl : P.underlying ts = some (.slice t)) (hS : P.underlying t = some (.struct #[f0, f1, f2, f3])) (hC : P.cellsOf t = 10)
    (e0 : f0.type = ti) (e1 : f1.type = tl) (e2 : f2.type = tc) (e3 : f3.type = tb) (o0 : f0.offset = 0) (o1 : f1.offset = 1) (o2 : f2.offset = 2) (o3 : f3.offset = 9) (ci : P.cellsOf ti = 1) (cl : P.cellsOf tl = 1) (cc : P.cellsOf tc = 7) (cb : P.cellsOf tb = 1)
    (hI : P.underlying ti = some (.int .i64)) (hB : P.underlying tb = some .bool) (hL : P.underlying tl = some (.slice te)) (hU : P.underlying te = some (.int .u8)) (hCu : P.cellsOf te = 1) (hbu : P.bytesOf te = 1) (hT : P.underlying tc = some (.struct #[g0, g1, g2, g3, g4, g5, g6])) (hone : oneCellFields P #[g0, g1, g2, g3, g4, g5, g6] = true)
    (k0 : g0.type = ti) (k1 : g1.type = ti) (k2 : g2.type = ti) (k3 : g3.type = tb) (k4 : g4.type = ti) (k5 : g5.type = ti) (k6 : g6.type = tl)
    (hv : Value.okWide P w r b0 ts v) (h : DataW.Trod enc P w 0 (fun _ => true) true ts v d p)
    (hsz : ∀ el sp, d = .slice el sp → ∀ x ∈ el, ∀ parts es ss, x = .agg parts → parts[1]? = some (.slice es ss) → (es.length + ss.length) * P.bytesOf te ≤ reachBytes) :
    ∃ l : List ActL, Acts9 w.heap.size w v l := by
  obtain ⟨a0, len0, cap0, rfl⟩ := okWide_slice hSl hv
  obtain ⟨fuel, hf⟩ := h
  rcases open_slice hSl hf with ⟨hcs, _⟩ | ⟨a, len, cap, m, n, D, Pl, hcs, _, hl, hm, hmm, hx, hi⟩
  · simp [Value.cells] at hcs
    obtain ⟨rfl, rfl, rfl⟩ := hcs
    exact ⟨[], by simp, none, 0, rfl, by simp, fun i c hc => by simp at hc⟩
  · simp [Value.cells] at hcs
    obtain ⟨rfl, rfl, rfl⟩ := hcs
    rw [if_pos rfl] at hmm
    subst hmm
    simp only [Prod.mk.injEq] at hx
    rw [hC] at hi
    obtain ⟨b, off, spot⟩ := a
    have key : ∀ i, i < len0 → ∃ c : ActL, b < w.heap.size ∧ spot = none ∧ ∃ x y, (∀ (j : Nat) (u : Value), (c.cells x y)[j]? = some u → w.cell? ⟨b, off + i * 10 + j, none⟩ = some u) ∧ ByB w.heap.size w x c.p ∧ ByB w.heap.size w y c.c.data ∧ c.p.length ≤ 140737488351232 := by
      intro i hil
      obtain ⟨cs, hc, hd⟩ := hi i (by omega)
      obtain ⟨_, hcl, hat⟩ := World.cells?_some hc
      obtain ⟨y0, y1, y2, y3, n', hxx, hl', q0, q1, q2, q3⟩ := trod_struct4 hS hd
      rw [e0, o0, ci] at q0
      rw [e1, o1, cl] at q1
      rw [e2, o2, cc] at q2
      rw [e3, o3, cb] at q3
      obtain ⟨z0, s0, _⟩ := DataW.trod_int hI q0
      obtain ⟨z3, s3, _⟩ := DataW.trod_bool hB q3
      obtain ⟨ao1, n1, c1, s1⟩ := open_slice_shape hL q1
      rw [s1] at q1
      simp only [Prod.mk.injEq] at hxx
      obtain ⟨xs, xo, xc, hx2, hrd, hwf, hle⟩ := open_reads_cell (B := 1) hL hU hCu q1 (fun es ss hes => by
        have := hsz _ _ hx.1 (D i) (List.mem_map.2 ⟨i, List.mem_range.2 hil, rfl⟩) _ es ss hxx.1 (by simp [hes])
        rwa [hbu] at this)
      have hl7 : ((cs.drop 2).take 7).length = 7 := by
        rw [List.length_take, List.length_drop]
        omega
      obtain ⟨u0, u1, u2, u3, u4, u5, u6, hl7⟩ := list7 hl7
      rw [hl7] at q2
      obtain ⟨m0, m1, m2, m3, m4, m5, m6, nn, _, _, r0, r1, r2, r3, r4, r5, r6⟩ := trod_struct7 hT q2
      obtain ⟨v0, w0⟩ := hone_of hone 0 g0 rfl
      obtain ⟨v1, w1⟩ := hone_of hone 1 g1 rfl
      obtain ⟨v2, w2⟩ := hone_of hone 2 g2 rfl
      obtain ⟨v3, w3⟩ := hone_of hone 3 g3 rfl
      obtain ⟨v4, w4⟩ := hone_of hone 4 g4 rfl
      obtain ⟨v5, w5⟩ := hone_of hone 5 g5 rfl
      obtain ⟨v6, w6⟩ := hone_of hone 6 g6 rfl
      rw [v0, w0, k0] at r0
      rw [v1, w1, k1] at r1
      rw [v2, w2, k2] at r2
      rw [v3, w3, k3] at r3
      rw [v4, w4, k4] at r4
      rw [v5, w5, k5] at r5
      rw [v6, w6, k6] at r6
      obtain ⟨x0, t0, _⟩ := DataW.trod_int hI r0
      obtain ⟨x1, t1, _⟩ := DataW.trod_int hI r1
      obtain ⟨x2, t2, _⟩ := DataW.trod_int hI r2
      obtain ⟨x3, t3, _⟩ := DataW.trod_bool hB r3
      obtain ⟨x4, t4, _⟩ := DataW.trod_int hI r4
      obtain ⟨x5, t5, _⟩ := DataW.trod_int hI r5
      have r6' : DataW.trod enc P w 0 (fun _ => true) true nn tl [u6] = some m6 := by simpa using r6
      obtain ⟨ys, yo, yc, hy2, hrd2, hwf2, _⟩ := open_reads_cell (B := 0) hL hU hCu r6' (fun _ _ _ => by simp)
      simp at t0 t1 t2 t3 t4 t5
      subst t0 t1 t2 t3 t4 t5
      have hcs := list10 hcl s0 s1 hl7 s3
      have hcell : ∀ (j : Nat) (u : Value), cs[j]? = some u → w.cell? ((⟨b, off, spot⟩ : Addr).add (i * 10 + j)) = some u := fun j u hu => by
        have hj : j < 10 := by have := (List.getElem?_eq_some_iff.1 hu).1; omega
        have := hat j hj
        rw [← Go.Deep.add_add, this]
        exact hu
      have hc0 := hcell 0 (.int .i64 z0) (by rw [hcs]; rfl)
      have hsp : spot = none := by
        obtain ⟨ds, hd0, _⟩ := hi 0 (by omega)
        obtain ⟨_, hdl, hdt⟩ := World.cells?_some hd0
        have := hdt 0 (by omega)
        obtain ⟨y, hy⟩ : ∃ y, ds[0]? = some y := ⟨_, List.getElem?_eq_getElem (by omega)⟩
        rw [hy] at this
        simpa [Addr.add] using World.cell?_spot this
      subst hsp
      rw [Addr.add_lit] at hc0
      refine ⟨⟨z0, xs, ⟨x0, x1, x2, x3, x4, x5, ys⟩, z3⟩, cell_lt hc0, rfl, .slice ao1 n1 c1, u6, fun j u hu => ?_, byb_of hx2 hrd hwf, byb_of hy2 hrd2 hwf2, by show xs.length ≤ _; simp only [reachBytes] at hle; omega⟩
      have hu' : cs[j]? = some u := by
        rw [hcs]
        have hu2 : (ActL.cells ⟨z0, xs, ⟨x0, x1, x2, x3, x4, x5, ys⟩, z3⟩ (.slice ao1 n1 c1) u6).toList[j]? = some u := by rw [Array.getElem?_toList]; exact hu
        exact hu2
      have := hcell j u hu'
      rw [Addr.add_lit, ← Nat.add_assoc] at this
      exact this
    obtain ⟨l, hll, hq⟩ := list_of (Q := fun i (c : ActL) => b < w.heap.size ∧ spot = none ∧ ∃ x y, (∀ (j : Nat) (u : Value), (c.cells x y)[j]? = some u → w.cell? ⟨b, off + i * 10 + j, none⟩ = some u) ∧ ByB w.heap.size w x c.p ∧ ByB w.heap.size w y c.c.data ∧ c.p.length ≤ 140737488351232) len0 key
    refine ⟨l, by omega, some ⟨b, off, spot⟩, m, by rw [hll], by omega, fun i c hc => ?_⟩
    obtain ⟨h1, h2, x, y, h3⟩ := hq i c hc
    exact ⟨b, off, x, y, by rw [h2], h1, h3⟩
end

end Go.Proofs.YthmdibagcbbgoaaGreat

namespace Go.Proofs.YthmdibagcbbgoaaGreat
open Go.RowKit

section
variable {C D G : Nat → Prop} {B : Nat} {col : Nat → Nat} {w w' w2 : World} {sl rl ra ov iv : Value} {a sg rg : Nat} {t T : Lk} {e : Ending}
/-- Blocks were turned that are no rows of it; others were made. -/
theorem RfAt.turn (h : RfAt C w sl rl ra ov iv t) (hf : Fr G w w') (hG : ∀ k, k < w.heap.size → ¬ C k → ¬ G k) (hD : ∀ k, D k → C k ∨ (w.heap.size ≤ k ∧ k < w'.heap.size)) : RfAt D w' sl rl ra ov iv t := by
  have hd : ∀ k, Live C w k → ¬ G k := fun k hk => hG k hk.1 hk.2
  have hm : ∀ k, Live C w k → Live D w' k := fun k hk => ⟨Nat.lt_of_lt_of_le hk.1 hf.size, fun g => by
    rcases hD k g with h1 | h1
    · exact hk.2 h1
    · have := hk.1; omega⟩
  obtain ⟨A, hA, hA2⟩ := h.asked
  exact ⟨fun k hk => by
    rcases hD k hk with h1 | h1
    · exact Nat.lt_of_lt_of_le (h.lim k h1) hf.size
    · exact h1.2, (h.snd.fr hf hd).mono hm, (h.kept.fr hf hd).mono hm, ⟨A, (hA.fr hf hd).mono hm, hA2⟩, (h.out.fr hf hd).mono hm, (h.inn.fr hf hd).mono hm⟩
/-- What the program's end turns. -/
def Turns (col : Nat → Nat) (k : Nat) : Prop := 1 ≤ col k ∧ col k ≤ 5
/-- Both ends, one beside the other; the reference's rows lie outside the blocks X. -/
structure Beside (B : Nat) (X : Nat → Prop) (w : World) (a sg rg : Nat) (sl rl ra ov iv : Value) (t : Lk) : Prop where
  ex : ∃ col po pi, LkP B col w a sg rg po pi t ∧ (∀ k, X k → k < w.heap.size ∧ col k = 0) ∧ RfAt (fun k => Turns col k ∨ X k) w sl rl ra ov iv t
theorem turns_lt (h : LkP B col w a sg rg ov iv t) : ∀ k, Turns col k → k < w.heap.size := fun k hk => (h.cols.2 k (by have := hk.1; omega)).2
theorem turns_ge (h : LkP B col w a sg rg ov iv t) : ∀ k, Turns col k → B ≤ k := fun k hk => (h.cols.2 k (by have := hk.1; omega)).1
/-- The boxes of play are made. -/
theorem RfAt.boxesA (h : RfAt C w sl rl ra ov iv t) (cs : Array Value) : ∃ W, ((w.alloc (.cells (t.ref sl rl ra ov iv) 38)).alloc (.cells cs 48)).alloc (.cells #[.int .i64 0, .int .i64 0, .bool false, .int .i64 0, .int .i64 0, .int .i64 0, .int .i64 0, .int .i64 0, .bool false, .bool false, .int .i64 0, .int .i64 0, .slice none 0 0, .int .i64 0, .int .i64 0, .int .i64 0, .slice none 0 0, .slice none 0 0, .slice none 0 0, .slice none 0 0] 38) = W ∧ Bx C w W w.heap.size (w.heap.size + 1 + 1) sl rl ra ov iv t ∧ W.heap[w.heap.size + 1]? = some (.cells cs 48 (0, 0)) := by
  obtain ⟨z20, hz20⟩ : ∃ z20 : Array Value, z20 = #[.int .i64 0, .int .i64 0, .bool false, .int .i64 0, .int .i64 0, .int .i64 0, .int .i64 0, .int .i64 0, .bool false, .bool false, .int .i64 0, .int .i64 0, .slice none 0 0, .int .i64 0, .int .i64 0, .int .i64 0, .slice none 0 0, .slice none 0 0, .slice none 0 0, .slice none 0 0] := ⟨_, rfl⟩
  have hzs : z20.size = 20 := by rw [hz20]; rfl
  rw [← hz20]
  have hb : Below w.heap.size w (((w.alloc (.cells (t.ref sl rl ra ov iv) 38)).alloc (.cells cs 48)).alloc (.cells z20 38)) := bl_alloc (bl_alloc (bl_alloc (bl_refl w) _) _) _
  have h1 := kept_alloc (heap_alloc2_old w (.cells (t.ref sl rl ra ov iv) 38) (.cells cs 48)) (.cells z20 38)
  have h3 := kept_alloc (heap_alloc2_new w (.cells (t.ref sl rl ra ov iv) 38) (.cells cs 48)) (.cells z20 38)
  have h2 := heap_alloc2_new (w.alloc (.cells (t.ref sl rl ra ov iv) 38)) (.cells cs 48) (.cells z20 38)
  rw [World.size_alloc] at h2
  have l1 := lt_of_get h1
  have l2 := lt_of_get h2
  exact ⟨_, rfl, ⟨h.keep hb fun k hk => by
    rcases hk with hk | rfl | rfl
    · exact .inl hk
    · exact .inr ⟨Nat.le_refl _, l1⟩
    · exact .inr ⟨by omega, l2⟩, h1, ⟨_, hzs, h2⟩, Nat.le_refl _, by omega, by omega, hb⟩, h3⟩
/-- What a call of both leaves. -/
structure PlayTo (B : Nat) (X : Nat → Prop) (w : World) (a sg rg : Nat) (T : Lk) (e : Ending) (w' : World) : Prop where
  ex : ∃ sl rl ra ov iv, e = .returned (.tuple #[.agg (T.ref sl rl ra ov iv), .bool true]) ∧ Beside B X w' a sg rg sl rl ra ov iv T
  bl : Below B w w' ∧ ∀ k, X k → w'.heap[k]? = w.heap[k]?
/-- Behind a call of both: the reference's end is stored as the result. -/
theorem play_end {X : Nat → Prop} {W0 W1 : World} {b z : Nat} {t0 : Lk} {po pi sl' rl' ra' ov' iv' : Value} (hp : LkP B col w a sg rg po pi t) (hX : ∀ k, X k → k < w.heap.size ∧ col k = 0) (hB : Bx (fun k => Turns col k ∨ X k) w W0 b z sl rl ra ov iv t0) (hb : Below W0.heap.size W0 W1) (hr : RfAt (fun k => (Turns col k ∨ X k) ∨ k = b ∨ k = z) W1 sl' rl' ra' ov' iv' T) (hT : LkTo B (paint col w W1 0) W1 a sg rg T w2) :
    Beside B X (w2.setRow z (T.ref sl' rl' ra' ov' iv')) a sg rg sl' rl' ra' ov' iv' T ∧ (w2.setRow z (T.ref sl' rl' ra' ov' iv')).heap[z]? = some (.cells (T.ref sl' rl' ra' ov' iv') 38 (0, 0)) ∧ (Below B w (w2.setRow z (T.ref sl' rl' ra' ov' iv')) ∧ ∀ k, X k → (w2.setRow z (T.ref sl' rl' ra' ov' iv')).heap[k]? = w.heap[k]?) ∧ ∃ cs, cs.size = 20 ∧ w2.heap[z]? = some (.cells cs 38 (0, 0)) := by
  obtain ⟨col2, o2, i2, h2, hc2⟩ := hT.ex
  obtain ⟨cs, hcs, hz0⟩ := hB.bz
  have hz1 := bl_get hb hz0
  have lz := lt_of_get hz1
  have gz := hB.hz
  have hw1 : w.heap.size ≤ W1.heap.size := Nat.le_trans hB.bl.size hb.size
  have pn : ∀ k, w.heap.size ≤ k → k < W1.heap.size → ¬ Turns (paint col w W1 0) k := fun k h1 h3 g => by
    have := g.1
    rw [paint_new h1 h3] at this
    omega
  have cz : col2 z = 0 := by
    apply Classical.byContradiction
    intro g
    have := hc2 z lz g
    rw [paint_new gz lz] at this
    exact g this
  have cX : ∀ k, X k → col2 k = 0 := fun k hk => by
    obtain ⟨h1, h3⟩ := hX k hk
    apply Classical.byContradiction
    intro g
    have := hc2 k (by omega) g
    rw [paint_old h1] at this
    omega
  have hz2 := hT.fr.get hz1 (pn z gz lz)
  have rf2 : RfAt (fun k => (Turns col2 k ∨ X k) ∨ k = b ∨ k = z) w2 sl' rl' ra' ov' iv' T := hr.turn hT.fr (fun k hk hn hg => by
    by_cases hkl : k < w.heap.size
    · rw [paint_old hkl] at hg
      exact hn (.inl (.inl hg))
    · exact pn k (by omega) hk hg) fun k hk => by
    rcases hk with (hk | hk) | hk | hk
    · by_cases hk1 : k < W1.heap.size
      · have he := hc2 k hk1 (by have := hk.1; omega)
        by_cases hkl : k < w.heap.size
        · rw [paint_old hkl] at he
          exact .inl (.inl (.inl ⟨by rw [← he]; exact hk.1, by rw [← he]; exact hk.2⟩))
        · rw [paint_new (by omega) hk1] at he
          have := hk.1
          omega
      · exact .inr ⟨by omega, turns_lt h2 k hk⟩
    · exact .inl (.inl (.inr hk))
    · exact .inl (.inr (.inl hk))
    · exact .inl (.inr (.inr hk))
  have hf := fr_row w2 z (T.ref sl' rl' ra' ov' iv')
  have hBw : B ≤ w.heap.size := hp.cols.1
  have b01 := bl_trans hB.bl hb
  have b1 : Below B w W1 := b01.mono hBw
  have b2 : Below B W1 w2 := fr_bl hT.fr (fun k hk => by
    by_cases hkl : k < w.heap.size
    · rw [paint_old hkl] at hk
      exact turns_ge hp k hk
    · omega) (Nat.le_trans hBw hw1)
  have s2 := hT.fr.size
  have sf := hf.size
  refine ⟨⟨⟨col2, o2, i2, h2.fr hf fun k hk e => hk (by rw [e]; exact cz), fun k hk => ⟨by have := (hX k hk).1; omega, cX k hk⟩, (rf2.fr hf fun k _ hn e => hn (.inr (.inr e))).mono fun k hk => .inl hk⟩⟩, setRow_heap w2 z _ _ _ _ hz2, ⟨(b1.trans b2).trans (fr_bl hf (fun k hk => by rw [hk]; omega) (Nat.le_trans hBw (Nat.le_trans hw1 b2.size))), fun k hk => ?_⟩, cs, hcs, hz2⟩
  obtain ⟨h1, h3⟩ := hX k hk
  refine (hf.block k (by omega) (by omega)).trans ((hT.fr.block k (by omega) fun g => ?_).trans (b01.block k h1))
  rw [paint_old h1] at g
  omega
/-- Others were made. -/
theorem Beside.below {X : Nat → Prop} (h : Beside B X w a sg rg sl rl ra ov iv t) (hb : Below w.heap.size w w') : Beside B X w' a sg rg sl rl ra ov iv t := by
  obtain ⟨col, po, pi, hp, hX, hr⟩ := h.ex
  have hs := hb.size
  refine ⟨⟨_, po, pi, hp.skip (n := 0) hb, fun k hk => ?_, (hr.below hb).mono fun k hk => hk.imp (fun g => ?_) id⟩⟩
  · obtain ⟨h1, h2⟩ := hX k hk
    exact ⟨by omega, by rw [paint_old h1]; exact h2⟩
  · by_cases hk1 : w.heap.size ≤ k ∧ k < w'.heap.size
    · have := g.1
      rw [paint_new hk1.1 hk1.2] at this
      omega
    · unfold Turns paint at g
      rw [if_neg hk1] at g
      exact g
/-- A box is made. -/
theorem Beside.box {X : Nat → Prop} (h : Beside B X w a sg rg sl rl ra ov iv t) (o : Obj) : Beside B (fun k => X k ∨ k = w.heap.size) (w.alloc o) a sg rg sl rl ra ov iv t := by
  obtain ⟨col, po, pi, hp, hX, hr⟩ := h.ex
  have hb := bl_alloc (bl_refl w) o
  have hs : (w.alloc o).heap.size = w.heap.size + 1 := World.size_alloc _ _
  refine ⟨⟨_, po, pi, hp.skip (n := 0) hb, fun k hk => ?_, hr.keep hb fun k hk => ?_⟩⟩
  · rcases hk with hk | rfl
    · obtain ⟨h1, h2⟩ := hX k hk
      exact ⟨by omega, by rw [paint_old h1]; exact h2⟩
    · exact ⟨by omega, paint_new (Nat.le_refl _) (by omega)⟩
  · rcases hk with hk | hk | rfl
    · by_cases hk1 : w.heap.size ≤ k ∧ k < (w.alloc o).heap.size
      · have := hk.1
        rw [paint_new hk1.1 hk1.2] at this
        omega
      · unfold Turns paint at hk
        rw [if_neg hk1] at hk
        exact .inl (.inl hk)
    · exact .inl (.inr hk)
    · exact .inr ⟨Nat.le_refl _, by omega⟩
/-- A box was filled. -/
theorem Beside.row {X : Nat → Prop} (h : Beside B X w a sg rg sl rl ra ov iv t) {k : Nat} (hk : X k) (cs : Array Value) : Beside B X (w.setRow k cs) a sg rg sl rl ra ov iv t := by
  obtain ⟨col, po, pi, hp, hX, hr⟩ := h.ex
  have hf := fr_row w k cs
  have hs := hf.size
  refine ⟨⟨_, po, pi, hp.fr hf fun j hj e => hj (by rw [e]; exact (hX k hk).2), fun j hj => ⟨by have := (hX j hj).1; omega, (hX j hj).2⟩, hr.fr hf fun j _ hn e => hn (.inr (by rw [e]; exact hk))⟩⟩
theorem Beside.less {X Y : Nat → Prop} (h : Beside B X w a sg rg sl rl ra ov iv t) (hY : ∀ k, Y k → X k) : Beside B Y w a sg rg sl rl ra ov iv t := by
  obtain ⟨col, po, pi, hp, hX, hr⟩ := h.ex
  exact ⟨⟨_, po, pi, hp, fun k hk => hX k (hY k hk), hr.mono fun k hk => hk.imp id (hY k)⟩⟩
end

end Go.Proofs.YthmdibagcbbgoaaGreat
