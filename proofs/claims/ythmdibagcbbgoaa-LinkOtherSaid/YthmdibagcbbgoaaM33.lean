/- Two ends between which nothing is lost are up behind two exchanges: the plain law. No program in sight. link.New at numbers that are not right; what a nil end answers. portagelaw09.both: two ends, up, nothing under way. Conditions: as they stand. -/
import Derived.Test.YthmdibagcbbgoaaM32
namespace Go.Proofs.Ythmdibagcbbgoaa
open Go.RowKit

/-- What an end is made of. -/
structure St where
  me : Nat
  size : Nat
  timer : Nat
  tries : Nat
structure St.Ok (a : St) : Prop where
  me : a.me ≤ 65535
  timer1 : 1 ≤ a.timer
  timer2 : a.timer ≤ 64
  tries1 : 1 ≤ a.tries
  tries2 : a.tries ≤ 64
  size1 : 1 ≤ a.size
  size2 : a.size ≤ 63
def St.met (a b : St) : Lk := ⟨a.me, b.me, true, a.size, a.timer, a.tries, 0, 0, 1, false, false, ⟨a.size, 0, [], 0⟩, ⟨a.size, 0, [], []⟩, [], []⟩
def St.half (a b : St) : Lk := ⟨a.me, b.me, false, a.size, a.timer, a.tries, a.timer, 0, 1, false, false, ⟨a.size, 0, [], 0⟩, ⟨a.size, 0, [], []⟩, [⟨6, 0, 0, false, a.me, b.me, []⟩], []⟩
def St.stage (a b : St) : Nat → Lk
  | 0 => Lk.new a.me a.size a.timer a.tries
  | 1 => a.half b
  | _ => a.met b
theorem chk5 {me : Nat} (h : me ≤ 65535) (p : Bool) : (⟨5, 0, 0, p, me, 0, []⟩ : Cn).chk = 0 := by
  show chkN 5 0 0 (me : Int) 0 0 = 0
  exact chk_0 (by omega) (by omega) (by omega) (by omega)
theorem chk6 {me peer : Nat} (h : me ≤ 65535) (h2 : peer ≤ 65535) (p : Bool) : (⟨6, 0, 0, p, me, peer, []⟩ : Cn).chk = 0 := by
  show chkN 6 0 0 (me : Int) (peer : Int) 0 = 0
  exact chk_0 (by omega) (by omega) (by omega) (by omega)
theorem new_out (a : St) : (Lk.new a.me a.size a.timer a.tries).out = [⟨5, 0, 0, false, a.me, 0, []⟩] := rfl
theorem stage_step {a b : St} (ha : a.Ok) (hb : b.Ok) : ∀ i : Nat, (a.stage b i).outed.recvAll (b.stage a i).out = a.stage b (i + 1)
  | 0 => by
    show (Lk.new a.me a.size a.timer a.tries).outed.recvAll (Lk.new b.me b.size b.timer b.tries).out = a.half b
    rw [new_out]
    show (Lk.new a.me a.size a.timer a.tries).outed.recv ⟨5, 0, 0, false, b.me, 0, []⟩ = a.half b
    unfold Lk.recv
    rw [if_neg (by rw [chk5 hb.me]; decide), if_pos rfl]
    have hs : (Lk.new a.me a.size a.timer a.tries).outed.sabmed (b.me : Int) = ⟨a.me, b.me, false, a.size, a.timer, a.tries, a.timer, 0, 1, false, false, ⟨a.size, 0, [], 0⟩, ⟨a.size, 0, [], []⟩, [], []⟩ := by
      unfold Lk.sabmed
      rw [if_neg (by show ¬ (b.me : Int) = -1; omega)]
      have hw : wrap64 ((0 : Int) + 1) = 1 := by decide +kernel
      show ({ ({ (Lk.new a.me a.size a.timer a.tries).outed with peer := (b.me : Int) } : Lk).reset with left := if false = true then 0 else a.timer } : Lk) = _
      unfold Lk.reset
      show Lk.mk a.me b.me false a.size a.timer a.tries (if false = true then 0 else a.timer) 0 (wrap64 ((0 : Int) + 1)) false false ⟨a.size, 0, [], 0⟩ ⟨a.size, 0, [], []⟩ [] [] = _
      rw [hw]
      rfl
    show (Lk.new a.me a.size a.timer a.tries).outed.sabme (b.me : Int) false = a.half b
    unfold Lk.sabme
    rw [hs]
    rfl
  | 1 => by
    show (a.half b).outed.recv ⟨6, 0, 0, false, b.me, a.me, []⟩ = a.met b
    unfold Lk.recv
    rw [if_neg (by rw [chk6 hb.me ha.me]; decide), if_neg (by show ¬ (6 : Int) = 5; decide), if_pos rfl]
    show (a.half b).outed.ua (a.me : Int) (b.me : Int) = a.met b
    unfold Lk.ua
    rw [if_pos ⟨rfl, rfl⟩, if_pos (show (b.me : Int) = (a.half b).outed.peer from rfl)]
    rfl
  | _ + 2 => rfl
theorem stage_ok {a b : St} (ha : a.Ok) : ∀ i : Nat, LkOk (a.stage b i) ∧ (a.stage b i).out.length ≤ 1 ∧ (a.stage b i).inn.length = 0 := by
  have hs : (⟨a.size, 0, [], 0⟩ : Snd).Ok := ⟨ha.size1, ha.size2, by simp, by simp, by simp, by simp, by simp⟩
  have hr : (⟨a.size, 0, [], []⟩ : Rcv).Ok := new_ok ha.size1 ha.size2
  have hme : a.me < 65536 := by have := ha.me; omega
  intro i
  match i with
  | 0 => exact ⟨⟨hme, hs, hr⟩, by show [_].length ≤ 1; simp, rfl⟩
  | 1 => exact ⟨⟨hme, hs, hr⟩, by show [_].length ≤ 1; simp, rfl⟩
  | _ + 2 => exact ⟨⟨hme, hs, hr⟩, by show (0 : Nat) ≤ 1; omega, rfl⟩

end Go.Proofs.Ythmdibagcbbgoaa

namespace Go.Proofs.Ythmdibagcbbgoaa
open Go.RowKit

def setOk (me size timer tries : Int) : Prop := 0 ≤ me ∧ me ≤ 65535 ∧ 1 ≤ timer ∧ timer ≤ 64 ∧ 1 ≤ tries ∧ tries ≤ 64 ∧ 1 ≤ size ∧ size ≤ 63
set_option maxRecDepth 100000 in
set_option maxHeartbeats 2000000 in
theorem lnew_bad (me size timer tries : Int) (h : ¬ setOk me size timer tries) (w : World) :
    Calls Try.prog 40 #[.int .i64 me, .int .i64 size, .int .i64 timer, .int .i64 tries] w fun e w' => e = .returned (.tuple #[.pointer none, .int .i64 1]) ∧ w = w' := by
  by_cases g0 : me < 0
  · clear h
    go_enter Try.func40, Try.ntmps40
    go_wp2
    go_ret2
    exact ⟨rfl, rfl⟩
  by_cases g1 : 65535 < me
  · clear h
    go_enter Try.func40, Try.ntmps40
    go_wp2
    go_ret2
    exact ⟨rfl, rfl⟩
  by_cases g2 : timer < 1
  · clear h
    go_enter Try.func40, Try.ntmps40
    go_wp2
    go_ret2
    exact ⟨rfl, rfl⟩
  by_cases g3 : 64 < timer
  · clear h
    go_enter Try.func40, Try.ntmps40
    go_wp2
    go_ret2
    exact ⟨rfl, rfl⟩
  by_cases g4 : tries < 1
  · clear h
    go_enter Try.func40, Try.ntmps40
    go_wp2
    go_ret2
    exact ⟨rfl, rfl⟩
  by_cases g5 : 64 < tries
  · clear h
    go_enter Try.func40, Try.ntmps40
    go_wp2
    go_ret2
    exact ⟨rfl, rfl⟩
  have HS := snew_bad size (by unfold setOk at h; omega) w
  clear h
  go_enter Try.func40, Try.ntmps40
  go_wp2_with fail
  refine HS.mono ?_
  rintro e w1 ⟨rfl, rfl⟩
  go_wp2
  go_ret2
  exact ⟨rfl, rfl⟩

set_option maxRecDepth 100000 in
theorem lpush_nil (ao : Option Addr) (n cap : Nat) (w : World) : Calls Try.prog 7 #[.pointer none, .slice ao n cap] w fun e w' => e = .returned (.int .i64 7) ∧ Below w.heap.size w w' := by
  go_enter Try.func7, Try.ntmps7
  go_wp2
  go_ret
  exact ⟨rfl, by first | exact bl_refl _ | exact bl_alloc (bl_refl _) _⟩

set_option maxRecDepth 100000 in
theorem ltick_nil (w : World) : Calls Try.prog 8 #[.pointer none] w fun e w' => e = .returned (.int .i64 7) ∧ Below w.heap.size w w' := by
  go_enter Try.func8, Try.ntmps8
  go_wp2
  go_ret
  exact ⟨rfl, by first | exact bl_refl _ | exact bl_alloc (bl_refl _) _⟩

set_option maxRecDepth 100000 in
theorem lreceive_nil (k ns nr : Int) (p : Bool) (me peer : Int) (ao : Option Addr) (n cap : Nat) (w : World) : Calls Try.prog 9 #[.pointer none, .agg #[.int .i64 k, .int .i64 ns, .int .i64 nr, .bool p, .int .i64 me, .int .i64 peer, .slice ao n cap]] w fun e w' => e = .returned (.int .i64 7) ∧ Below w.heap.size w w' := by
  go_enter Try.func9, Try.ntmps9
  go_wp2
  go_ret
  exact ⟨rfl, by first | exact bl_refl _ | exact bl_alloc (bl_refl _) _⟩

set_option maxRecDepth 100000 in
theorem lbusy_nil (b : Bool) (w : World) : Calls Try.prog 10 #[.pointer none, .bool b] w fun e w' => e = .returned (.int .i64 7) ∧ Below w.heap.size w w' := by
  go_enter Try.func10, Try.ntmps10
  go_wp2
  go_ret
  exact ⟨rfl, by first | exact bl_refl _ | exact bl_alloc (bl_refl _) _⟩

set_option maxRecDepth 100000 in
theorem lout_nil (w : World) : Calls Try.prog 11 #[.pointer none] w fun e w' => e = .returned (.slice none 0 0) ∧ Below w.heap.size w w' := by
  go_enter Try.func11, Try.ntmps11
  go_wp2
  go_ret
  exact ⟨rfl, by first | exact bl_refl _ | exact bl_alloc (bl_refl _) _⟩

set_option maxRecDepth 100000 in
theorem lin_nil (w : World) : Calls Try.prog 12 #[.pointer none] w fun e w' => e = .returned (.slice none 0 0) ∧ Below w.heap.size w w' := by
  go_enter Try.func12, Try.ntmps12
  go_wp2
  go_ret
  exact ⟨rfl, by first | exact bl_refl _ | exact bl_alloc (bl_refl _) _⟩

set_option maxRecDepth 100000 in
theorem lup_nil (w : World) : Calls Try.prog 13 #[.pointer none] w fun e w' => e = .returned (.bool false) ∧ Below w.heap.size w w' := by
  go_enter Try.func13, Try.ntmps13
  go_wp2
  go_ret
  exact ⟨rfl, by first | exact bl_refl _ | exact bl_alloc (bl_refl _) _⟩

set_option maxRecDepth 100000 in
theorem lme_nil (w : World) : Calls Try.prog 14 #[.pointer none] w fun e w' => e = .returned (.int .i64 0) ∧ Below w.heap.size w w' := by
  go_enter Try.func14, Try.ntmps14
  go_wp2
  go_ret
  exact ⟨rfl, by first | exact bl_refl _ | exact bl_alloc (bl_refl _) _⟩

set_option maxRecDepth 100000 in
theorem lpeer_nil (w : World) : Calls Try.prog 15 #[.pointer none] w fun e w' => e = .returned (.int .i64 (-1)) ∧ Below w.heap.size w w' := by
  go_enter Try.func15, Try.ntmps15
  go_wp2
  go_ret
  exact ⟨rfl, by first | exact bl_refl _ | exact bl_alloc (bl_refl _) _⟩

set_option maxRecDepth 100000 in
theorem lresets_nil (w : World) : Calls Try.prog 16 #[.pointer none] w fun e w' => e = .returned (.int .i64 0) ∧ Below w.heap.size w w' := by
  go_enter Try.func16, Try.ntmps16
  go_wp2
  go_ret
  exact ⟨rfl, by first | exact bl_refl _ | exact bl_alloc (bl_refl _) _⟩

set_option maxRecDepth 100000 in
theorem lpending_nil (w : World) : Calls Try.prog 17 #[.pointer none] w fun e w' => e = .returned (.int .i64 0) ∧ Below w.heap.size w w' := by
  go_enter Try.func17, Try.ntmps17
  go_wp2
  go_ret
  exact ⟨rfl, by first | exact bl_refl _ | exact bl_alloc (bl_refl _) _⟩

end Go.Proofs.Ythmdibagcbbgoaa

namespace Go.Proofs.Ythmdibagcbbgoaa
open Go.RowKit

theorem set_box (w : World) (a b c d : Int) : ∃ w1, w.alloc (.cells #[.int .i64 a, .int .i64 b, .int .i64 c, .int .i64 d] 41) = w1 ∧ Below w.heap.size w w1 ∧ w1.heap.size = w.heap.size + 1 ∧ w1.cell? ⟨w.heap.size, 0, none⟩ = some (.int .i64 a) ∧ w1.cell? ⟨w.heap.size, 1, none⟩ = some (.int .i64 b) ∧ w1.cell? ⟨w.heap.size, 2, none⟩ = some (.int .i64 c) ∧ w1.cell? ⟨w.heap.size, 3, none⟩ = some (.int .i64 d) := by
  have hbx := heap_alloc_new w (.cells #[.int .i64 a, .int .i64 b, .int .i64 c, .int .i64 d] 41)
  refine ⟨_, rfl, bl_alloc (bl_refl w) _, by simp, ?_, ?_, ?_, ?_⟩ <;> (rw [cell_of_row _ _ _ _ _ _ hbx]; rfl)
def St.val (a : St) : Value := .agg #[.int .i64 a.me, .int .i64 a.size, .int .i64 a.timer, .int .i64 a.tries]

set_option maxRecDepth 100000 in
set_option maxHeartbeats 4000000 in
theorem both_ok (a b : St) (ha : a.Ok) (hb : b.Ok) (w : World) :
    Calls Try.prog 19 #[.agg #[.int .i64 a.me, .int .i64 a.size, .int .i64 a.timer, .int .i64 a.tries], .agg #[.int .i64 b.me, .int .i64 b.size, .int .i64 b.timer, .int .i64 b.tries]] w fun e w' => ∃ B a1 s1 r1 a2 s2 r2, e = .returned (.tuple #[.pointer (some ⟨a1, 0, none⟩), .pointer (some ⟨a2, 0, none⟩), .bool true]) ∧ w.heap.size ≤ B ∧ Ends B w' a1 s1 r1 a2 s2 r2 (a.met b) (b.met a) ∧ Below w.heap.size w w' := by
  obtain ⟨w1, hw1, hb1, hz1, d0, d1, d2, d3⟩ := set_box w a.me a.size a.timer a.tries
  obtain ⟨w2, hw2, hb2, hz2, k0, k1, k2, k3⟩ := set_box w1 b.me b.size b.timer b.tries
  replace d0 := below_cell hb2 d0
  replace d1 := below_cell hb2 d1
  replace d2 := below_cell hb2 d2
  replace d3 := below_cell hb2 d3
  obtain ⟨B, hB⟩ : ∃ B, B = w2.heap.size := ⟨_, rfl⟩
  have HN1 := lnew_ok a.me a.size a.timer a.tries ha.me ha.timer1 ha.timer2 ha.tries1 ha.tries2 ha.size1 ha.size2 B w2 (by omega)
  have HB2 : Hid (Below w.heap.size w w2) := hb1.trans (hb2.mono hb1.size)
  have HZ : Hid (B = w2.heap.size ∧ w2.heap.size = w1.heap.size + 1 ∧ w1.heap.size = w.heap.size + 1) := ⟨hB, hz2, hz1⟩
  have HA := Lib.hid ha
  have HBO := Lib.hid hb
  clear hb1 hb2 hz1 hz2 hB ha hb
  go_enter Try.func19, Try.ntmps19
  go_wp2_with fail
  try simp only [hw1, hw2]
  go_wp2_with fail
  refine HN1.mono ?_
  rintro e w3 ⟨a1, s1, r1, c1, o1, i1, rfl, hp1, hc1, hb3⟩
  have hB3 : B ≤ w3.heap.size := by have := HZ.out.1; have := hb3.size; omega
  have HN2 := lnew_ok b.me b.size b.timer b.tries HBO.out.me HBO.out.timer1 HBO.out.timer2 HBO.out.tries1 HBO.out.tries2 HBO.out.size1 HBO.out.size2 B w3 hB3
  replace k0 := below_cell hb3 k0
  replace k1 := below_cell hb3 k1
  replace k2 := below_cell hb3 k2
  replace k3 := below_cell hb3 k3
  replace d0 := below_cell hb3 d0
  have HP1 := Lib.hid hp1
  have HB3 := Lib.hid hb3
  have hz3 := hp1.c2
  clear hp1 hc1 hb3 HN1 d1 d2 d3 hz3 hB3
  go_wp2_with fail
  refine HN2.mono ?_
  rintro e w4 ⟨a2, s2, r2, c2, o2, i2, rfl, hp2, hc2, hb4⟩
  have HE : Hid (Ends B w4 a1 s1 r1 a2 s2 r2 (a.stage b 0) (b.stage a 0)) := ⟨⟨c1, o1, i1, c2, o2, i2, HP1.out.fr (G := fun _ => False) (.of_below hb4) (fun _ _ h => h), hp2, fun k hk => hc2 k (HP1.out.cols.2 k hk).2⟩⟩
  have HB4 : Hid (Below B w2 w4) := by
    have h1 := HZ.out.1
    rw [h1]
    exact HB3.out.trans (hb4.mono HB3.out.size)
  replace k0 := below_cell hb4 k0
  replace d0 := below_cell hb4 d0
  have hk0 := cell_lt k0
  clear hp2 hc2 hb4 HN2 k1 k2 k3 HP1 HB3
  go_wp2_with fail
  go_loopw [11] (fun iv wr => ∃ i : Nat, iv = .int .i64 i ∧ i ≤ 4 ∧ Hid (Ends B wr a1 s1 r1 a2 s2 r2 (a.stage b i) (b.stage a i)) ∧ Hid (Below B w4 wr)) (fun iv _ => 10 - (intOf iv).toNat)
  case atStart => exact ⟨0, rfl, by omega, HE, Below.refl _ _⟩
  case round =>
    clear HE
    obtain ⟨i, rfl, hi, HE, HBL⟩ := hrel
    by_cases hlt : i < 4
    · obtain ⟨x1, x2, x3⟩ := stage_ok (b := b) HA.out i
      obtain ⟨y1, y2, y3⟩ := stage_ok (b := a) HBO.out i
      have HC := cross_any B wr a1 s1 r1 a2 s2 r2 _ _ HE.out x1 y1 (by omega) (by omega) (by omega) (by omega)
      rw [stage_step HA.out HBO.out i, stage_step HBO.out HA.out i] at HC
      have j1 : (i : Int) < 4 := by omega
      clear x1 x2 x3 y1 y2 y3
      go_wp2_with fail
      refine HC.mono ?_
      rintro e w5 ⟨rfl, h5, hb5⟩
      have H5 := Lib.hid h5
      have HB5 : Hid (Below B w4 w5) := HBL.out.trans hb5
      clear h5 hb5 HC HE
      go_wp2
      go_roundw
      case rel => exact ⟨i + 1, by go_num, by omega, H5, HB5⟩
      case measure => simp [intOf]; omega
    · obtain rfl : i = 4 := by omega
      have HE4 : Hid (Ends B wr a1 s1 r1 a2 s2 r2 (a.met b) (b.met a)) := HE
      clear HE
      obtain ⟨ca, oa, ia, cb, ob, ib, hA, hB', hd⟩ := HE4.out.ex
      have hz := HZ.out
      have m0 : wr.cell? ⟨w.heap.size, 0, none⟩ = some (.int .i64 a.me) := (HBL.out.cell (p := ⟨w.heap.size, 0, none⟩) (by show w.heap.size < B; omega)).trans d0
      have m1 : wr.cell? ⟨w1.heap.size, 0, none⟩ = some (.int .i64 b.me) := (HBL.out.cell (p := ⟨w1.heap.size, 0, none⟩) (by show w1.heap.size < B; omega)).trans k0
      have HU1 : ∀ W, Below wr.heap.size wr W → Calls Try.prog 13 #[.pointer (some ⟨a1, 0, none⟩)] W fun e w' => e = .returned (.bool true) ∧ W = w' := fun W hb => lup_any B ca W a1 s1 r1 oa ia _ (hA.fr (G := fun _ => False) (.of_below hb) (fun _ _ h => h))
      have HU2 : ∀ W, Below wr.heap.size wr W → Calls Try.prog 13 #[.pointer (some ⟨a2, 0, none⟩)] W fun e w' => e = .returned (.bool true) ∧ W = w' := fun W hb => lup_any B cb W a2 s2 r2 ob ib _ (hB'.fr (G := fun _ => False) (.of_below hb) (fun _ _ h => h))
      have HQ1 : ∀ W, Below wr.heap.size wr W → Calls Try.prog 15 #[.pointer (some ⟨a1, 0, none⟩)] W fun e w' => e = .returned (.int .i64 b.me) ∧ W = w' := fun W hb => lpeer_any B ca W a1 s1 r1 oa ia _ (hA.fr (G := fun _ => False) (.of_below hb) (fun _ _ h => h))
      have HQ2 : ∀ W, Below wr.heap.size wr W → Calls Try.prog 15 #[.pointer (some ⟨a2, 0, none⟩)] W fun e w' => e = .returned (.int .i64 a.me) ∧ W = w' := fun W hb => lpeer_any B cb W a2 s2 r2 ob ib _ (hB'.fr (G := fun _ => False) (.of_below hb) (fun _ _ h => h))
      have HUP : ∀ (W : World) (p : Nat), Below wr.heap.size wr W → p = a1 ∨ p = a2 → Calls Try.prog 13 #[.pointer (some ⟨p, 0, none⟩)] W fun e w' => e = .returned (.bool true) ∧ W = w' := fun W p hb h => by
        rcases h with rfl | rfl
        · exact HU1 W hb
        · exact HU2 W hb
      have HPE : ∀ (W : World) (p : Nat) (n : Int), Below wr.heap.size wr W → (p = a1 ∧ n = (b.me : Int)) ∨ (p = a2 ∧ n = (a.me : Int)) → Calls Try.prog 15 #[.pointer (some ⟨p, 0, none⟩)] W fun e w' => e = .returned (.int .i64 n) ∧ W = w' := fun W p n hb h => by
        rcases h with ⟨rfl, rfl⟩ | ⟨rfl, rfl⟩
        · exact HQ1 W hb
        · exact HQ2 W hb
      have HEN : Hid (∀ W, Below wr.heap.size wr W → Ends B W a1 s1 r1 a2 s2 r2 (a.met b) (b.met a)) := fun W hb => ⟨⟨ca, oa, ia, cb, ob, ib, hA.fr (G := fun _ => False) (.of_below hb) (fun _ _ h => h), hB'.fr (G := fun _ => False) (.of_below hb) (fun _ _ h => h), hd⟩⟩
      have HBW : Hid (w.heap.size ≤ B ∧ Below w.heap.size w wr) := ⟨by omega, HB2.out.trans ((HB4.out.trans HBL.out).mono (by omega))⟩
      clear hA hB' hd HE4 hz HBL HB4 d0 k0 HB2 HZ HU1 HU2 HQ1 HQ2
      go_wp2_with fail
      go_region_held3 (fun w' => w'.cell? ⟨w.heap.size, 0, none⟩ = some (.int .i64 a.me) ∧ w'.cell? ⟨w1.heap.size, 0, none⟩ = some (.int .i64 b.me))
        (first | exact ⟨m0, m1⟩)
        (first | (go_at_call 13; refine (HUP _ _ (bl_drew (bl_refl _)) (by first | exact .inl rfl | exact .inr rfl)).mono ?_; rintro e w9 ⟨rfl, rfl⟩) | (go_at_call 15; refine (HPE _ _ _ (bl_drew (bl_refl _)) (by first | exact .inl ⟨rfl, rfl⟩ | exact .inr ⟨rfl, rfl⟩)).mono ?_; rintro e w9 ⟨rfl, rfl⟩))
      go_wp2
      go_ret3
      exact ⟨B, a1, s1, r1, a2, s2, r2, rfl, HBW.out.1, HEN.out _ (bl_drew (bl_refl _)), HBW.out.2.trans ((bl_drew (bl_refl wr)).mono HBW.out.2.size)⟩

/-- link.New at any numbers. -/
theorem lnew_some (me size timer tries : Int) (w : World) :
    Calls Try.prog 40 #[.int .i64 me, .int .i64 size, .int .i64 timer, .int .i64 tries] w fun e w' => (∃ v n, e = .returned (.tuple #[v, .int .i64 n]) ∧ ((setOk me size timer tries ∧ n = 0 ∧ ∃ p, v = .pointer (some ⟨p, 0, none⟩)) ∨ (¬ setOk me size timer tries ∧ n = 1 ∧ v = .pointer none))) ∧ Below w.heap.size w w' := by
  by_cases h : setOk me size timer tries
  · obtain ⟨m, rfl⟩ : ∃ m : Nat, me = m := ⟨me.toNat, by unfold setOk at h; omega⟩
    obtain ⟨s, rfl⟩ : ∃ m : Nat, size = m := ⟨size.toNat, by unfold setOk at h; omega⟩
    obtain ⟨t, rfl⟩ : ∃ m : Nat, timer = m := ⟨timer.toNat, by unfold setOk at h; omega⟩
    obtain ⟨r, rfl⟩ : ∃ m : Nat, tries = m := ⟨tries.toNat, by unfold setOk at h; omega⟩
    have h0 := h
    unfold setOk at h0
    refine (lnew_ok m s t r (by omega) (by omega) (by omega) (by omega) (by omega) (by omega) (by omega) w.heap.size w (Nat.le_refl _)).mono ?_
    rintro e w' ⟨a, sg, rg, col, ov, iv, rfl, _, _, hb⟩
    exact ⟨⟨_, _, rfl, .inl ⟨h, rfl, a, rfl⟩⟩, hb⟩
  · refine (lnew_bad me size timer tries h w).mono ?_
    rintro e w' ⟨rfl, rfl⟩
    exact ⟨⟨_, _, rfl, .inr ⟨h, rfl, rfl⟩⟩, bl_refl _⟩

set_option maxRecDepth 100000 in
set_option maxHeartbeats 4000000 in
theorem both_bad (a0 a1 a2 a3 b0 b1 b2 b3 : Int) (h : ¬ (setOk a0 a1 a2 a3 ∧ setOk b0 b1 b2 b3)) (w : World) :
    Calls Try.prog 19 #[.agg #[.int .i64 a0, .int .i64 a1, .int .i64 a2, .int .i64 a3], .agg #[.int .i64 b0, .int .i64 b1, .int .i64 b2, .int .i64 b3]] w fun e w' => (∃ v1 v2, e = .returned (.tuple #[v1, v2, .bool false])) ∧ Below w.heap.size w w' := by
  obtain ⟨w1, hw1, hb1, hz1, d0, d1, d2, d3⟩ := set_box w a0 a1 a2 a3
  obtain ⟨w2, hw2, hb2, hz2, k0, k1, k2, k3⟩ := set_box w1 b0 b1 b2 b3
  replace d0 := below_cell hb2 d0
  replace d1 := below_cell hb2 d1
  replace d2 := below_cell hb2 d2
  replace d3 := below_cell hb2 d3
  have HN1 := lnew_some a0 a1 a2 a3 w2
  have HB2 : Hid (Below w.heap.size w w2) := hb1.trans (hb2.mono hb1.size)
  clear hb1 hb2 hz1 hz2
  go_enter Try.func19, Try.ntmps19
  go_wp2_with fail
  try simp only [hw1, hw2]
  go_wp2_with fail
  refine HN1.mono ?_
  rintro e w3 ⟨⟨v, n, rfl, hv⟩, hb3⟩
  have HN2 := lnew_some b0 b1 b2 b3 w3
  replace k0 := below_cell hb3 k0
  replace k1 := below_cell hb3 k1
  replace k2 := below_cell hb3 k2
  replace k3 := below_cell hb3 k3
  have HB3 : Hid (Below w.heap.size w w3) := HB2.out.trans (hb3.mono HB2.out.size)
  clear hb3 HB2 HN1 d0 d1 d2 d3
  go_wp2_with fail
  refine HN2.mono ?_
  rintro e w4 ⟨⟨u, m, rfl, hu⟩, hb4⟩
  have HB4 : Hid (Below w.heap.size w w4) := HB3.out.trans (hb4.mono HB3.out.size)
  clear hb4 HB3 HN2 k0 k1 k2 k3
  rcases hv with ⟨hs1, rfl, p, rfl⟩ | ⟨hs1, rfl, rfl⟩
  · rcases hu with ⟨hs2, rfl, q, rfl⟩ | ⟨hs2, rfl, rfl⟩
    · exact absurd ⟨hs1, hs2⟩ h
    · clear h hs1 hs2
      go_wp2
      go_ret3
      exact ⟨⟨_, _, rfl⟩, HB4.out⟩
  · rcases hu with ⟨hs2, rfl, q, rfl⟩ | ⟨hs2, rfl, rfl⟩
    · clear h hs1 hs2
      go_wp2
      go_ret3
      exact ⟨⟨_, _, rfl⟩, HB4.out⟩
    · clear h hs1 hs2
      go_wp2
      go_ret3
      exact ⟨⟨_, _, rfl⟩, HB4.out⟩

end Go.Proofs.Ythmdibagcbbgoaa
