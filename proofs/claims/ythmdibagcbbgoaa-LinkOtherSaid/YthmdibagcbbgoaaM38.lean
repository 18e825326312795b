/- portagelaw09.LinkOther: a control of another pair brings nothing in, takes nothing from the sender. Conditions: as they stand. -/
import Derived.Test.YthmdibagcbbgoaaM37
namespace Go.Proofs.Ythmdibagcbbgoaa
open Go.RowKit

def Lk.tri (t : Lk) (p : List Int) : Nat → Lk
  | 0 => t
  | n + 1 => (t.tri p n).push p
structure Tri (a b : St) (i : Nat) (t : Lk) : Prop where
  ok : LkOk t
  up : t.up = true
  me : t.me = a.me
  peer : t.peer = b.me
  inn : t.inn = []
  ps : t.s.ps.length = i
  out : t.out.length ≤ 64 * i
theorem tri_push {a b : St} {i : Nat} {t : Lk} (h : Tri a b i t) (hi : i < 64) (x : Int) : t.pushE [x] = 0 ∧ Tri a b (i + 1) (t.push [x]) := by
  have hE : t.s.pushE [x] = 0 := by
    unfold Snd.pushE
    rw [if_neg (by simp), if_neg (by simp), if_neg (by rw [h.ps]; omega)]
  have hq : t.push [x] = ({ t with s := t.s.push [x] } : Lk).goes := by unfold Lk.push; rw [if_pos ⟨h.up, hE⟩]
  have hg := push_grow t [x] h.ok
  obtain ⟨_, _, q⟩ := goes_went ({ t with s := t.s.push [x] } : Lk)
  obtain ⟨a1, a2, a3, a4, a5, a6, a7, a8, a9, a10, a11, a12, a13, a14⟩ := q
  rw [← hq] at a1 a2 a3 a12 a13
  have ho := h.out
  refine ⟨by unfold Lk.pushE; rw [if_pos h.up]; exact hE, ⟨hg.1, a3.trans h.up, a1.trans h.me, a2.trans h.peer, a12.trans h.inn, ?_, ?_⟩⟩
  · rw [a13]
    show (t.s.push [x]).ps.length = _
    unfold Snd.push
    rw [if_pos hE]
    simp [h.ps]
  · have := hg.2.1
    omega
theorem tri_start {a b : St} (ha : a.Ok) : Tri a b 0 (a.met b) := ⟨(stage_ok (b := b) ha 2).1, rfl, rfl, rfl, rfl, rfl, by show (0 : Nat) ≤ _; omega⟩
theorem tri_any {a b : St} (ha : a.Ok) (x : Int) : ∀ i : Nat, i ≤ 3 → Tri a b i ((a.met b).tri [x] i)
  | 0, _ => tri_start ha
  | i + 1, h => (tri_push (tri_any ha x i (by omega)) (by omega) x).2
theorem other_law {a b : St} {i : Nat} {t : Lk} (h : Tri a b i t) (c : Cn) (hk : c.kind ≤ 4) (hn : ¬ (c.me = b.me ∧ c.peer = (a.me : Int))) : t.recv c = t := by
  unfold Lk.recv
  split
  · rfl
  · rw [if_neg (by omega), if_neg (by omega), if_neg (by omega), if_neg (by rw [h.peer, h.me]; exact hn), if_pos h.up]

/-- What LinkOther's last line keeps: the first end as it stands. -/
structure OtP (B : Nat) (w w' : World) (a1 s1 r1 : Nat) (t : Lk) : Prop where
  ex : ∃ ca ov iv, LkP B ca w' a1 s1 r1 ov iv t
  bl : Below B w w'
section
variable {B : Nat} {w W W' : World} {a1 s1 r1 : Nat} {t : Lk}
theorem OtP.below (h : OtP B w W a1 s1 r1 t) (hb : Below W.heap.size W W') : OtP B w W' a1 s1 r1 t := by
  obtain ⟨⟨ca, ov, iv, h1⟩, h2⟩ := h
  exact ⟨⟨ca, ov, iv, h1.fr (G := fun _ => False) (.of_below hb) (fun _ _ h => h)⟩, h2.trans (hb.mono (h1.cols.1))⟩
theorem OtP.drew (h : OtP B w W a1 s1 r1 t) : OtP B w W.drew a1 s1 r1 t := h.below (bl_drew (bl_refl _))
theorem ot_pending (h : OtP B w W a1 s1 r1 t) (hl : t.s.ps.length = 3) : Calls Try.prog 17 #[.pointer (some ⟨a1, 0, none⟩)] W fun e w' => e = .returned (.int .i64 3) ∧ OtP B w w' a1 s1 r1 t := by
  obtain ⟨⟨ca, ov, iv, h1⟩, h2⟩ := h
  refine (lpending_any B ca W a1 s1 r1 ov iv t h1).mono ?_
  rintro e w' ⟨rfl, rfl⟩
  rw [hl]
  exact ⟨rfl, ⟨⟨ca, ov, iv, h1⟩, h2⟩⟩
theorem ot_up (h : OtP B w W a1 s1 r1 t) (hl : t.up = true) : Calls Try.prog 13 #[.pointer (some ⟨a1, 0, none⟩)] W fun e w' => e = .returned (.bool true) ∧ OtP B w w' a1 s1 r1 t := by
  obtain ⟨⟨ca, ov, iv, h1⟩, h2⟩ := h
  refine (lup_any B ca W a1 s1 r1 ov iv t h1).mono ?_
  rintro e w' ⟨rfl, rfl⟩
  rw [hl]
  exact ⟨rfl, ⟨⟨ca, ov, iv, h1⟩, h2⟩⟩
theorem ot_peer (h : OtP B w W a1 s1 r1 t) {n : Int} (hl : t.peer = n) : Calls Try.prog 15 #[.pointer (some ⟨a1, 0, none⟩)] W fun e w' => e = .returned (.int .i64 n) ∧ OtP B w w' a1 s1 r1 t := by
  obtain ⟨⟨ca, ov, iv, h1⟩, h2⟩ := h
  refine (lpeer_any B ca W a1 s1 r1 ov iv t h1).mono ?_
  rintro e w' ⟨rfl, rfl⟩
  rw [hl]
  exact ⟨rfl, ⟨⟨ca, ov, iv, h1⟩, h2⟩⟩
theorem ot_me (h : OtP B w W a1 s1 r1 t) {n : Int} (hl : (t.me : Int) = n) : Calls Try.prog 14 #[.pointer (some ⟨a1, 0, none⟩)] W fun e w' => e = .returned (.int .i64 n) ∧ OtP B w w' a1 s1 r1 t := by
  obtain ⟨⟨ca, ov, iv, h1⟩, h2⟩ := h
  refine (lme_any B ca W a1 s1 r1 ov iv t h1).mono ?_
  rintro e w' ⟨rfl, rfl⟩
  rw [hl]
  exact ⟨rfl, ⟨⟨ca, ov, iv, h1⟩, h2⟩⟩
theorem ot_in (h : OtP B w W a1 s1 r1 t) (hl : t.inn = []) : Calls Try.prog 12 #[.pointer (some ⟨a1, 0, none⟩)] W fun e w' => (∃ o c, e = .returned (.slice o 0 c)) ∧ OtP B w w' a1 s1 r1 t := by
  obtain ⟨⟨ca, ov, iv, h1⟩, h2⟩ := h
  refine (lin_any B ca W a1 s1 r1 ov iv t h1).mono ?_
  rintro e w' ⟨rfl, rfl⟩
  obtain ⟨cs, v1, v2, _⟩ := h1.inn
  obtain ⟨oo, oc, hv⟩ := rc_form v2
  rw [hl] at v1
  rw [v1] at hv
  have hq := fr_cell W a1 14 (.slice none 0 0)
  have hi := h1.inned
  have e9 : ({ t with inn := [] } : Lk) = t := by
    obtain ⟨_, _, _, _, _, _, _, _, _, _, _, _, _, _, inn⟩ := t
    simp only at hl
    subst hl
    rfl
  rw [e9] at hi
  exact ⟨⟨oo, oc, by rw [hv]; rfl⟩, ⟨⟨_, _, _, hi⟩, h2.trans (fr_bl hq (fun k hk => by subst hk; exact (h1.cols.2 k (by rw [h1.own]; omega)).1) h1.cols.1)⟩⟩
theorem ot_awake (h : OtP B w W a1 s1 r1 t) : Calls Try.prog 18 #[] W fun e w' => e = .returned (.bool true) ∧ OtP B w w' a1 s1 r1 t := by
  refine (awake9_any W).mono ?_
  rintro e w' ⟨rfl, hb⟩
  exact ⟨rfl, h.below hb⟩
end

set_option maxRecDepth 100000 in
set_option maxHeartbeats 4000000 in
theorem other_ok (a b : St) (ha : a.Ok) (hb : b.Ok) (kind ns nr : Int) (pp : Bool) (cme cpeer : Int) (xo : Option Addr) (xc : Nat) (data : List Int) (w : World) (hr : Reads (Value.int .u8) w (.slice xo data.length xc) data) (hwf : ∀ n ∈ data, (Lit.int .u8 n).wf = true) :
    Calls Try.prog 5 #[.agg #[.int .i64 a.me, .int .i64 a.size, .int .i64 a.timer, .int .i64 a.tries], .agg #[.int .i64 b.me, .int .i64 b.size, .int .i64 b.timer, .int .i64 b.tries], .agg #[.int .i64 kind, .int .i64 ns, .int .i64 nr, .bool pp, .int .i64 cme, .int .i64 cpeer, .slice xo data.length xc]] w fun e w' => e = .returned (.bool true) ∧ Below w.heap.size w w' := by
  obtain ⟨w1, hw1, hb1, hz1, d0, d1, d2, d3⟩ := set_box w a.me a.size a.timer a.tries
  obtain ⟨w2, hw2, hb2, hz2, k0, k1, k2, k3⟩ := set_box w1 b.me b.size b.timer b.tries
  obtain ⟨w3, hw3, hb3, x0⟩ := alloc_named w2 #[.int .i64 kind, .int .i64 ns, .int .i64 nr, .bool pp, .int .i64 cme, .int .i64 cpeer, .slice xo data.length xc] 24
  have h12 := bl_trans hb1 hb2
  have h13 := bl_trans h12 hb3
  have h23 := bl_trans hb2 hb3
  have hr3 := hr.below h13
  have hlt9 : data ≠ [] → ∀ k, (Value.slice xo data.length xc).ownBlock = some k → k < w.heap.size := fun hne k hk => rd_lt9 hr hne k hk
  have hz3 := lt_of_get x0
  have HBO := both_ok a b ha hb w3
  have HC : Hid (∀ (W : World) (B : Nat), w3.heap.size ≤ B → Below B w3 W → W.cell? ⟨w.heap.size, 0, none⟩ = some (.int .i64 a.me) ∧ W.cell? ⟨w1.heap.size, 0, none⟩ = some (.int .i64 b.me) ∧ W.heap[w2.heap.size]? = some (.cells #[.int .i64 kind, .int .i64 ns, .int .i64 nr, .bool pp, .int .i64 cme, .int .i64 cpeer, .slice xo data.length xc] 24 (0, 0))) := by
    intro W B hB hbl
    have hbl' : Below w3.heap.size w3 W := hbl.mono hB
    exact ⟨below_cell hbl' (below_cell h23 d0), below_cell hbl' (below_cell hb3 k0), bl_get hbl' x0⟩
  have HW13 := Lib.hid h13
  have HSZ : Hid (w2.heap.size < w3.heap.size) := hz3
  have y0 : w3.cell? ⟨w2.heap.size, 0, none⟩ = some (.int .i64 kind) := by rw [cell_of_row _ _ _ _ _ _ x0]; rfl
  replace d0 := below_cell h23 d0
  replace d1 := below_cell h23 d1
  replace d2 := below_cell h23 d2
  replace d3 := below_cell h23 d3
  replace k0 := below_cell hb3 k0
  replace k1 := below_cell hb3 k1
  replace k2 := below_cell hb3 k2
  replace k3 := below_cell hb3 k3
  have HA9 := Lib.hid ha
  have HB9 := Lib.hid hb
  clear h12 h13 h23 hb1 hb2 hb3 hz1 hz2 hz3 x0 ha hb
  go_enter Try.func5, Try.ntmps5
  go_wp2_with fail
  try simp only [hw1, hw2, hw3]
  go_wp2_with fail
  refine HBO.mono ?_
  rintro e w4 ⟨B, a1, s1, r1, a2, s2, r2, rfl, hB, hE, hb4⟩
  have HBW : Hid (w3.heap.size ≤ B) := hB
  have HB4 : Hid (Below w3.heap.size w3 w4) := hb4
  have HE0 : Hid (Ends B w4 a1 s1 r1 a2 s2 r2 ((a.met b).tri [1] 0) ((b.met a).tri [2] 0)) := hE
  clear hB hE hb4 HBO d0 d1 d2 d3 k0 k1 k2 k3 y0
  go_wp2_with fail
  go_loopw [10] (fun iv wr => ∃ i : Nat, iv = .int .i64 i ∧ i ≤ 3 ∧ Hid (Ends B wr a1 s1 r1 a2 s2 r2 ((a.met b).tri [1] i) ((b.met a).tri [2] i)) ∧ Hid (Below B w4 wr)) (fun iv _ => 10 - (intOf iv).toNat)
  case atStart => exact ⟨0, rfl, by omega, HE0, Below.refl _ _⟩
  case round =>
    clear HE0
    obtain ⟨i, rfl, hi, HE, HBL⟩ := hrel
    by_cases hlt : i < 3
    · obtain ⟨ca, oa, ia, cb, ob, ib, hA, hB, hd⟩ := HE.out.ex
      have t1 := tri_any (b := b) HA9.out 1 i (by omega)
      have t2 := tri_any (b := a) HB9.out 2 i (by omega)
      have p1 := (tri_push t1 (by omega) 1)
      have p2 := (tri_push t2 (by omega) 2)
      have hba := bl_alloc (bl_refl wr) (.cells #[.int .u8 1] 5)
      have hA1 := hA.fr (G := fun _ => False) (.of_below hba) (fun _ _ h => h)
      have hB1 := hB.fr (G := fun _ => False) (.of_below hba) (fun _ _ h => h)
      have HP := lpush_any B ca _ a1 s1 r1 oa ia _ hA1 t1.ok.s (by have := t1.out; omega) _ [1] (reads_mark' wr 1 5 (0, 0)) (wf_one (by decide))
      rw [p1.1] at HP
      have HEN : Hid (∀ W, LkTo B ca (wr.alloc (.cells #[.int .u8 1] 5)) a1 s1 r1 ((a.met b).tri [1] (i + 1)) W → Ends B W a1 s1 r1 a2 s2 r2 ((a.met b).tri [1] (i + 1)) ((b.met a).tri [2] i) ∧ Below B w4 W) := fun W h => ⟨ends_first0 hB1 hd h, (HBL.out.trans (hba.mono hA.cols.1)).trans (h.bl hA1)⟩
      have HP2 := Lib.hid p2
      have HT2 := Lib.hid t2
      have j1 : (i : Int) < 3 := by omega
      clear hA hB hd hA1 hB1 hba HE t1 t2 p1 p2
      go_wp2_with fail
      refine HP.mono ?_
      rintro e w5 ⟨rfl, h5⟩
      obtain ⟨hE5, hb5⟩ := HEN.out _ h5
      obtain ⟨ca, oa, ia, cb, ob, ib, hA, hB, hd⟩ := hE5.ex
      have hba := bl_alloc (bl_refl w5) (.cells #[.int .u8 2] 5)
      have hA1 := hA.fr (G := fun _ => False) (.of_below hba) (fun _ _ h => h)
      have hB1 := hB.fr (G := fun _ => False) (.of_below hba) (fun _ _ h => h)
      have HQ := lpush_any B cb _ a2 s2 r2 ob ib _ hB1 HT2.out.ok.s (by have := HT2.out.out; omega) _ [2] (reads_mark' w5 2 5 (0, 0)) (wf_one (by decide))
      rw [HP2.out.1] at HQ
      have HEN2 : Hid (∀ W, LkTo B cb (w5.alloc (.cells #[.int .u8 2] 5)) a2 s2 r2 ((b.met a).tri [2] (i + 1)) W → Ends B W a1 s1 r1 a2 s2 r2 ((a.met b).tri [1] (i + 1)) ((b.met a).tri [2] (i + 1)) ∧ Below B w4 W) := fun W h => ⟨ends_second0 hA1 hd h, (hb5.trans (hba.mono hA.cols.1)).trans (h.bl hB1)⟩
      clear hA hB hd hA1 hB1 hba hE5 hb5 h5 HP HEN HBL
      go_wp2_with fail
      refine HQ.mono ?_
      rintro e w6 ⟨rfl, h6⟩
      obtain ⟨hE6, hb6⟩ := HEN2.out _ h6
      have HE6 := Lib.hid hE6
      have HB6 := Lib.hid hb6
      clear h6 hE6 hb6 HQ HEN2 HP2 HT2
      go_wp2
      go_roundw
      case rel => exact ⟨i + 1, by go_num, by omega, HE6, HB6⟩
      case measure => simp [intOf]; omega
    · obtain rfl : i = 3 := by omega
      have HBW4 : Below w3.heap.size w3 wr := HB4.out.trans (HBL.out.mono HBW.out)
      obtain ⟨c1, c2, c3⟩ := HC.out wr w3.heap.size (Nat.le_refl _) HBW4
      have e0 : wr.cell? ⟨w2.heap.size, 0, none⟩ = some (.int .i64 kind) := by rw [cell_of_row _ _ _ _ _ _ c3]; rfl
      have e1 : wr.cell? ⟨w2.heap.size, 1, none⟩ = some (.int .i64 ns) := by rw [cell_of_row _ _ _ _ _ _ c3]; rfl
      have e2 : wr.cell? ⟨w2.heap.size, 2, none⟩ = some (.int .i64 nr) := by rw [cell_of_row _ _ _ _ _ _ c3]; rfl
      have e3 : wr.cell? ⟨w2.heap.size, 3, none⟩ = some (.bool pp) := by rw [cell_of_row _ _ _ _ _ _ c3]; rfl
      have e4 : wr.cell? ⟨w2.heap.size, 4, none⟩ = some (.int .i64 cme) := by rw [cell_of_row _ _ _ _ _ _ c3]; rfl
      have e5 : wr.cell? ⟨w2.heap.size, 5, none⟩ = some (.int .i64 cpeer) := by rw [cell_of_row _ _ _ _ _ _ c3]; rfl
      have e6 : wr.cell? ⟨w2.heap.size, 6, none⟩ = some (.slice xo data.length xc) := by rw [cell_of_row _ _ _ _ _ _ c3]; rfl
      have HBWW : Hid (Below w.heap.size w wr) := HW13.out.trans (HBW4.mono HW13.out.size)
      have HAW : ∀ e w', e = Ending.returned (.bool true) ∧ Below wr.heap.size wr w' → e = Ending.returned (.bool true) ∧ Below w.heap.size w w' := fun e w' h => ⟨h.1, HBWW.out.trans (h.2.mono HBWW.out.size)⟩
      have HA0 := awake9_any wr
      by_cases hk : kind > 4
      · clear e1 e2 e3 e4 e5 e6 c1 c2 c3 HC HE HBL HBW4
        go_wp2_with fail
        refine HA0.mono ?_
        rintro e w5 ⟨rfl, hb5⟩
        go_wp2
        go_ret
        exact HAW _ _ ⟨rfl, hb5⟩
      · by_cases hm : cme = b.me
        · by_cases hp : cpeer = a.me
          · clear e1 e2 e3 e6 c3 HC HE HBL HBW4
            go_wp2_with fail
            refine HA0.mono ?_
            rintro e w5 ⟨rfl, hb5⟩
            go_wp2
            go_ret
            exact HAW _ _ ⟨rfl, hb5⟩
          · have hno : ¬ (cme = b.me ∧ cpeer = (a.me : Int)) := fun h => hp h.2
            subst hm
            obtain ⟨ca, oa, ia, cb, ob, ib, hA, hB, hd⟩ := HE.out.ex
            have t1 := tri_any (b := b) HA9.out 1 3 (by omega)
            have hr4 := hr3.below HBW4
            have hpl : data ≠ [] → ∀ k, (Value.slice xo data.length xc).ownBlock = some k → k < wr.heap.size ∧ ¬ (1 ≤ ca k ∧ ca k ≤ 5) := fun hne k hk => by
              have g1 := hlt9 hne k hk
              have g2 := HW13.out.size
              have g3 := HBW.out
              have g4 := hA.cols.1
              refine ⟨by omega, fun g5 => ?_⟩
              have := (hA.cols.2 k (by omega)).1
              omega
            have HR := lrecv_any B ca wr a1 s1 r1 oa ia _ hA t1.ok.me t1.ok.s t1.ok.r ⟨kind, ns, nr, pp, (b.me : Int), cpeer, data⟩ (.slice xo data.length xc) ⟨hr4, hwf, hpl⟩ (by have := t1.out; omega) (by rw [t1.inn]; simp)
            rw [other_law t1 ⟨kind, ns, nr, pp, (b.me : Int), cpeer, data⟩ (by show kind ≤ 4; omega) hno] at HR
            have HTO : Hid (∀ W, LkTo B ca wr a1 s1 r1 ((a.met b).tri [1] 3) W → OtP B wr W a1 s1 r1 ((a.met b).tri [1] 3)) := fun W h => by
              obtain ⟨c', o', i', h', _⟩ := h.ex
              exact ⟨⟨c', o', i', h'⟩, h.bl hA⟩
            have HKC : Hid (∀ W, OtP B wr W a1 s1 r1 ((a.met b).tri [1] 3) → (W.cell? ⟨w.heap.size, 0, none⟩ = some (.int .i64 a.me) ∧ W.cell? ⟨w1.heap.size, 0, none⟩ = some (.int .i64 b.me)) ∧ OtP B wr W a1 s1 r1 ((a.met b).tri [1] 3)) := fun W h => by
              obtain ⟨g1, g2, _⟩ := HC.out W w3.heap.size (Nat.le_refl _) (HBW4.trans (h.bl.mono HBW.out))
              exact ⟨⟨g1, g2⟩, h⟩
            have HFI : Hid (∀ W, OtP B wr W a1 s1 r1 ((a.met b).tri [1] 3) → Below w.heap.size w W) := fun W h => HBWW.out.trans (h.bl.mono (by have := HBW.out; have := HW13.out.size; omega))
            have HT1 := Lib.hid t1
            clear hA hB hd hr4 hpl t1 HA0 HAW HC HE HBL HBW4 HBWW c3
            go_wp2_with fail
            refine HR.mono ?_
            rintro e w5 ⟨rfl, h5⟩
            have HO5 := HTO.out _ h5
            clear h5 HTO HR c1 c2 e0 e1 e2 e3 e4 e5 e6
            obtain ⟨⟨c1, c2⟩, _⟩ := HKC.out _ HO5
            go_wp2_with fail
            go_region_held3 (fun w' => (w'.cell? ⟨w.heap.size, 0, none⟩ = some (.int .i64 a.me) ∧ w'.cell? ⟨w1.heap.size, 0, none⟩ = some (.int .i64 b.me)) ∧ OtP B wr w' a1 s1 r1 ((a.met b).tri [1] 3)) (exact HKC.out _ (by first | assumption | exact OtP.drew (by assumption)))
              (first
                | (go_at_call 17; refine (ot_pending (by first | assumption | exact OtP.drew (by assumption)) HT1.out.ps).mono ?_; rintro e W1 ⟨rfl, HO⟩)
                | (go_at_call 12; refine (ot_in (by first | assumption | exact OtP.drew (by assumption)) HT1.out.inn).mono ?_; rintro e W1 ⟨⟨o9, c9, rfl⟩, HO⟩)
                | (go_at_call 13; refine (ot_up (by first | assumption | exact OtP.drew (by assumption)) HT1.out.up).mono ?_; rintro e W1 ⟨rfl, HO⟩)
                | (go_at_call 15; refine (ot_peer (by first | assumption | exact OtP.drew (by assumption)) HT1.out.peer).mono ?_; rintro e W1 ⟨rfl, HO⟩)
                | (go_at_call 14; refine (ot_me (by first | assumption | exact OtP.drew (by assumption)) (congrArg Int.ofNat HT1.out.me)).mono ?_; rintro e W1 ⟨rfl, HO⟩)
                | (go_at_call 18; refine (ot_awake (by first | assumption | exact OtP.drew (by assumption))).mono ?_; rintro e W1 ⟨rfl, HO⟩))
            go_wp2
            go_ret
            exact ⟨rfl, HFI.out _ (by first | assumption | exact OtP.drew (by assumption))⟩
        · have hno : ¬ (cme = b.me ∧ cpeer = (a.me : Int)) := fun h => hm h.1
          obtain ⟨ca, oa, ia, cb, ob, ib, hA, hB, hd⟩ := HE.out.ex
          have t1 := tri_any (b := b) HA9.out 1 3 (by omega)
          have hr4 := hr3.below HBW4
          have hpl : data ≠ [] → ∀ k, (Value.slice xo data.length xc).ownBlock = some k → k < wr.heap.size ∧ ¬ (1 ≤ ca k ∧ ca k ≤ 5) := fun hne k hk => by
            have g1 := hlt9 hne k hk
            have g2 := HW13.out.size
            have g3 := HBW.out
            have g4 := hA.cols.1
            refine ⟨by omega, fun g5 => ?_⟩
            have := (hA.cols.2 k (by omega)).1
            omega
          have HR := lrecv_any B ca wr a1 s1 r1 oa ia _ hA t1.ok.me t1.ok.s t1.ok.r ⟨kind, ns, nr, pp, cme, cpeer, data⟩ (.slice xo data.length xc) ⟨hr4, hwf, hpl⟩ (by have := t1.out; omega) (by rw [t1.inn]; simp)
          rw [other_law t1 ⟨kind, ns, nr, pp, cme, cpeer, data⟩ (by show kind ≤ 4; omega) hno] at HR
          have HTO : Hid (∀ W, LkTo B ca wr a1 s1 r1 ((a.met b).tri [1] 3) W → OtP B wr W a1 s1 r1 ((a.met b).tri [1] 3)) := fun W h => by
            obtain ⟨c', o', i', h', _⟩ := h.ex
            exact ⟨⟨c', o', i', h'⟩, h.bl hA⟩
          have HKC : Hid (∀ W, OtP B wr W a1 s1 r1 ((a.met b).tri [1] 3) → (W.cell? ⟨w.heap.size, 0, none⟩ = some (.int .i64 a.me) ∧ W.cell? ⟨w1.heap.size, 0, none⟩ = some (.int .i64 b.me)) ∧ OtP B wr W a1 s1 r1 ((a.met b).tri [1] 3)) := fun W h => by
            obtain ⟨g1, g2, _⟩ := HC.out W w3.heap.size (Nat.le_refl _) (HBW4.trans (h.bl.mono HBW.out))
            exact ⟨⟨g1, g2⟩, h⟩
          have HFI : Hid (∀ W, OtP B wr W a1 s1 r1 ((a.met b).tri [1] 3) → Below w.heap.size w W) := fun W h => HBWW.out.trans (h.bl.mono (by have := HBW.out; have := HW13.out.size; omega))
          have HT1 := Lib.hid t1
          clear hA hB hd hr4 hpl t1 HA0 HAW HC HE HBL HBW4 HBWW c3
          go_wp2_with fail
          refine HR.mono ?_
          rintro e w5 ⟨rfl, h5⟩
          have HO5 := HTO.out _ h5
          clear h5 HTO HR c1 c2 e0 e1 e2 e3 e4 e5 e6
          obtain ⟨⟨c1, c2⟩, _⟩ := HKC.out _ HO5
          go_wp2_with fail
          go_region_held3 (fun w' => (w'.cell? ⟨w.heap.size, 0, none⟩ = some (.int .i64 a.me) ∧ w'.cell? ⟨w1.heap.size, 0, none⟩ = some (.int .i64 b.me)) ∧ OtP B wr w' a1 s1 r1 ((a.met b).tri [1] 3)) (exact HKC.out _ (by first | assumption | exact OtP.drew (by assumption)))
            (first
              | (go_at_call 17; refine (ot_pending (by first | assumption | exact OtP.drew (by assumption)) HT1.out.ps).mono ?_; rintro e W1 ⟨rfl, HO⟩)
              | (go_at_call 12; refine (ot_in (by first | assumption | exact OtP.drew (by assumption)) HT1.out.inn).mono ?_; rintro e W1 ⟨⟨o9, c9, rfl⟩, HO⟩)
              | (go_at_call 13; refine (ot_up (by first | assumption | exact OtP.drew (by assumption)) HT1.out.up).mono ?_; rintro e W1 ⟨rfl, HO⟩)
              | (go_at_call 15; refine (ot_peer (by first | assumption | exact OtP.drew (by assumption)) HT1.out.peer).mono ?_; rintro e W1 ⟨rfl, HO⟩)
              | (go_at_call 14; refine (ot_me (by first | assumption | exact OtP.drew (by assumption)) (congrArg Int.ofNat HT1.out.me)).mono ?_; rintro e W1 ⟨rfl, HO⟩)
              | (go_at_call 18; refine (ot_awake (by first | assumption | exact OtP.drew (by assumption))).mono ?_; rintro e W1 ⟨rfl, HO⟩))
          go_wp2
          go_ret
          exact ⟨rfl, HFI.out _ (by first | assumption | exact OtP.drew (by assumption))⟩

set_option maxRecDepth 100000 in
set_option maxHeartbeats 4000000 in
theorem other_bad (a0 a1 a2 a3 b0 b1 b2 b3 : Int) (hno : ¬ (setOk a0 a1 a2 a3 ∧ setOk b0 b1 b2 b3)) (kind ns nr : Int) (pp : Bool) (cme cpeer : Int) (xo : Option Addr) (xl xc : Nat) (w : World) :
    Calls Try.prog 5 #[.agg #[.int .i64 a0, .int .i64 a1, .int .i64 a2, .int .i64 a3], .agg #[.int .i64 b0, .int .i64 b1, .int .i64 b2, .int .i64 b3], .agg #[.int .i64 kind, .int .i64 ns, .int .i64 nr, .bool pp, .int .i64 cme, .int .i64 cpeer, .slice xo xl xc]] w fun e w' => e = .returned (.bool true) ∧ Below w.heap.size w w' := by
  obtain ⟨w1, hw1, hb1, hz1, d0, d1, d2, d3⟩ := set_box w a0 a1 a2 a3
  obtain ⟨w2, hw2, hb2, hz2, k0, k1, k2, k3⟩ := set_box w1 b0 b1 b2 b3
  obtain ⟨w3, hw3, hb3, x0⟩ := alloc_named w2 #[.int .i64 kind, .int .i64 ns, .int .i64 nr, .bool pp, .int .i64 cme, .int .i64 cpeer, .slice xo xl xc] 24
  have h23 := bl_trans hb2 hb3
  replace d0 := below_cell h23 d0
  replace d1 := below_cell h23 d1
  replace d2 := below_cell h23 d2
  replace d3 := below_cell h23 d3
  replace k0 := below_cell hb3 k0
  replace k1 := below_cell hb3 k1
  replace k2 := below_cell hb3 k2
  replace k3 := below_cell hb3 k3
  have hBB : Hid (Below w.heap.size w w3) := bl_trans (bl_trans hb1 hb2) hb3
  have HB := both_bad a0 a1 a2 a3 b0 b1 b2 b3 hno w3
  clear hb1 hb2 hb3 h23 hz1 hz2 x0
  obtain ⟨p, hp⟩ : ∃ p : Bool, decide (setOk a0 a1 a2 a3) = p := ⟨_, rfl⟩
  obtain ⟨q, hq⟩ : ∃ q : Bool, decide (setOk b0 b1 b2 b3) = q := ⟨_, rfl⟩
  have HPQ : Hid (p = true → q = true → False) := fun g1 g2 => hno ⟨by rw [g1] at hp; exact of_decide_eq_true hp, by rw [g2] at hq; exact of_decide_eq_true hq⟩
  have HR1 := fun W : World => right_any a0 a1 a2 a3 p (by rw [← hp]; simp) W
  have HR2 := fun W : World => right_any b0 b1 b2 b3 q (by rw [← hq]; simp) W
  clear hp hq
  go_enter Try.func5, Try.ntmps5
  go_wp2_with fail
  try simp only [hw1, hw2, hw3]
  go_wp2_with fail
  refine HB.mono ?_
  rintro e w4 ⟨⟨v1, v2, rfl⟩, hb4⟩
  have e0 := below_cell hb4 d0
  have e1 := below_cell hb4 d1
  have e2 := below_cell hb4 d2
  have e3 := below_cell hb4 d3
  replace k0 := below_cell hb4 k0
  replace k1 := below_cell hb4 k1
  replace k2 := below_cell hb4 k2
  replace k3 := below_cell hb4 k3
  clear d0 d1 d2 d3 HB
  have H4 : Hid (Below w.heap.size w w4) := hBB.out.trans (hb4.mono hBB.out.size)
  clear hb4 hBB
  go_wp2_with fail
  refine (HR1 w4).mono ?_
  rintro e w5 ⟨rfl, hb5⟩
  have H5 : Hid (Below w.heap.size w w5) := bl_trans H4.out hb5
  replace k0 := below_cell hb5 k0
  replace k1 := below_cell hb5 k1
  replace k2 := below_cell hb5 k2
  replace k3 := below_cell hb5 k3
  clear hb5 H4 e0 e1 e2 e3
  cases p with
  | false =>
    go_wp2_with fail
    refine (awake9_any _).mono ?_
    rintro e w6 ⟨rfl, hb6⟩
    have H6 := bl_trans H5.out hb6
    clear hb6
    go_wp2
    go_ret
    exact ⟨rfl, H6⟩
  | true =>
    go_wp2_with fail
    refine (HR2 w5).mono ?_
    rintro e w6 ⟨rfl, hb6⟩
    have H6 : Hid (Below w.heap.size w w6) := bl_trans H5.out hb6
    clear hb6
    cases q with
    | false =>
      go_wp2_with fail
      refine (awake9_any _).mono ?_
      rintro e w7 ⟨rfl, hb7⟩
      have H7 := bl_trans H6.out hb7
      clear hb7
      go_wp2
      go_ret
      exact ⟨rfl, H7⟩
    | true => exact absurd HPQ.out (by simp)
theorem walkLinkOther (a0 : Int) (_ : (Lit.int .i64 a0).wf = true) (a1 : Int) (_ : (Lit.int .i64 a1).wf = true) (a2 : Int) (_ : (Lit.int .i64 a2).wf = true) (a3 : Int) (_ : (Lit.int .i64 a3).wf = true) (b0 : Int) (_ : (Lit.int .i64 b0).wf = true) (b1 : Int) (_ : (Lit.int .i64 b1).wf = true) (b2 : Int) (_ : (Lit.int .i64 b2).wf = true) (b3 : Int) (_ : (Lit.int .i64 b3).wf = true) (kind : Int) (_ : (Lit.int .i64 kind).wf = true) (ns : Int) (_ : (Lit.int .i64 ns).wf = true) (nr : Int) (_ : (Lit.int .i64 nr).wf = true) (p : Bool) (me : Int) (_ : (Lit.int .i64 me).wf = true) (peer : Int) (_ : (Lit.int .i64 peer).wf = true) (ao : Option Addr) (cap : Nat) (xs : List Int) {w : World} (hr : Reads (Value.int .u8) w (.slice ao xs.length cap) xs) (hwf : ∀ n ∈ xs, (Lit.int .u8 n).wf = true) (_ : xs.length * 1 ≤ reachBytes) :
    Calls Try.prog 5 #[.agg #[.int .i64 a0, .int .i64 a1, .int .i64 a2, .int .i64 a3], .agg #[.int .i64 b0, .int .i64 b1, .int .i64 b2, .int .i64 b3], .agg #[.int .i64 kind, .int .i64 ns, .int .i64 nr, .bool p, .int .i64 me, .int .i64 peer, .slice ao xs.length cap]] w fun e w' => e = .returned (.bool true) ∧ Below w.heap.size w w' := by
  by_cases h : setOk a0 a1 a2 a3 ∧ setOk b0 b1 b2 b3
  · obtain ⟨a, ha, rfl, rfl, rfl, rfl⟩ := St.of h.1
    obtain ⟨b, hb, rfl, rfl, rfl, rfl⟩ := St.of h.2
    exact other_ok a b ha hb kind ns nr p me peer ao cap xs w hr hwf
  · exact other_bad _ _ _ _ _ _ _ _ h kind ns nr p me peer ao _ cap w

end Go.Proofs.Ythmdibagcbbgoaa
