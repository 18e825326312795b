/- portagelaw09.cross: all that both ends sent comes to the other one. A row that may begin behind its block's first cell: what is appended to it, what is cut off ahead. No program in sight. Two ends between which nothing is lost are up behind two exchanges: the plain law. No program in sight. Conditions: as they stand. -/
import Derived.Test.YthmdibagcbbgoaaM31
import Derived.Test.YthmdibagcbbgoaaM33
import Derived.Test.YthmdibagcbbgoaaM35
namespace Go.Proofs.Ythmdibagcbbgoaa
open Go.RowKit

/-- Two ends, apart in memory. -/
structure Ends (B : Nat) (w : World) (a1 s1 r1 a2 s2 r2 : Nat) (t1 t2 : Lk) : Prop where
  ex : ∃ (ca : Nat → Nat) (oa ia : Value) (cb : Nat → Nat) (ob ib : Value), LkP B ca w a1 s1 r1 oa ia t1 ∧ LkP B cb w a2 s2 r2 ob ib t2 ∧ ∀ k, ca k ≠ 0 → cb k = 0
/-- Two ends, and two rows of controls that nobody turns. -/
structure EndsR (B : Nat) (w : World) (a1 s1 r1 a2 s2 r2 : Nat) (t1 t2 : Lk) (pv qv : Value) (p q : List Cn) : Prop where
  ex : ∃ (ca : Nat → Nat) (oa ia : Value) (cb : Nat → Nat) (ob ib : Value) (F : Nat → Prop), LkP B ca w a1 s1 r1 oa ia t1 ∧ LkP B cb w a2 s2 r2 ob ib t2 ∧ (∀ k, ca k ≠ 0 → cb k = 0) ∧ CtlsR F w pv p ∧ CtlsR F w qv q ∧ ∀ k, F k → k < w.heap.size ∧ ¬ (1 ≤ ca k ∧ ca k ≤ 5) ∧ ¬ (1 ≤ cb k ∧ cb k ≤ 5)
section
variable {B : Nat} {w w' : World} {a1 s1 r1 a2 s2 r2 : Nat} {t1 t2 t1' t2' : Lk} {pv qv oa ia ob ib : Value} {p q : List Cn} {ca cb : Nat → Nat} {F : Nat → Prop}
theorem EndsR.ends (h : EndsR B w a1 s1 r1 a2 s2 r2 t1 t2 pv qv p q) : Ends B w a1 s1 r1 a2 s2 r2 t1 t2 := by
  obtain ⟨ca, oa, ia, cb, ob, ib, F, h1, h2, h3, _⟩ := h.ex
  exact ⟨⟨ca, oa, ia, cb, ob, ib, h1, h2, h3⟩⟩
theorem ends_second (hA : LkP B ca w a1 s1 r1 oa ia t1) (hd : ∀ k, ca k ≠ 0 → cb k = 0) (hp : CtlsR F w pv p) (hq : CtlsR F w qv q) (hs : ∀ k, F k → k < w.heap.size ∧ ¬ (1 ≤ ca k ∧ ca k ≤ 5) ∧ ¬ (1 ≤ cb k ∧ cb k ≤ 5))
    (hto : LkTo B cb w a2 s2 r2 t2' w') : EndsR B w' a1 s1 r1 a2 s2 r2 t1 t2' pv qv p q := by
  obtain ⟨⟨c', o', i', h', hc'⟩, hf⟩ := hto
  refine ⟨⟨ca, oa, ia, c', o', i', F, hA.fr hf (fun k hk g => by have := hd k hk; omega), h', fun k hk => ?_, hp.fr hf (fun k hk => (hs k hk).2.2), hq.fr hf (fun k hk => (hs k hk).2.2), fun k hk => ?_⟩⟩
  · have h1 := hc' k (hA.cols.2 k hk).2
    have := hd k hk
    omega
  · obtain ⟨h1, h2, h3⟩ := hs k hk
    have := hc' k h1
    exact ⟨Nat.lt_of_lt_of_le h1 hf.size, h2, by omega⟩
theorem ends_first (hB : LkP B cb w a2 s2 r2 ob ib t2) (hd : ∀ k, ca k ≠ 0 → cb k = 0) (hp : CtlsR F w pv p) (hq : CtlsR F w qv q) (hs : ∀ k, F k → k < w.heap.size ∧ ¬ (1 ≤ ca k ∧ ca k ≤ 5) ∧ ¬ (1 ≤ cb k ∧ cb k ≤ 5))
    (hto : LkTo B ca w a1 s1 r1 t1' w') : EndsR B w' a1 s1 r1 a2 s2 r2 t1' t2 pv qv p q := by
  obtain ⟨⟨c', o', i', h', hc'⟩, hf⟩ := hto
  refine ⟨⟨c', o', i', cb, ob, ib, F, h', hB.fr hf (fun k hk g => by have := hd k (by omega); omega), fun k hk => ?_, hp.fr hf (fun k hk => (hs k hk).2.1), hq.fr hf (fun k hk => (hs k hk).2.1), fun k hk => ?_⟩⟩
  · by_cases hkl : k < w.heap.size
    · exact hd k (by rw [← hc' k hkl hk]; exact hk)
    · apply Classical.byContradiction
      intro hne
      exact hkl (hB.cols.2 k hne).2
  · obtain ⟨h1, h2, h3⟩ := hs k hk
    have := hc' k h1
    exact ⟨Nat.lt_of_lt_of_le h1 hf.size, by omega, h3⟩
theorem LkTo.bl (h : LkTo B ca w a1 s1 r1 t1' w') (hA : LkP B ca w a1 s1 r1 oa ia t1) : Below B w w' := fr_bl h.fr (fun k hk => (hA.cols.2 k (by omega)).1) hA.cols.1
theorem CtlsR.at_ {ao : Option Addr} {n cap : Nat} {l : List Cn} (h : CtlsR F w (.slice ao n cap) l) {i : Nat} {c : Cn} (hi : l[i]? = some c) : ∃ b x, ao = some ⟨b, 0, none⟩ ∧ F b ∧ Byt F w x c.data ∧
    w.cell? ⟨b, i * 7, none⟩ = some (.int .i64 c.kind) ∧ w.cell? ⟨b, i * 7 + 1, none⟩ = some (.int .i64 c.ns) ∧ w.cell? ⟨b, i * 7 + 2, none⟩ = some (.int .i64 c.nr) ∧ w.cell? ⟨b, i * 7 + 3, none⟩ = some (.bool c.p) ∧
    w.cell? ⟨b, i * 7 + 4, none⟩ = some (.int .i64 c.me) ∧ w.cell? ⟨b, i * 7 + 5, none⟩ = some (.int .i64 c.peer) ∧ w.cell? ⟨b, i * 7 + 6, none⟩ = some x := by
  obtain ⟨_, ao', cap', hv, _, hc⟩ := h
  cases hv
  obtain ⟨b, x, ha, hF, h1, h2⟩ := hc i c hi
  exact ⟨b, x, ha, hF, h2, h1 0 _ rfl, h1 1 _ rfl, h1 2 _ rfl, h1 3 _ rfl, h1 4 _ rfl, h1 5 _ rfl, h1 6 _ rfl⟩
theorem CtlsR.form {l : List Cn} {v : Value} (h : CtlsR F w v l) : ∃ ao cap, v = .slice ao l.length cap ∧ l.length ≤ cap := by
  obtain ⟨_, ao, cap, hv, hl, _⟩ := h
  exact ⟨ao, cap, hv, hl⟩
theorem pl_of {x : Value} {d : List Int} (h : Byt F w x d) (hs : ∀ k, F k → k < w.heap.size ∧ ¬ (1 ≤ ca k ∧ ca k ≤ 5)) : Pl ca w x d := ⟨h.1.1, h.2, fun _ k hk => hs k (h.1.2 k hk)⟩
end
theorem freed_nz {col : Nat → Nat} {d k : Nat} (h : freed d col k ≠ 0) : col k ≠ 0 := fun e => h (by unfold freed; split; rfl; exact e)
def Lk.outed (t : Lk) : Lk := { t with out := [] }
theorem recvAll_snoc {l : List Cn} {i : Nat} {c : Cn} (h : l[i]? = some c) (t : Lk) : (t.recvAll (l.take i)).recv c = t.recvAll (l.take (i + 1)) := by
  rw [take_snoc' h]
  unfold Lk.recvAll
  rw [List.foldl_append]
  rfl

set_option maxRecDepth 100000 in
set_option maxHeartbeats 4000000 in
theorem cross_any (B : Nat) (w : World) (a1 s1 r1 a2 s2 r2 : Nat) (t1 t2 : Lk) (h : Ends B w a1 s1 r1 a2 s2 r2 t1 t2) (ok1 : LkOk t1) (ok2 : LkOk t2) (l1 : t1.out.length ≤ 300) (l2 : t2.out.length ≤ 300) (n1 : t1.inn.length ≤ 1000) (n2 : t2.inn.length ≤ 1000) :
    Calls Try.prog 39 #[.pointer (some ⟨a1, 0, none⟩), .pointer (some ⟨a2, 0, none⟩)] w fun e w' => e = .returned (.bool (decide (0 < t1.out.length + t2.out.length))) ∧ Ends B w' a1 s1 r1 a2 s2 r2 (t1.outed.recvAll t2.out) (t2.outed.recvAll t1.out) ∧ Below B w w' := by
  obtain ⟨ca, oa, ia, cb, ob, ib, hA, hB, hd⟩ := h.ex
  have hnb : ∀ k, ca k ≠ 0 → k ≠ a2 := fun k hk e => by have := hd k hk; rw [e, hB.own] at this; omega
  have hna : ∀ k, cb k ≠ 0 → k ≠ a1 := fun k hk e => by
    have := hd a1 (by rw [hA.own]; omega)
    rw [e] at hk
    omega
  have f1 := fr_cell w a1 13 (.slice none 0 0)
  have f2 := fr_cell (w.setCell ⟨a1, 13, none⟩ (.slice none 0 0)) a2 13 (.slice none 0 0)
  have hB1 := hB.fr f1 hna
  have hA2 := hA.outed.fr f2 (fun k hk => hnb k (freed_nz hk))
  have hB2 := hB1.outed
  have HO1 := lout_any B ca w a1 s1 r1 oa ia t1 hA
  have HO2 := lout_any B cb _ a2 s2 r2 ob ib t2 hB1
  have hp := ((hA.out.read (by omega)).fr f1 (fun k hk e => by have := hA.own; subst e; omega)).fr f2 (fun k hk => hnb k (by omega))
  have hq := (hB1.out.read (by omega)).fr f2 (fun k hk e => by have := hB.own; subst e; omega)
  have hbl : Below B w ((w.setCell ⟨a1, 13, none⟩ (.slice none 0 0)).setCell ⟨a2, 13, none⟩ (.slice none 0 0)) := (fr_bl f1 (fun k hk => by subst hk; exact (hA.cols.2 k (by rw [hA.own]; omega)).1) hA.cols.1).trans (fr_bl f2 (fun k hk => by subst hk; exact (hB1.cols.2 k (by rw [hB1.own]; omega)).1) hB1.cols.1)
  have hsz := hbl.size
  have HE : Hid (EndsR B ((w.setCell ⟨a1, 13, none⟩ (.slice none 0 0)).setCell ⟨a2, 13, none⟩ (.slice none 0 0)) a1 s1 r1 a2 s2 r2 t1.outed (t2.outed.recvAll (t1.out.take 0)) oa ob t1.out t2.out) := by
    refine ⟨⟨_, _, _, _, _, _, fun k => (ca k = 4 ∨ ca k = 7) ∨ (cb k = 4 ∨ cb k = 7), hA2, hB2, fun k hk => ?_, hp.mono fun k hk => .inl hk, hq.mono fun k hk => .inr hk, fun k hk => ?_⟩⟩
    · have h0 := hd k (freed_nz hk)
      show freed 4 cb k = 0
      unfold freed
      rw [if_neg (by omega)]
      exact h0
    · have hlt : k < w.heap.size := by
        rcases hk with hk | hk
        · exact (hA.cols.2 k (by omega)).2
        · exact (hB.cols.2 k (by omega)).2
      refine ⟨by omega, fun g => ?_, fun g => ?_⟩
      · have := freed_ne (c := freed 4 ca k) rfl (by omega)
        have := hd k (by omega)
        omega
      · have h9 := freed_ne (c := freed 4 cb k) rfl (by omega)
        rcases hk with hk | hk
        · have := hd k (by omega); omega
        · omega
  obtain ⟨po, pc, rfl, hpc⟩ := hp.form
  obtain ⟨qo, qc, rfl, hqc⟩ := hq.form
  have HBL := Lib.hid hbl
  have OK1 := Lib.hid ok1
  have OK2 := Lib.hid ok2
  clear h hA hB hd hnb hna f1 f2 hB1 hA2 hB2 hp hq hbl hsz ok1 ok2
  go_enter Try.func39, Try.ntmps39
  go_wp2_with fail
  refine HO1.mono ?_
  rintro e w1 ⟨rfl, rfl⟩
  go_wp2_with fail
  refine HO2.mono ?_
  rintro e w2 ⟨rfl, rfl⟩
  clear HO1 HO2
  obtain ⟨W2, hW2⟩ : ∃ W2, ((w.setCell ⟨a1, 13, none⟩ (.slice none 0 0)).setCell ⟨a2, 13, none⟩ (.slice none 0 0)) = W2 := ⟨_, rfl⟩
  rw [hW2] at HE HBL
  try simp only [hW2]
  clear hW2
  go_wp2_with fail
  go_loopw [7] (fun iv wr => ∃ i : Nat, iv = .int .i64 i ∧ i ≤ t1.out.length ∧ Hid (EndsR B wr a1 s1 r1 a2 s2 r2 t1.outed (t2.outed.recvAll (t1.out.take i)) (.slice po t1.out.length pc) (.slice qo t2.out.length qc) t1.out t2.out) ∧ Hid (Below B w wr)) (fun iv _ => 400 - (intOf iv).toNat)
  case atStart => exact ⟨0, rfl, by omega, HE, HBL⟩
  case round =>
    clear HE HBL
    obtain ⟨i, rfl, hi, HE, HBL⟩ := hrel
    by_cases hlt : i < t1.out.length
    · obtain ⟨ca, oa, ia, cb, ob, ib, F, hA, hB, hd, hp, hq, hs⟩ := HE.out.ex
      obtain ⟨c, hc⟩ := get_some hlt
      obtain ⟨b, x, rfl, hFb, hx, d0, d1, d2, d3, d4, d5, d6⟩ := hp.at_ hc
      have hgr := (recvAll_grow (t1.out.take i) t2.outed) ⟨OK2.out.me, OK2.out.s, OK2.out.r⟩
      have hln : (t1.out.take i).length ≤ 300 := by rw [List.length_take]; omega
      obtain ⟨g1, g2, g3⟩ := hgr
      have e1 : t2.outed.out.length = 0 := rfl
      have e2 : t2.outed.inn.length = t2.inn.length := rfl
      have HR := lrecv_any B cb wr a2 s2 r2 ob ib _ hB g1.me g1.s g1.r c x (pl_of hx (fun k hk => ⟨(hs k hk).1, (hs k hk).2.2⟩)) (by omega) (by omega)
      rw [recvAll_snoc hc] at HR
      have HEN : Hid (∀ W, LkTo B cb wr a2 s2 r2 (t2.outed.recvAll (t1.out.take (i + 1))) W → EndsR B W a1 s1 r1 a2 s2 r2 t1.outed (t2.outed.recvAll (t1.out.take (i + 1))) (.slice (some ⟨b, 0, none⟩) t1.out.length pc) (.slice qo t2.out.length qc) t1.out t2.out ∧ Below B wr W) := fun W h => ⟨ends_second hA hd hp hq hs h, h.bl hB⟩
      have j1 : (i : Int) < (t1.out.length : Int) := by omega
      have j2 : (0 : Int) ≤ (i : Int) := by omega
      have j3 : (i : Int) ≤ 300 := by omega
      obtain ⟨xo, xc, rfl⟩ : ∃ xo xc, x = .slice xo c.data.length xc := by
        obtain ⟨⟨⟨_, ao, cap, h, _⟩, _⟩, _⟩ := hx
        exact ⟨ao, cap, h⟩
      clear hA hB hd hp hq hs hx hFb hc HE g1 g2 g3 e1 e2 hln
      go_wp2_with fail
      refine HR.mono ?_
      rintro e w4 ⟨rfl, h4⟩
      obtain ⟨h5, h6⟩ := HEN.out _ h4
      have H5 := Lib.hid h5
      have H6 : Hid (Below B w w4) := HBL.out.trans h6
      clear h4 h5 h6 HR HEN d0 d1 d2 d3 d4 d5 d6
      go_wp2
      go_roundw
      case rel => exact ⟨i + 1, by go_num, by omega, H5, H6⟩
      case measure => simp [intOf]; omega
    · obtain rfl : i = t1.out.length := by omega
      rw [List.take_length] at HE
      have HE2 : Hid (EndsR B wr a1 s1 r1 a2 s2 r2 (t1.outed.recvAll (t2.out.take 0)) (t2.outed.recvAll t1.out) (.slice po t1.out.length pc) (.slice qo t2.out.length qc) t1.out t2.out) := HE
      clear HE
      go_wp2_with fail
      go_loopw [8] (fun jv wr => ∃ j : Nat, jv = .int .i64 j ∧ j ≤ t2.out.length ∧ Hid (EndsR B wr a1 s1 r1 a2 s2 r2 (t1.outed.recvAll (t2.out.take j)) (t2.outed.recvAll t1.out) (.slice po t1.out.length pc) (.slice qo t2.out.length qc) t1.out t2.out) ∧ Hid (Below B w wr)) (fun jv _ => 400 - (intOf jv).toNat)
      case atStart => exact ⟨0, rfl, by omega, HE2, HBL⟩
      case round =>
        clear HE2 HBL
        obtain ⟨j, rfl, hj, HE, HBL⟩ := hrel
        by_cases hlt : j < t2.out.length
        · obtain ⟨ca, oa, ia, cb, ob, ib, F, hA, hB, hd, hp, hq, hs⟩ := HE.out.ex
          obtain ⟨c, hc⟩ := get_some hlt
          obtain ⟨b, x, rfl, hFb, hx, d0, d1, d2, d3, d4, d5, d6⟩ := hq.at_ hc
          have hgr := (recvAll_grow (t2.out.take j) t1.outed) ⟨OK1.out.me, OK1.out.s, OK1.out.r⟩
          have hln : (t2.out.take j).length ≤ 300 := by rw [List.length_take]; omega
          obtain ⟨g1, g2, g3⟩ := hgr
          have e1 : t1.outed.out.length = 0 := rfl
          have e2 : t1.outed.inn.length = t1.inn.length := rfl
          have HR := lrecv_any B ca wr a1 s1 r1 oa ia _ hA g1.me g1.s g1.r c x (pl_of hx (fun k hk => ⟨(hs k hk).1, (hs k hk).2.1⟩)) (by omega) (by omega)
          rw [recvAll_snoc hc] at HR
          have HEN : Hid (∀ W, LkTo B ca wr a1 s1 r1 (t1.outed.recvAll (t2.out.take (j + 1))) W → EndsR B W a1 s1 r1 a2 s2 r2 (t1.outed.recvAll (t2.out.take (j + 1))) (t2.outed.recvAll t1.out) (.slice po t1.out.length pc) (.slice (some ⟨b, 0, none⟩) t2.out.length qc) t1.out t2.out ∧ Below B wr W) := fun W h => ⟨ends_first hB hd hp hq hs h, h.bl hA⟩
          have j1 : (j : Int) < (t2.out.length : Int) := by omega
          have j2 : (0 : Int) ≤ (j : Int) := by omega
          have j3 : (j : Int) ≤ 300 := by omega
          obtain ⟨xo, xc, rfl⟩ : ∃ xo xc, x = .slice xo c.data.length xc := by
            obtain ⟨⟨⟨_, ao, cap, h, _⟩, _⟩, _⟩ := hx
            exact ⟨ao, cap, h⟩
          clear hA hB hd hp hq hs hx hFb hc HE g1 g2 g3 e1 e2 hln
          go_wp2_with fail
          refine HR.mono ?_
          rintro e w4 ⟨rfl, h4⟩
          obtain ⟨h5, h6⟩ := HEN.out _ h4
          have H5 := Lib.hid h5
          have H6 : Hid (Below B w w4) := HBL.out.trans h6
          clear h4 h5 h6 HR HEN d0 d1 d2 d3 d4 d5 d6
          go_wp2
          go_roundw
          case rel => exact ⟨j + 1, by go_num, by omega, H5, H6⟩
          case measure => simp [intOf]; omega
        · obtain rfl : j = t2.out.length := by omega
          rw [List.take_length] at HE
          have HEE : Hid (Ends B wr a1 s1 r1 a2 s2 r2 (t1.outed.recvAll t2.out) (t2.outed.recvAll t1.out)) := HE.out.ends
          clear HE
          have j4 : (t1.out.length : Int) ≤ 300 := by omega
          have j5 : (t2.out.length : Int) ≤ 300 := by omega
          go_wp2
          go_ret
          refine ⟨ret_bool ?_, HEE.out, HBL.out⟩
          simp
          omega

end Go.Proofs.Ythmdibagcbbgoaa

namespace Go.Proofs.Ythmdibagcbbgoaa
open Go.RowKit

def RowFrom (w : World) (B : Nat) (e : TypeId) (size : Nat) (v : Value) (n : Nat) (xs : List Value) : Prop :=
  xs.length = n * size ∧ ((v = .slice none 0 0 ∧ n = 0) ∨ ∃ g off cap cur, v = .slice (some ⟨g, off, none⟩) n cap ∧ B ≤ g ∧ w.heap[g]? = some (.cells cur e (0, 0)) ∧ n ≤ cap ∧ cap ≤ maxLen ∧ off + cap * size ≤ cur.size ∧ ∀ (j : Nat) (u : Value), xs[j]? = some u → cur[off + j]? = some u)
section
variable {w w' : World} {B : Nat} {e : TypeId} {size : Nat} {v : Value} {n : Nat} {xs : List Value}
theorem RowFrom.of (h : w.ownsRow B e size v n xs) : RowFrom w B e size v n xs := by
  refine ⟨h.1, ?_⟩
  rcases h.2 with h2 | ⟨g, cap, cur, hv, hb, hg, hle, hcap, hsz, ht⟩
  · exact .inl h2
  · refine .inr ⟨g, 0, cap, cur, hv, hb, hg, hle, hcap, by omega, fun j u hu => ?_⟩
    have hj := (List.getElem?_eq_some_iff.1 hu).1
    rw [h.1] at hj
    rw [← ht, List.getElem?_take, if_pos hj] at hu
    simpa using hu
theorem RowFrom.fr {F : Nat → Prop} (h : RowFrom w B e size v n xs) (hf : Fr F w w') (hn : ∀ k, v.ownBlock = some k → ¬ F k) : RowFrom w' B e size v n xs := by
  refine ⟨h.1, ?_⟩
  rcases h.2 with h2 | ⟨g, off, cap, cur, rfl, hb, hg, r⟩
  · exact .inl h2
  · exact .inr ⟨g, off, cap, cur, rfl, hb, hf.get hg (hn g rfl), r⟩
theorem RowFrom.form (h : RowFrom w B e size v n xs) : ∃ ao cap, v = .slice ao n cap ∧ n ≤ cap := by
  rcases h.2 with ⟨rfl, h0⟩ | ⟨g, off, cap, cur, rfl, _, _, h1, _⟩
  · exact ⟨none, 0, by rw [h0], by omega⟩
  · exact ⟨_, _, rfl, h1⟩
theorem RowFrom.cell {ao : Option Addr} {cap : Nat} (h : RowFrom w B e size (.slice ao n cap) n xs) {j : Nat} {u : Value} (hu : xs[j]? = some u) : ∃ g off, ao = some ⟨g, off, none⟩ ∧ w.cell? ⟨g, off + j, none⟩ = some u := by
  rcases h.2 with ⟨hv, h0⟩ | ⟨g, off, cap', cur, hv, _, hg, _, _, _, hc⟩
  · have hj := (List.getElem?_eq_some_iff.1 hu).1
    rw [h.1, h0] at hj
    omega
  · simp only [Value.slice.injEq] at hv
    obtain ⟨rfl, _, rfl⟩ := hv
    exact ⟨g, off, rfl, by rw [cell_of_row w g (off + j) cur e (0, 0) hg]; exact hc j u hu⟩
/-- The first element is cut off. -/
theorem RowFrom.cut {ao : Option Addr} {cap : Nat} (h : RowFrom w B e size (.slice ao (n + 1) cap) (n + 1) xs) : RowFrom w B e size (.slice (if cap = 1 then ao else ao.map (·.add (1 * size))) n (cap - 1)) n (xs.drop size) := by
  refine ⟨by rw [List.length_drop, h.1, Nat.add_mul]; omega, ?_⟩
  rcases h.2 with ⟨_, h0⟩ | ⟨g, off, cap', cur, hv, hb, hg, h1, h2, h3, hc⟩
  · omega
  · simp only [Value.slice.injEq] at hv
    obtain ⟨rfl, _, rfl⟩ := hv
    have hm : cap * size = (cap - 1) * size + size := by
      obtain ⟨k, rfl⟩ : ∃ k, cap = k + 1 := ⟨cap - 1, by omega⟩
      rw [Nat.add_mul]; simp
    by_cases h9 : cap = 1
    · subst h9
      have hn0 : n = 0 := by omega
      subst hn0
      refine .inr ⟨g, off, 0, cur, by simp, hb, hg, by omega, by omega, by omega, fun j u hu => ?_⟩
      have hj := (List.getElem?_eq_some_iff.1 hu).1
      rw [List.length_drop, h.1] at hj
      omega
    · refine .inr ⟨g, off + size, cap - 1, cur, by simp [h9, Addr.add_lit], hb, hg, by omega, by omega, by omega, fun j u hu => ?_⟩
      rw [List.getElem?_drop] at hu
      rw [Nat.add_assoc]
      exact hc _ u hu
theorem run_append_from {P : Program} (w : World) (B B' : Nat) (t ty e : TypeId) (i : TypeInfo) (z : Value) (size bytes : Nat) (ht : P.underlying t = some (.slice e)) (hi : P.info? e = some i) (hz : i.zero = some z)
    (hsize : i.size = size) (hby : i.bytes = bytes) (hzs : z.cells.size = size) (hsz : 0 < size)
    (v : Value) (n : Nat) (xs : List Value) (hR : RowFrom w B e size v n xs) (u : Value) (m : Nat) (news : List Value) (hU : w.ownsRow B' e size u m news) (h1 : ∀ x ∈ news, x.oneCell' = true)
    (h63 : n + m ≤ maxLen) (hbytes : (n + m) * bytes ≤ 140737488355328) (hbase : B ≤ w.heap.size) :
    ∃ v' w', (Builtin.append_ #[t, t] ty #[v, u]).run P w = .ok v' w' ∧ RowFrom w' B e size v' (n + m) (xs ++ news) ∧ w.grownBy w' v.ownBlock ∧ (∀ K, v'.ownBlock = some K → v.ownBlock = some K ∨ (w.heap.size ≤ K ∧ K < w'.heap.size)) := by
  subst hsize
  have hself : w.grownBy w v.ownBlock := ⟨rfl, rfl, rfl, Nat.le_refl _, fun _ _ _ => rfl⟩
  rcases hU.2 with ⟨rfl, h0⟩ | ⟨g', cap', cur', rfl, hb', hg', hle', hcm', hcs', ht'⟩
  · subst h0
    have hn0 : news = [] := List.eq_nil_of_length_eq_zero (by simpa using hU.1)
    subst hn0
    obtain ⟨ao, cap, rfl, hle⟩ := hR.form
    refine ⟨_, w, ?_, by simpa using hR, hself, fun K hK => .inl hK⟩
    simp [Builtin.append_, run_underlying ht, sizeOf, typeInfo, hi, Builtin.lenOf, Builtin.firstCells, loadCells, hle]
    cases ao with
    | none => rfl
    | some a => simp [storeCells]
  · have hnews : ∀ j x, news[j]? = some x → w.cell? ((⟨g', 0, none⟩ : Addr).add j) = some x := hU.cells (g := g') rfl
    rcases hR.2 with ⟨rfl, h0⟩ | ⟨g, off, cap, cur, rfl, hb, hg, hle, hcm, hfit, hc⟩
    · subst h0
      have hx0 : xs = [] := List.eq_nil_of_length_eq_zero (by simpa using hR.1)
      subst hx0
      obtain ⟨v', w', r1, r2, r3, _⟩ := run_append_own (P := P) w w.heap.size t ty e i z i.size bytes ht hi hz rfl hby hzs hsz (.slice none 0 0) 0 [] (World.ownsRow_nil _ _ _ _) ⟨g', 0, none⟩ m cap' news hU.1 hnews h1 h63 hbytes (Nat.le_refl _)
      refine ⟨v', w', r1, ?_, r3, fun K hK => .inr (r2.lt K hK)⟩
      · have := RowFrom.of r2
        refine ⟨this.1, ?_⟩
        rcases this.2 with h2 | ⟨g, off, cap, cur, e1, e2, e3⟩
        · exact .inl h2
        · exact .inr ⟨g, off, cap, cur, e1, by omega, e3⟩
    · by_cases hroom : n + m ≤ cap
      · have hnl : news.length = m * i.size := by rw [hU.1]
        have hmul : (n + m) * i.size ≤ cap * i.size := Nat.mul_le_mul_right _ hroom
        have hf := run_firstCells_some (P := P) w i.size m ⟨g', 0, none⟩ m cap' news hnl hnews
        have hst := run_storeCells_at P g (off + n * i.size) e news 0 cur w hg (by rw [hU.1]; rw [Nat.add_mul] at hmul; omega) h1
        simp only [Nat.add_zero] at hst
        have hlen : (xs ++ news).length = (n + m) * i.size := by rw [List.length_append, hR.1, hU.1, Nat.add_mul]
        refine ⟨.slice (some ⟨g, off, none⟩) (n + m) cap, w.setRow g (cur.toList.take (off + n * i.size) ++ news ++ cur.toList.drop (off + n * i.size + news.length)).toArray, ?_, ⟨hlen, .inr ⟨g, off, cap, _, rfl, hb, setRow_heap w g cur _ e _ hg, hroom, hcm, ?_, fun j u hu => ?_⟩⟩, ⟨rfl, rfl, rfl, by simp, fun k _ hk => setRow_other w g k _ (fun e => hk (by simp [Value.ownBlock, e]))⟩, fun K hK => .inl hK⟩
        · simp [Builtin.append_, run_underlying ht, sizeOf, typeInfo, hi, Builtin.lenOf, hroom, hf, Addr.add_lit, hst]
        · simp only [List.size_toArray, List.length_append, List.length_take, List.length_drop, Array.length_toList]
          omega
        · have hnm : off + n * i.size + m * i.size ≤ cur.size := by rw [Nat.add_mul] at hmul; omega
          rw [List.getElem?_toArray, List.append_assoc]
          by_cases hj : j < n * i.size
          · rw [List.getElem?_append_left (by rw [hR.1]; exact hj)] at hu
            rw [List.getElem?_append_left (by rw [List.length_take, Array.length_toList]; omega), List.getElem?_take, if_pos (by omega), Array.getElem?_toList]
            exact hc j u hu
          · have hj2 := (List.getElem?_eq_some_iff.1 hu).1
            rw [hlen, Nat.add_mul] at hj2
            rw [List.getElem?_append_right (by rw [hR.1]; omega), hR.1] at hu
            have hmin : min (off + n * i.size) cur.toList.length = off + n * i.size := by rw [Array.length_toList]; exact Nat.min_eq_left (by omega)
            rw [List.getElem?_append_right (by rw [List.length_take, hmin]; omega), List.length_take, hmin, List.getElem?_append_left (by rw [hU.1]; omega)]
            rw [← hu]
            congr 1
            omega
      · obtain ⟨v', w', r1, r2, r3⟩ := run_append_arg_grows (P := P) w t ty e i z i.size bytes ht hi hz rfl hby hzs hsz ⟨g, off, none⟩ n cap xs hR.1 (fun j u hu => by rw [Addr.add_lit, cell_of_row w g (off + j) cur e (0, 0) hg]; exact hc j u hu) ⟨g', 0, none⟩ m cap' news hU.1 hnews (by omega) h63 hbytes
        refine ⟨v', w', r1, ?_, ⟨r3.os, r3.tape, r3.output, r3.size, fun k hk _ => r3.block k hk (by simp)⟩, fun K hK => .inr (r2.lt K hK)⟩
        · have := RowFrom.of r2
          refine ⟨this.1, ?_⟩
          rcases this.2 with h2 | ⟨g, off, cap, cur, e1, e2, e3⟩
          · exact .inl h2
          · exact .inr ⟨g, off, cap, cur, e1, by omega, e3⟩
end

end Go.Proofs.Ythmdibagcbbgoaa

namespace Go.Proofs.Ythmdibagcbbgoaa
open Go.RowKit

/-- What an end is made of. -/
structure St where
  me : Nat
  size : Nat
  timer : Nat
  tries : Nat
structure St.Ok (a : St) : Prop where
  me : a.me ≤ 65535
  timer1 : 1 ≤ a.timer
  timer2 : a.timer ≤ 64
  tries1 : 1 ≤ a.tries
  tries2 : a.tries ≤ 64
  size1 : 1 ≤ a.size
  size2 : a.size ≤ 63
def St.met (a b : St) : Lk := ⟨a.me, b.me, true, a.size, a.timer, a.tries, 0, 0, 1, false, false, ⟨a.size, 0, [], 0⟩, ⟨a.size, 0, [], []⟩, [], []⟩
def St.half (a b : St) : Lk := ⟨a.me, b.me, false, a.size, a.timer, a.tries, a.timer, 0, 1, false, false, ⟨a.size, 0, [], 0⟩, ⟨a.size, 0, [], []⟩, [⟨6, 0, 0, false, a.me, b.me, []⟩], []⟩
def St.stage (a b : St) : Nat → Lk
  | 0 => Lk.new a.me a.size a.timer a.tries
  | 1 => a.half b
  | _ => a.met b
theorem chk5 {me : Nat} (h : me ≤ 65535) (p : Bool) : (⟨5, 0, 0, p, me, 0, []⟩ : Cn).chk = 0 := by
  show chkN 5 0 0 (me : Int) 0 0 = 0
  exact chk_0 (by omega) (by omega) (by omega) (by omega)
theorem chk6 {me peer : Nat} (h : me ≤ 65535) (h2 : peer ≤ 65535) (p : Bool) : (⟨6, 0, 0, p, me, peer, []⟩ : Cn).chk = 0 := by
  show chkN 6 0 0 (me : Int) (peer : Int) 0 = 0
  exact chk_0 (by omega) (by omega) (by omega) (by omega)
theorem new_out (a : St) : (Lk.new a.me a.size a.timer a.tries).out = [⟨5, 0, 0, false, a.me, 0, []⟩] := rfl
theorem stage_step {a b : St} (ha : a.Ok) (hb : b.Ok) : ∀ i : Nat, (a.stage b i).outed.recvAll (b.stage a i).out = a.stage b (i + 1)
  | 0 => by
    show (Lk.new a.me a.size a.timer a.tries).outed.recvAll (Lk.new b.me b.size b.timer b.tries).out = a.half b
    rw [new_out]
    show (Lk.new a.me a.size a.timer a.tries).outed.recv ⟨5, 0, 0, false, b.me, 0, []⟩ = a.half b
    unfold Lk.recv
    rw [if_neg (by rw [chk5 hb.me]; decide), if_pos rfl]
    have hs : (Lk.new a.me a.size a.timer a.tries).outed.sabmed (b.me : Int) = ⟨a.me, b.me, false, a.size, a.timer, a.tries, a.timer, 0, 1, false, false, ⟨a.size, 0, [], 0⟩, ⟨a.size, 0, [], []⟩, [], []⟩ := by
      unfold Lk.sabmed
      rw [if_neg (by show ¬ (b.me : Int) = -1; omega)]
      have hw : wrap64 ((0 : Int) + 1) = 1 := by decide +kernel
      show ({ ({ (Lk.new a.me a.size a.timer a.tries).outed with peer := (b.me : Int) } : Lk).reset with left := if false = true then 0 else a.timer } : Lk) = _
      unfold Lk.reset
      show Lk.mk a.me b.me false a.size a.timer a.tries (if false = true then 0 else a.timer) 0 (wrap64 ((0 : Int) + 1)) false false ⟨a.size, 0, [], 0⟩ ⟨a.size, 0, [], []⟩ [] [] = _
      rw [hw]
      rfl
    show (Lk.new a.me a.size a.timer a.tries).outed.sabme (b.me : Int) false = a.half b
    unfold Lk.sabme
    rw [hs]
    rfl
  | 1 => by
    show (a.half b).outed.recv ⟨6, 0, 0, false, b.me, a.me, []⟩ = a.met b
    unfold Lk.recv
    rw [if_neg (by rw [chk6 hb.me ha.me]; decide), if_neg (by show ¬ (6 : Int) = 5; decide), if_pos rfl]
    show (a.half b).outed.ua (a.me : Int) (b.me : Int) = a.met b
    unfold Lk.ua
    rw [if_pos ⟨rfl, rfl⟩, if_pos (show (b.me : Int) = (a.half b).outed.peer from rfl)]
    rfl
  | _ + 2 => rfl
theorem stage_ok {a b : St} (ha : a.Ok) : ∀ i : Nat, LkOk (a.stage b i) ∧ (a.stage b i).out.length ≤ 1 ∧ (a.stage b i).inn.length = 0 := by
  have hs : (⟨a.size, 0, [], 0⟩ : Snd).Ok := ⟨ha.size1, ha.size2, by simp, by simp, by simp, by simp, by simp⟩
  have hr : (⟨a.size, 0, [], []⟩ : Rcv).Ok := new_ok ha.size1 ha.size2
  have hme : a.me < 65536 := by have := ha.me; omega
  intro i
  match i with
  | 0 => exact ⟨⟨hme, hs, hr⟩, by show [_].length ≤ 1; simp, rfl⟩
  | 1 => exact ⟨⟨hme, hs, hr⟩, by show [_].length ≤ 1; simp, rfl⟩
  | _ + 2 => exact ⟨⟨hme, hs, hr⟩, by show (0 : Nat) ≤ 1; omega, rfl⟩

end Go.Proofs.Ythmdibagcbbgoaa
