/- (*link.Link).Out, In, Up, Me, Peer, Pending, Resets; link.New. portagelaw09.cross: all that both ends sent comes to the other one. Conditions: as they stand. -/
import Derived.Test.YthmdibagcbbgoaaM18
import Derived.Test.YthmdibagcbbgoaaM31
namespace Go.Proofs.Ythmdibagcbbgoaa
open Go.RowKit

/-- A row of controls that nobody turns any more: its cells and its payloads lie in F. -/
def CtlsR (F : Nat → Prop) (w : World) (v : Value) (l : List Cn) : Prop :=
  l.length ≤ maxLen ∧ ∃ ao cap, v = .slice ao l.length cap ∧ l.length ≤ cap ∧ ∀ (i : Nat) (c : Cn), l[i]? = some c → ∃ b x, ao = some ⟨b, 0, none⟩ ∧ F b ∧ (∀ (j : Nat) (y : Value), (c.agg x)[j]? = some y → w.cell? ⟨b, i * 7 + j, none⟩ = some y) ∧ Byt F w x c.data
theorem CtlsR.fr {F G : Nat → Prop} {w w' : World} {v : Value} {l : List Cn} (h : CtlsR F w v l) (hf : Fr G w w') (hd : ∀ k, F k → ¬ G k) : CtlsR F w' v l := by
  obtain ⟨hm, ao, cap, hv, hl, hc⟩ := h
  refine ⟨hm, ao, cap, hv, hl, fun i c hi => ?_⟩
  obtain ⟨b, x, ha, hF, h1, h2⟩ := hc i c hi
  exact ⟨b, x, ha, hF, fun j y hy => hf.cell (h1 j y hy) (hd b hF), h2.fr hf hd⟩
theorem CtlsR.mono {F G : Nat → Prop} {w : World} {v : Value} {l : List Cn} (h : CtlsR F w v l) (hd : ∀ k, F k → G k) : CtlsR G w v l := by
  obtain ⟨hm, ao, cap, hv, hl, hc⟩ := h
  refine ⟨hm, ao, cap, hv, hl, fun i c hi => ?_⟩
  obtain ⟨b, x, ha, hF, h1, h2⟩ := hc i c hi
  exact ⟨b, x, ha, hd b hF, h1, h2.mono hd⟩
theorem CtlsAt.read {B : Nat} {col : Nat → Nat} {d : Nat} {w : World} {v : Value} {l : List Cn} (h : CtlsAt B col d w v l) (hm : l.length ≤ 1000000) : CtlsR (fun k => col k = d ∨ col k = 7) w v l := by
  obtain ⟨cs, h2, h3, h4⟩ := h
  obtain ⟨ao, cap, hv⟩ := rc_form h2
  have hcap : l.length ≤ cap := by
    rcases h2.2 with ⟨e, h0⟩ | ⟨g, cap', cur, e, _, _, h5, _⟩
    · omega
    · rw [hv] at e; cases e; exact h5
  refine ⟨by unfold maxLen; omega, ao, cap, hv, hcap, fun i c hi => ?_⟩
  obtain ⟨x, g0, g1⟩ := h4 i c hi
  have hl : i < l.length := (List.getElem?_eq_some_iff.1 hi).1
  obtain ⟨g, hg⟩ : ∃ g, ao = some ⟨g, 0, none⟩ := by
    rcases h2.2 with ⟨e, h0⟩ | ⟨g, cap', cur, e, _⟩
    · omega
    · rw [hv] at e; cases e; exact ⟨g, rfl⟩
  subst hg
  subst hv
  refine ⟨g, x, rfl, .inl (h3 g rfl), fun j y hy => ?_, g1.mono fun k hk => .inr hk⟩
  have := h2.cells (g := g) rfl _ _ (g0 j y hy)
  rw [Addr.add_lit] at this
  simpa using this

section
variable {B : Nat} {col : Nat → Nat} {w w' : World} {a sg rg : Nat} {ov iv : Value} {t : Lk} {G : Nat → Prop}
/-- Nothing of it was turned. -/
theorem LkP.fr (h : LkP B col w a sg rg ov iv t) (hf : Fr G w w') (hd : ∀ k, col k ≠ 0 → ¬ G k) : LkP B col w' a sg rg ov iv t :=
  ⟨h.cols.grow hf.size, h.own, hf.get h.hb (hd _ (by rw [h.own]; omega)), h.snd.fr hf (fun k hk => hd k (by omega)), h.rcv.fr hf (fun k hk => hd k (by omega)), h.out.fr hf (fun k hk => hd k (by omega)), h.inn.fr hf (fun k hk => hd k (by omega))⟩
/-- The blocks of one colour are let go. -/
def freed (d : Nat) (col : Nat → Nat) : Nat → Nat := fun k => if col k = d then 0 else col k
theorem freed_ne {d c k : Nat} (h : freed d col k = c) (hc : c ≠ 0) : col k = c ∧ c ≠ d := by
  unfold freed at h
  split at h
  · omega
  · exact ⟨h, by omega⟩
theorem freed_of {d c k : Nat} (h : col k = c) (hc : c ≠ d) : freed d col k = c := by unfold freed; rw [if_neg (by omega)]; exact h
theorem rows_freed {d c : Nat} {v : Value} {ps : List (List Int)} (h : RowsAt B col c w v ps) (h1 : c ≠ d) (h7 : d ≠ 7) : RowsAt B (freed d col) c w v ps := by
  obtain ⟨vs, p1, p2, p3, p4⟩ := h
  exact ⟨vs, p1, p2, fun k hk => freed_of (p3 k hk) h1, fun i x p hx hp => (p4 i x p hx hp).mono fun k hk => freed_of hk (by omega)⟩
theorem ctls_freed {d c : Nat} {v : Value} {l : List Cn} (h : CtlsAt B col c w v l) (h1 : c ≠ d) (h7 : d ≠ 7) : CtlsAt B (freed d col) c w v l := by
  obtain ⟨cs, h2, h3, h4⟩ := h
  refine ⟨cs, h2, fun k hk => freed_of (h3 k hk) h1, fun i c hc => ?_⟩
  obtain ⟨x, g0, g1⟩ := h4 i c hc
  exact ⟨x, g0, g1.mono fun k hk => freed_of hk (by omega)⟩
theorem snd_freed {d : Nat} {s : Snd} (h : SndAt (fun k => col k = 2) w sg s) (h1 : 2 ≠ d) : SndAt (fun k => freed d col k = 2) w sg s :=
  h.mono (fun k hk => freed_of hk h1) (fun k hk => h.1 k (freed_ne hk (by omega)).1)
theorem rcv_freed {d : Nat} {r : Rcv} (h : RcvAt (fun k => col k = 3) (fun k => col k = 7) w rg r) (h1 : 3 ≠ d) (h7 : 7 ≠ d) : RcvAt (fun k => freed d col k = 3) (fun k => freed d col k = 7) w rg r :=
  h.mono (fun k hk => freed_of hk h1) (fun k hk => freed_of hk h7) (fun k hk e => by have := (freed_ne hk (by omega)).1; have := (freed_ne e (by omega)).1; omega)
theorem cols_freed {d : Nat} (h : Cols B col w) : Cols B (freed d col) w := ⟨h.1, fun k hk => h.2 k (fun e => hk (by unfold freed; split; rfl; exact e))⟩
/-- What it sent was taken. -/
theorem LkP.outed (h : LkP B col w a sg rg ov iv t) : LkP B (freed 4 col) (w.setCell ⟨a, 13, none⟩ (.slice none 0 0)) a sg rg (.slice none 0 0) iv { t with out := [] } := by
  have hq := fr_cell w a 13 (.slice none 0 0)
  have ho : freed 4 col a = 1 := freed_of h.own (by omega)
  have hn : ∀ k, freed 4 col k ≠ 1 → ¬ k = a := fun k hk e => hk (e ▸ ho)
  exact ⟨(cols_freed h.cols).grow hq.size, ho, by rw [set_obj _ _ _ _ _ _ h.hb]; rfl, (snd_freed h.snd (by omega)).fr hq (fun k hk => hn k (by omega)), (rcv_freed h.rcv (by omega) (by omega)).fr hq (fun k hk => hn k (by omega)),
    ⟨[], ⟨rfl, .inl ⟨rfl, rfl⟩⟩, fun k hk => by simp [Value.ownBlock] at hk, fun i c hc => by simp at hc⟩, (rows_freed h.inn (by omega) (by omega)).fr hq (fun k hk => hn k (by omega))⟩
/-- What came in was taken. -/
theorem LkP.inned (h : LkP B col w a sg rg ov iv t) : LkP B (freed 5 col) (w.setCell ⟨a, 14, none⟩ (.slice none 0 0)) a sg rg ov (.slice none 0 0) { t with inn := [] } := by
  have hq := fr_cell w a 14 (.slice none 0 0)
  have ho : freed 5 col a = 1 := freed_of h.own (by omega)
  have hn : ∀ k, freed 5 col k ≠ 1 → ¬ k = a := fun k hk e => hk (e ▸ ho)
  exact ⟨(cols_freed h.cols).grow hq.size, ho, by rw [set_obj _ _ _ _ _ _ h.hb]; rfl, (snd_freed h.snd (by omega)).fr hq (fun k hk => hn k (by omega)), (rcv_freed h.rcv (by omega) (by omega)).fr hq (fun k hk => hn k (by omega)),
    (ctls_freed h.out (by omega) (by omega)).fr hq (fun k hk => hn k (by omega)), ⟨[], rfl, ⟨rfl, .inl ⟨rfl, rfl⟩⟩, fun k hk => by simp [Value.ownBlock] at hk, fun i x p hx => by simp at hx⟩⟩
end

set_option maxRecDepth 100000 in
set_option maxHeartbeats 2000000 in
theorem lout_any (B : Nat) (col : Nat → Nat) (w : World) (a sg rg : Nat) (ov iv : Value) (t : Lk) (h : LkP B col w a sg rg ov iv t) :
    Calls Try.prog 11 #[.pointer (some ⟨a, 0, none⟩)] w fun e w' => e = .returned ov ∧ w' = w.setCell ⟨a, 13, none⟩ (.slice none 0 0) := by
  have e13 := h.c13
  have z13 := h.frozen 13
  obtain ⟨cs, v2, _⟩ := h.out
  obtain ⟨oo, oc, rfl⟩ := rc_form v2
  clear h v2
  go_enter Try.func11, Try.ntmps11
  go_wp2
  go_ret
  exact ⟨rfl, rfl⟩

set_option maxRecDepth 100000 in
set_option maxHeartbeats 2000000 in
theorem lin_any (B : Nat) (col : Nat → Nat) (w : World) (a sg rg : Nat) (ov iv : Value) (t : Lk) (h : LkP B col w a sg rg ov iv t) :
    Calls Try.prog 12 #[.pointer (some ⟨a, 0, none⟩)] w fun e w' => e = .returned iv ∧ w' = w.setCell ⟨a, 14, none⟩ (.slice none 0 0) := by
  have e14 := h.c14
  have z14 := h.frozen 14
  obtain ⟨cs, v1, v2, _⟩ := h.inn
  obtain ⟨oo, oc, hv⟩ := rc_form v2
  rw [v1] at hv
  subst hv
  clear h v2 v1
  go_enter Try.func12, Try.ntmps12
  go_wp2
  go_ret
  exact ⟨rfl, rfl⟩

section
variable (B : Nat) (col : Nat → Nat) (w : World) (a sg rg : Nat) (ov iv : Value) (t : Lk) (h : LkP B col w a sg rg ov iv t)
include h
theorem lup_any : Calls Try.prog 13 #[.pointer (some ⟨a, 0, none⟩)] w fun e w' => e = .returned (.bool t.up) ∧ w = w' := by
  have e2 := h.c2
  clear h
  go_enter Try.func13, Try.ntmps13
  go_wp2
  go_ret
  exact ⟨rfl, rfl⟩
theorem lme_any : Calls Try.prog 14 #[.pointer (some ⟨a, 0, none⟩)] w fun e w' => e = .returned (.int .i64 t.me) ∧ w = w' := by
  have e0 := h.c0
  clear h
  go_enter Try.func14, Try.ntmps14
  go_wp2
  go_ret
  exact ⟨rfl, rfl⟩
theorem lpeer_any : Calls Try.prog 15 #[.pointer (some ⟨a, 0, none⟩)] w fun e w' => e = .returned (.int .i64 t.peer) ∧ w = w' := by
  have e1 := h.c1
  clear h
  go_enter Try.func15, Try.ntmps15
  go_wp2
  go_ret
  exact ⟨rfl, rfl⟩
theorem lpending_any : Calls Try.prog 17 #[.pointer (some ⟨a, 0, none⟩)] w fun e w' => e = .returned (.int .i64 t.s.ps.length) ∧ w = w' := by
  have e11 := h.c11
  have HL := slen_any _ sg t.s w h.snd
  clear h
  go_enter Try.func17, Try.ntmps17
  go_wp2_with fail
  refine HL.mono ?_
  rintro e w2 ⟨rfl, rfl⟩
  go_wp2
  go_ret
  exact ⟨rfl, rfl⟩
end

/-- A new end, ahead of its setup. -/
def Lk.blank (me size timer tries : Nat) : Lk := ⟨me, -1, false, size, timer, tries, 0, 0, 0, false, false, ⟨size, 0, [], 0⟩, ⟨size, 0, [], []⟩, [], []⟩
def Lk.new (me size timer tries : Nat) : Lk := (Lk.blank me size timer tries).setup false

theorem blank_at {B me size timer tries : Nat} {w w1 w2 : World} (hB : B ≤ w.heap.size) (hs : SndAt (fun k => k = w.heap.size) w1 w.heap.size ⟨size, 0, [], 0⟩) (hb : Below w.heap.size w w1)
    (hr : RcvAt (fun k => w1.heap.size ≤ k ∧ k < w2.heap.size) (fun _ => False) w2 w1.heap.size ⟨size, 0, [], []⟩) (hb2 : Below w1.heap.size w1 w2) :
    ∃ col, LkP B col (w2.alloc (.cells ((Lk.blank me size timer tries).cells w.heap.size w1.heap.size (.slice none 0 0) (.slice none 0 0)) 65)) w2.heap.size w.heap.size w1.heap.size (.slice none 0 0) (.slice none 0 0) (Lk.blank me size timer tries) ∧ (∀ k, k < w.heap.size → col k = 0) ∧
      Below w.heap.size w (w2.alloc (.cells ((Lk.blank me size timer tries).cells w.heap.size w1.heap.size (.slice none 0 0) (.slice none 0 0)) 65)) := by
  have hsz := hb.size
  have hsl := hs.1 _ rfl
  have hrl : w1.heap.size < w2.heap.size := by
    obtain ⟨mb, ab, fk, hp⟩ := hr
    exact lt_of_get hp.hb
  have hb3 := bl_alloc (bl_refl w2) (.cells ((Lk.blank me size timer tries).cells w.heap.size w1.heap.size (.slice none 0 0) (.slice none 0 0)) 65)
  have hbx := heap_alloc_new w2 (.cells ((Lk.blank me size timer tries).cells w.heap.size w1.heap.size (.slice none 0 0) (.slice none 0 0)) 65)
  have hs3 := lt_of_get hbx
  generalize w2.alloc (.cells ((Lk.blank me size timer tries).cells w.heap.size w1.heap.size (.slice none 0 0) (.slice none 0 0)) 65) = W at hb3 hbx hs3
  refine ⟨fun k => if k = w.heap.size then 2 else if w1.heap.size ≤ k ∧ k < w2.heap.size then 3 else if k = w2.heap.size then 1 else 0, ⟨⟨by omega, fun k hk => ?_⟩, ?_, hbx, ?_, ?_, ⟨[], ⟨rfl, .inl ⟨rfl, rfl⟩⟩, fun k hk => by simp [Value.ownBlock] at hk, fun i c hc => by simp [Lk.blank] at hc⟩, ⟨[], rfl, ⟨rfl, .inl ⟨rfl, rfl⟩⟩, fun k hk => by simp [Value.ownBlock] at hk, fun i x p hx => by simp at hx⟩⟩, fun k hk => ?_, ?_⟩
  · show B ≤ k ∧ k < W.heap.size
    by_cases g1 : k = w.heap.size
    · omega
    by_cases g2 : w1.heap.size ≤ k ∧ k < w2.heap.size
    · omega
    by_cases g3 : k = w2.heap.size
    · omega
    · exact absurd (by show (if k = w.heap.size then 2 else if w1.heap.size ≤ k ∧ k < w2.heap.size then 3 else if k = w2.heap.size then 1 else 0) = 0; rw [if_neg g1, if_neg g2, if_neg g3]) hk
  · show (if w2.heap.size = w.heap.size then 2 else if w1.heap.size ≤ w2.heap.size ∧ w2.heap.size < w2.heap.size then 3 else if w2.heap.size = w2.heap.size then 1 else 0) = 1
    rw [if_neg (by omega), if_neg (by omega), if_pos rfl]
  · refine ((hs.below hb2).below hb3).mono (fun k hk => ?_) (fun k hk => ?_)
    · rw [if_pos hk]
    · by_cases g1 : k = w.heap.size
      · omega
      · rw [if_neg g1] at hk
        by_cases g2 : w1.heap.size ≤ k ∧ k < w2.heap.size
        · omega
        · rw [if_neg g2] at hk
          by_cases g3 : k = w2.heap.size
          · omega
          · rw [if_neg g3] at hk
            omega
  · refine (hr.below hb3).mono (fun k hk => ?_) (fun k hk => hk.elim) (fun k hk e => by omega)
    show (if k = w.heap.size then 2 else if w1.heap.size ≤ k ∧ k < w2.heap.size then 3 else if k = w2.heap.size then 1 else 0) = 3
    rw [if_neg (by omega), if_pos hk]
  · show (if k = w.heap.size then 2 else if w1.heap.size ≤ k ∧ k < w2.heap.size then 3 else if k = w2.heap.size then 1 else 0) = 0
    rw [if_neg (by omega), if_neg (by omega), if_neg (by omega)]
  · exact (hb.trans (hb2.mono hsz)).trans (hb3.mono (by omega))

set_option maxRecDepth 100000 in
set_option maxHeartbeats 2000000 in
theorem lnew_ok (me size timer tries : Nat) (h1 : me ≤ 65535) (h2 : 1 ≤ timer) (h3 : timer ≤ 64) (h4 : 1 ≤ tries) (h5 : tries ≤ 64) (h6 : 1 ≤ size) (h7 : size ≤ 63) (B : Nat) (w : World) (hB : B ≤ w.heap.size) :
    Calls Try.prog 40 #[.int .i64 me, .int .i64 size, .int .i64 timer, .int .i64 tries] w fun e w' => ∃ a sg rg col ov iv, e = .returned (.tuple #[.pointer (some ⟨a, 0, none⟩), .int .i64 0]) ∧ LkP B col w' a sg rg ov iv (Lk.new me size timer tries) ∧ (∀ k, k < w.heap.size → col k = 0) ∧ Below w.heap.size w w' := by
  have HS := Lib.hid (snew_ok size h6 h7 w)
  have i1 : (me : Int) ≤ 65535 := by omega
  have i2 : (1 : Int) ≤ (timer : Int) := by omega
  have i3 : (timer : Int) ≤ 64 := by omega
  have i4 : (1 : Int) ≤ (tries : Int) := by omega
  have i5 : (tries : Int) ≤ 64 := by omega
  go_enter Try.func40, Try.ntmps40
  go_wp2_with fail
  refine HS.out.mono ?_
  rintro e w1 ⟨rfl, hs, hb⟩
  have hsz := hb.size
  have hsl := hs.1 _ rfl
  have HS1 := Lib.hid hs
  have HB1 := Lib.hid hb
  clear hs hb
  go_wp2_with fail
  refine (rcnew_ok size h6 h7 w1).mono ?_
  rintro e w2 ⟨rfl, hr, hb2⟩
  obtain ⟨col, hp, hcol, hball⟩ := blank_at (me := me) (timer := timer) (tries := tries) hB HS1.out HB1.out hr hb2
  have HC := Lib.hid hcol
  have HBA := Lib.hid hball
  have HSET := lsetup_any B col _ _ _ _ _ _ _ hp false (by show (0 : Nat) ≤ _; omega)
  have HCC := Lib.hid hp.cols
  clear hr hb2 hp hcol hball
  go_wp2_with fail
  refine HSET.mono ?_
  rintro e w4 ⟨⟨v, rfl⟩, h4⟩
  obtain ⟨c4, o4, i4, hp4, hc4, HF4, _⟩ := h4.openf
  have HP4 := Lib.hid hp4
  have HC4 : Hid (∀ k, k < w.heap.size → c4 k = 0) := fun k hk => by
    have h9 := hc4 k (Nat.lt_of_lt_of_le hk HBA.out.size)
    have h8 := HC.out k hk
    omega
  have HB4 : Hid (Below w.heap.size w w4) := HBA.out.trans (fr_bl HF4.out (fun k hk => by
    rcases Nat.lt_or_ge k w.heap.size with h | h
    · have := HC.out k h; omega
    · exact h) HBA.out.size)
  clear h4 hp4 hc4 HSET
  go_wp2
  go_ret2
  exact ⟨_, _, _, _, _, _, rfl, HP4.out, HC4.out, HB4.out⟩

end Go.Proofs.Ythmdibagcbbgoaa

namespace Go.Proofs.Ythmdibagcbbgoaa
open Go.RowKit

/-- Two ends, apart in memory. -/
structure Ends (B : Nat) (w : World) (a1 s1 r1 a2 s2 r2 : Nat) (t1 t2 : Lk) : Prop where
  ex : ∃ (ca : Nat → Nat) (oa ia : Value) (cb : Nat → Nat) (ob ib : Value), LkP B ca w a1 s1 r1 oa ia t1 ∧ LkP B cb w a2 s2 r2 ob ib t2 ∧ ∀ k, ca k ≠ 0 → cb k = 0
/-- Two ends, and two rows of controls that nobody turns. -/
structure EndsR (B : Nat) (w : World) (a1 s1 r1 a2 s2 r2 : Nat) (t1 t2 : Lk) (pv qv : Value) (p q : List Cn) : Prop where
  ex : ∃ (ca : Nat → Nat) (oa ia : Value) (cb : Nat → Nat) (ob ib : Value) (F : Nat → Prop), LkP B ca w a1 s1 r1 oa ia t1 ∧ LkP B cb w a2 s2 r2 ob ib t2 ∧ (∀ k, ca k ≠ 0 → cb k = 0) ∧ CtlsR F w pv p ∧ CtlsR F w qv q ∧ ∀ k, F k → k < w.heap.size ∧ ¬ (1 ≤ ca k ∧ ca k ≤ 5) ∧ ¬ (1 ≤ cb k ∧ cb k ≤ 5)
section
variable {B : Nat} {w w' : World} {a1 s1 r1 a2 s2 r2 : Nat} {t1 t2 t1' t2' : Lk} {pv qv oa ia ob ib : Value} {p q : List Cn} {ca cb : Nat → Nat} {F : Nat → Prop}
theorem EndsR.ends (h : EndsR B w a1 s1 r1 a2 s2 r2 t1 t2 pv qv p q) : Ends B w a1 s1 r1 a2 s2 r2 t1 t2 := by
  obtain ⟨ca, oa, ia, cb, ob, ib, F, h1, h2, h3, _⟩ := h.ex
  exact ⟨⟨ca, oa, ia, cb, ob, ib, h1, h2, h3⟩⟩
theorem ends_second (hA : LkP B ca w a1 s1 r1 oa ia t1) (hd : ∀ k, ca k ≠ 0 → cb k = 0) (hp : CtlsR F w pv p) (hq : CtlsR F w qv q) (hs : ∀ k, F k → k < w.heap.size ∧ ¬ (1 ≤ ca k ∧ ca k ≤ 5) ∧ ¬ (1 ≤ cb k ∧ cb k ≤ 5))
    (hto : LkTo B cb w a2 s2 r2 t2' w') : EndsR B w' a1 s1 r1 a2 s2 r2 t1 t2' pv qv p q := by
  obtain ⟨⟨c', o', i', h', hc'⟩, hf⟩ := hto
  refine ⟨⟨ca, oa, ia, c', o', i', F, hA.fr hf (fun k hk g => by have := hd k hk; omega), h', fun k hk => ?_, hp.fr hf (fun k hk => (hs k hk).2.2), hq.fr hf (fun k hk => (hs k hk).2.2), fun k hk => ?_⟩⟩
  · have h1 := hc' k (hA.cols.2 k hk).2
    have := hd k hk
    omega
  · obtain ⟨h1, h2, h3⟩ := hs k hk
    have := hc' k h1
    exact ⟨Nat.lt_of_lt_of_le h1 hf.size, h2, by omega⟩
theorem ends_first (hB : LkP B cb w a2 s2 r2 ob ib t2) (hd : ∀ k, ca k ≠ 0 → cb k = 0) (hp : CtlsR F w pv p) (hq : CtlsR F w qv q) (hs : ∀ k, F k → k < w.heap.size ∧ ¬ (1 ≤ ca k ∧ ca k ≤ 5) ∧ ¬ (1 ≤ cb k ∧ cb k ≤ 5))
    (hto : LkTo B ca w a1 s1 r1 t1' w') : EndsR B w' a1 s1 r1 a2 s2 r2 t1' t2 pv qv p q := by
  obtain ⟨⟨c', o', i', h', hc'⟩, hf⟩ := hto
  refine ⟨⟨c', o', i', cb, ob, ib, F, h', hB.fr hf (fun k hk g => by have := hd k (by omega); omega), fun k hk => ?_, hp.fr hf (fun k hk => (hs k hk).2.1), hq.fr hf (fun k hk => (hs k hk).2.1), fun k hk => ?_⟩⟩
  · by_cases hkl : k < w.heap.size
    · exact hd k (by rw [← hc' k hkl hk]; exact hk)
    · apply Classical.byContradiction
      intro hne
      exact hkl (hB.cols.2 k hne).2
  · obtain ⟨h1, h2, h3⟩ := hs k hk
    have := hc' k h1
    exact ⟨Nat.lt_of_lt_of_le h1 hf.size, by omega, h3⟩
theorem LkTo.bl (h : LkTo B ca w a1 s1 r1 t1' w') (hA : LkP B ca w a1 s1 r1 oa ia t1) : Below B w w' := fr_bl h.fr (fun k hk => (hA.cols.2 k (by omega)).1) hA.cols.1
theorem CtlsR.at_ {ao : Option Addr} {n cap : Nat} {l : List Cn} (h : CtlsR F w (.slice ao n cap) l) {i : Nat} {c : Cn} (hi : l[i]? = some c) : ∃ b x, ao = some ⟨b, 0, none⟩ ∧ F b ∧ Byt F w x c.data ∧
    w.cell? ⟨b, i * 7, none⟩ = some (.int .i64 c.kind) ∧ w.cell? ⟨b, i * 7 + 1, none⟩ = some (.int .i64 c.ns) ∧ w.cell? ⟨b, i * 7 + 2, none⟩ = some (.int .i64 c.nr) ∧ w.cell? ⟨b, i * 7 + 3, none⟩ = some (.bool c.p) ∧
    w.cell? ⟨b, i * 7 + 4, none⟩ = some (.int .i64 c.me) ∧ w.cell? ⟨b, i * 7 + 5, none⟩ = some (.int .i64 c.peer) ∧ w.cell? ⟨b, i * 7 + 6, none⟩ = some x := by
  obtain ⟨_, ao', cap', hv, _, hc⟩ := h
  cases hv
  obtain ⟨b, x, ha, hF, h1, h2⟩ := hc i c hi
  exact ⟨b, x, ha, hF, h2, h1 0 _ rfl, h1 1 _ rfl, h1 2 _ rfl, h1 3 _ rfl, h1 4 _ rfl, h1 5 _ rfl, h1 6 _ rfl⟩
theorem CtlsR.form {l : List Cn} {v : Value} (h : CtlsR F w v l) : ∃ ao cap, v = .slice ao l.length cap ∧ l.length ≤ cap := by
  obtain ⟨_, ao, cap, hv, hl, _⟩ := h
  exact ⟨ao, cap, hv, hl⟩
theorem pl_of {x : Value} {d : List Int} (h : Byt F w x d) (hs : ∀ k, F k → k < w.heap.size ∧ ¬ (1 ≤ ca k ∧ ca k ≤ 5)) : Pl ca w x d := ⟨h.1.1, h.2, fun _ k hk => hs k (h.1.2 k hk)⟩
end
theorem freed_nz {col : Nat → Nat} {d k : Nat} (h : freed d col k ≠ 0) : col k ≠ 0 := fun e => h (by unfold freed; split; rfl; exact e)
def Lk.outed (t : Lk) : Lk := { t with out := [] }
theorem recvAll_snoc {l : List Cn} {i : Nat} {c : Cn} (h : l[i]? = some c) (t : Lk) : (t.recvAll (l.take i)).recv c = t.recvAll (l.take (i + 1)) := by
  rw [take_snoc' h]
  unfold Lk.recvAll
  rw [List.foldl_append]
  rfl

set_option maxRecDepth 100000 in
set_option maxHeartbeats 4000000 in
theorem cross_any (B : Nat) (w : World) (a1 s1 r1 a2 s2 r2 : Nat) (t1 t2 : Lk) (h : Ends B w a1 s1 r1 a2 s2 r2 t1 t2) (ok1 : LkOk t1) (ok2 : LkOk t2) (l1 : t1.out.length ≤ 300) (l2 : t2.out.length ≤ 300) (n1 : t1.inn.length ≤ 1000) (n2 : t2.inn.length ≤ 1000) :
    Calls Try.prog 39 #[.pointer (some ⟨a1, 0, none⟩), .pointer (some ⟨a2, 0, none⟩)] w fun e w' => e = .returned (.bool (decide (0 < t1.out.length + t2.out.length))) ∧ Ends B w' a1 s1 r1 a2 s2 r2 (t1.outed.recvAll t2.out) (t2.outed.recvAll t1.out) ∧ Below B w w' := by
  obtain ⟨ca, oa, ia, cb, ob, ib, hA, hB, hd⟩ := h.ex
  have hnb : ∀ k, ca k ≠ 0 → k ≠ a2 := fun k hk e => by have := hd k hk; rw [e, hB.own] at this; omega
  have hna : ∀ k, cb k ≠ 0 → k ≠ a1 := fun k hk e => by
    have := hd a1 (by rw [hA.own]; omega)
    rw [e] at hk
    omega
  have f1 := fr_cell w a1 13 (.slice none 0 0)
  have f2 := fr_cell (w.setCell ⟨a1, 13, none⟩ (.slice none 0 0)) a2 13 (.slice none 0 0)
  have hB1 := hB.fr f1 hna
  have hA2 := hA.outed.fr f2 (fun k hk => hnb k (freed_nz hk))
  have hB2 := hB1.outed
  have HO1 := lout_any B ca w a1 s1 r1 oa ia t1 hA
  have HO2 := lout_any B cb _ a2 s2 r2 ob ib t2 hB1
  have hp := ((hA.out.read (by omega)).fr f1 (fun k hk e => by have := hA.own; subst e; omega)).fr f2 (fun k hk => hnb k (by omega))
  have hq := (hB1.out.read (by omega)).fr f2 (fun k hk e => by have := hB.own; subst e; omega)
  have hbl : Below B w ((w.setCell ⟨a1, 13, none⟩ (.slice none 0 0)).setCell ⟨a2, 13, none⟩ (.slice none 0 0)) := (fr_bl f1 (fun k hk => by subst hk; exact (hA.cols.2 k (by rw [hA.own]; omega)).1) hA.cols.1).trans (fr_bl f2 (fun k hk => by subst hk; exact (hB1.cols.2 k (by rw [hB1.own]; omega)).1) hB1.cols.1)
  have hsz := hbl.size
  have HE : Hid (EndsR B ((w.setCell ⟨a1, 13, none⟩ (.slice none 0 0)).setCell ⟨a2, 13, none⟩ (.slice none 0 0)) a1 s1 r1 a2 s2 r2 t1.outed (t2.outed.recvAll (t1.out.take 0)) oa ob t1.out t2.out) := by
    refine ⟨⟨_, _, _, _, _, _, fun k => (ca k = 4 ∨ ca k = 7) ∨ (cb k = 4 ∨ cb k = 7), hA2, hB2, fun k hk => ?_, hp.mono fun k hk => .inl hk, hq.mono fun k hk => .inr hk, fun k hk => ?_⟩⟩
    · have h0 := hd k (freed_nz hk)
      show freed 4 cb k = 0
      unfold freed
      rw [if_neg (by omega)]
      exact h0
    · have hlt : k < w.heap.size := by
        rcases hk with hk | hk
        · exact (hA.cols.2 k (by omega)).2
        · exact (hB.cols.2 k (by omega)).2
      refine ⟨by omega, fun g => ?_, fun g => ?_⟩
      · have := freed_ne (c := freed 4 ca k) rfl (by omega)
        have := hd k (by omega)
        omega
      · have h9 := freed_ne (c := freed 4 cb k) rfl (by omega)
        rcases hk with hk | hk
        · have := hd k (by omega); omega
        · omega
  obtain ⟨po, pc, rfl, hpc⟩ := hp.form
  obtain ⟨qo, qc, rfl, hqc⟩ := hq.form
  have HBL := Lib.hid hbl
  have OK1 := Lib.hid ok1
  have OK2 := Lib.hid ok2
  clear h hA hB hd hnb hna f1 f2 hB1 hA2 hB2 hp hq hbl hsz ok1 ok2
  go_enter Try.func39, Try.ntmps39
  go_wp2_with fail
  refine HO1.mono ?_
  rintro e w1 ⟨rfl, rfl⟩
  go_wp2_with fail
  refine HO2.mono ?_
  rintro e w2 ⟨rfl, rfl⟩
  clear HO1 HO2
  obtain ⟨W2, hW2⟩ : ∃ W2, ((w.setCell ⟨a1, 13, none⟩ (.slice none 0 0)).setCell ⟨a2, 13, none⟩ (.slice none 0 0)) = W2 := ⟨_, rfl⟩
  rw [hW2] at HE HBL
  try simp only [hW2]
  clear hW2
  go_wp2_with fail
  go_loopw [7] (fun iv wr => ∃ i : Nat, iv = .int .i64 i ∧ i ≤ t1.out.length ∧ Hid (EndsR B wr a1 s1 r1 a2 s2 r2 t1.outed (t2.outed.recvAll (t1.out.take i)) (.slice po t1.out.length pc) (.slice qo t2.out.length qc) t1.out t2.out) ∧ Hid (Below B w wr)) (fun iv _ => 400 - (intOf iv).toNat)
  case atStart => exact ⟨0, rfl, by omega, HE, HBL⟩
  case round =>
    clear HE HBL
    obtain ⟨i, rfl, hi, HE, HBL⟩ := hrel
    by_cases hlt : i < t1.out.length
    · obtain ⟨ca, oa, ia, cb, ob, ib, F, hA, hB, hd, hp, hq, hs⟩ := HE.out.ex
      obtain ⟨c, hc⟩ := get_some hlt
      obtain ⟨b, x, rfl, hFb, hx, d0, d1, d2, d3, d4, d5, d6⟩ := hp.at_ hc
      have hgr := (recvAll_grow (t1.out.take i) t2.outed) ⟨OK2.out.me, OK2.out.s, OK2.out.r⟩
      have hln : (t1.out.take i).length ≤ 300 := by rw [List.length_take]; omega
      obtain ⟨g1, g2, g3⟩ := hgr
      have e1 : t2.outed.out.length = 0 := rfl
      have e2 : t2.outed.inn.length = t2.inn.length := rfl
      have HR := lrecv_any B cb wr a2 s2 r2 ob ib _ hB g1.me g1.s g1.r c x (pl_of hx (fun k hk => ⟨(hs k hk).1, (hs k hk).2.2⟩)) (by omega) (by omega)
      rw [recvAll_snoc hc] at HR
      have HEN : Hid (∀ W, LkTo B cb wr a2 s2 r2 (t2.outed.recvAll (t1.out.take (i + 1))) W → EndsR B W a1 s1 r1 a2 s2 r2 t1.outed (t2.outed.recvAll (t1.out.take (i + 1))) (.slice (some ⟨b, 0, none⟩) t1.out.length pc) (.slice qo t2.out.length qc) t1.out t2.out ∧ Below B wr W) := fun W h => ⟨ends_second hA hd hp hq hs h, h.bl hB⟩
      have j1 : (i : Int) < (t1.out.length : Int) := by omega
      have j2 : (0 : Int) ≤ (i : Int) := by omega
      have j3 : (i : Int) ≤ 300 := by omega
      obtain ⟨xo, xc, rfl⟩ : ∃ xo xc, x = .slice xo c.data.length xc := by
        obtain ⟨⟨⟨_, ao, cap, h, _⟩, _⟩, _⟩ := hx
        exact ⟨ao, cap, h⟩
      clear hA hB hd hp hq hs hx hFb hc HE g1 g2 g3 e1 e2 hln
      go_wp2_with fail
      refine HR.mono ?_
      rintro e w4 ⟨rfl, h4⟩
      obtain ⟨h5, h6⟩ := HEN.out _ h4
      have H5 := Lib.hid h5
      have H6 : Hid (Below B w w4) := HBL.out.trans h6
      clear h4 h5 h6 HR HEN d0 d1 d2 d3 d4 d5 d6
      go_wp2
      go_roundw
      case rel => exact ⟨i + 1, by go_num, by omega, H5, H6⟩
      case measure => simp [intOf]; omega
    · obtain rfl : i = t1.out.length := by omega
      rw [List.take_length] at HE
      have HE2 : Hid (EndsR B wr a1 s1 r1 a2 s2 r2 (t1.outed.recvAll (t2.out.take 0)) (t2.outed.recvAll t1.out) (.slice po t1.out.length pc) (.slice qo t2.out.length qc) t1.out t2.out) := HE
      clear HE
      go_wp2_with fail
      go_loopw [8] (fun jv wr => ∃ j : Nat, jv = .int .i64 j ∧ j ≤ t2.out.length ∧ Hid (EndsR B wr a1 s1 r1 a2 s2 r2 (t1.outed.recvAll (t2.out.take j)) (t2.outed.recvAll t1.out) (.slice po t1.out.length pc) (.slice qo t2.out.length qc) t1.out t2.out) ∧ Hid (Below B w wr)) (fun jv _ => 400 - (intOf jv).toNat)
      case atStart => exact ⟨0, rfl, by omega, HE2, HBL⟩
      case round =>
        clear HE2 HBL
        obtain ⟨j, rfl, hj, HE, HBL⟩ := hrel
        by_cases hlt : j < t2.out.length
        · obtain ⟨ca, oa, ia, cb, ob, ib, F, hA, hB, hd, hp, hq, hs⟩ := HE.out.ex
          obtain ⟨c, hc⟩ := get_some hlt
          obtain ⟨b, x, rfl, hFb, hx, d0, d1, d2, d3, d4, d5, d6⟩ := hq.at_ hc
          have hgr := (recvAll_grow (t2.out.take j) t1.outed) ⟨OK1.out.me, OK1.out.s, OK1.out.r⟩
          have hln : (t2.out.take j).length ≤ 300 := by rw [List.length_take]; omega
          obtain ⟨g1, g2, g3⟩ := hgr
          have e1 : t1.outed.out.length = 0 := rfl
          have e2 : t1.outed.inn.length = t1.inn.length := rfl
          have HR := lrecv_any B ca wr a1 s1 r1 oa ia _ hA g1.me g1.s g1.r c x (pl_of hx (fun k hk => ⟨(hs k hk).1, (hs k hk).2.1⟩)) (by omega) (by omega)
          rw [recvAll_snoc hc] at HR
          have HEN : Hid (∀ W, LkTo B ca wr a1 s1 r1 (t1.outed.recvAll (t2.out.take (j + 1))) W → EndsR B W a1 s1 r1 a2 s2 r2 (t1.outed.recvAll (t2.out.take (j + 1))) (t2.outed.recvAll t1.out) (.slice po t1.out.length pc) (.slice (some ⟨b, 0, none⟩) t2.out.length qc) t1.out t2.out ∧ Below B wr W) := fun W h => ⟨ends_first hB hd hp hq hs h, h.bl hA⟩
          have j1 : (j : Int) < (t2.out.length : Int) := by omega
          have j2 : (0 : Int) ≤ (j : Int) := by omega
          have j3 : (j : Int) ≤ 300 := by omega
          obtain ⟨xo, xc, rfl⟩ : ∃ xo xc, x = .slice xo c.data.length xc := by
            obtain ⟨⟨⟨_, ao, cap, h, _⟩, _⟩, _⟩ := hx
            exact ⟨ao, cap, h⟩
          clear hA hB hd hp hq hs hx hFb hc HE g1 g2 g3 e1 e2 hln
          go_wp2_with fail
          refine HR.mono ?_
          rintro e w4 ⟨rfl, h4⟩
          obtain ⟨h5, h6⟩ := HEN.out _ h4
          have H5 := Lib.hid h5
          have H6 : Hid (Below B w w4) := HBL.out.trans h6
          clear h4 h5 h6 HR HEN d0 d1 d2 d3 d4 d5 d6
          go_wp2
          go_roundw
          case rel => exact ⟨j + 1, by go_num, by omega, H5, H6⟩
          case measure => simp [intOf]; omega
        · obtain rfl : j = t2.out.length := by omega
          rw [List.take_length] at HE
          have HEE : Hid (Ends B wr a1 s1 r1 a2 s2 r2 (t1.outed.recvAll t2.out) (t2.outed.recvAll t1.out)) := HE.out.ends
          clear HE
          have j4 : (t1.out.length : Int) ≤ 300 := by omega
          have j5 : (t2.out.length : Int) ≤ 300 := by omega
          go_wp2
          go_ret
          refine ⟨ret_bool ?_, HEE.out, HBL.out⟩
          simp
          omega

end Go.Proofs.Ythmdibagcbbgoaa
