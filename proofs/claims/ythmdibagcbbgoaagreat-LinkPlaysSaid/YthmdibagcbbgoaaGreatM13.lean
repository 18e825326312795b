/- (*link.Link).Out, In, Up, Me, Peer, Pending, Resets; link.New. Rows of elements of some cells each, with a payload each: what is appended to them. No program in sight. (*link.Link).data, answer. Conditions: as they stand. -/
import Derived.Test.YthmdibagcbbgoaaGreatM12
namespace Go.Proofs.YthmdibagcbbgoaaGreat
open Go.RowKit

/-- A row of controls that nobody turns any more: its cells and its payloads lie in F. -/
def CtlsR (F : Nat → Prop) (w : World) (v : Value) (l : List Cn) : Prop :=
  l.length ≤ maxLen ∧ ∃ ao cap, v = .slice ao l.length cap ∧ l.length ≤ cap ∧ ∀ (i : Nat) (c : Cn), l[i]? = some c → ∃ b x, ao = some ⟨b, 0, none⟩ ∧ F b ∧ (∀ (j : Nat) (y : Value), (c.agg x)[j]? = some y → w.cell? ⟨b, i * 7 + j, none⟩ = some y) ∧ Byt F w x c.data
theorem CtlsR.fr {F G : Nat → Prop} {w w' : World} {v : Value} {l : List Cn} (h : CtlsR F w v l) (hf : Fr G w w') (hd : ∀ k, F k → ¬ G k) : CtlsR F w' v l := by
  obtain ⟨hm, ao, cap, hv, hl, hc⟩ := h
  refine ⟨hm, ao, cap, hv, hl, fun i c hi => ?_⟩
  obtain ⟨b, x, ha, hF, h1, h2⟩ := hc i c hi
  exact ⟨b, x, ha, hF, fun j y hy => hf.cell (h1 j y hy) (hd b hF), h2.fr hf hd⟩
theorem CtlsR.mono {F G : Nat → Prop} {w : World} {v : Value} {l : List Cn} (h : CtlsR F w v l) (hd : ∀ k, F k → G k) : CtlsR G w v l := by
  obtain ⟨hm, ao, cap, hv, hl, hc⟩ := h
  refine ⟨hm, ao, cap, hv, hl, fun i c hi => ?_⟩
  obtain ⟨b, x, ha, hF, h1, h2⟩ := hc i c hi
  exact ⟨b, x, ha, hd b hF, h1, h2.mono hd⟩
theorem CtlsAt.read {B : Nat} {col : Nat → Nat} {d : Nat} {w : World} {v : Value} {l : List Cn} (h : CtlsAt B col d w v l) (hm : l.length ≤ 1000000) : CtlsR (fun k => col k = d ∨ col k = 7) w v l := by
  obtain ⟨cs, h2, h3, h4⟩ := h
  obtain ⟨ao, cap, hv⟩ := rc_form h2
  have hcap : l.length ≤ cap := by
    rcases h2.2 with ⟨e, h0⟩ | ⟨g, cap', cur, e, _, _, h5, _⟩
    · omega
    · rw [hv] at e; cases e; exact h5
  refine ⟨by unfold maxLen; omega, ao, cap, hv, hcap, fun i c hi => ?_⟩
  obtain ⟨x, g0, g1⟩ := h4 i c hi
  have hl : i < l.length := (List.getElem?_eq_some_iff.1 hi).1
  obtain ⟨g, hg⟩ : ∃ g, ao = some ⟨g, 0, none⟩ := by
    rcases h2.2 with ⟨e, h0⟩ | ⟨g, cap', cur, e, _⟩
    · omega
    · rw [hv] at e; cases e; exact ⟨g, rfl⟩
  subst hg
  subst hv
  refine ⟨g, x, rfl, .inl (h3 g rfl), fun j y hy => ?_, g1.mono fun k hk => .inr hk⟩
  have := h2.cells (g := g) rfl _ _ (g0 j y hy)
  rw [Addr.add_lit] at this
  simpa using this

section
variable {B : Nat} {col : Nat → Nat} {w w' : World} {a sg rg : Nat} {ov iv : Value} {t : Lk} {G : Nat → Prop}
/-- Nothing of it was turned. -/
theorem LkP.fr (h : LkP B col w a sg rg ov iv t) (hf : Fr G w w') (hd : ∀ k, col k ≠ 0 → ¬ G k) : LkP B col w' a sg rg ov iv t :=
  ⟨h.cols.grow hf.size, h.own, hf.get h.hb (hd _ (by rw [h.own]; omega)), h.snd.fr hf (fun k hk => hd k (by omega)), h.rcv.fr hf (fun k hk => hd k (by omega)), h.out.fr hf (fun k hk => hd k (by omega)), h.inn.fr hf (fun k hk => hd k (by omega))⟩
/-- The blocks of one colour are let go. -/
def freed (d : Nat) (col : Nat → Nat) : Nat → Nat := fun k => if col k = d then 0 else col k
theorem freed_ne {d c k : Nat} (h : freed d col k = c) (hc : c ≠ 0) : col k = c ∧ c ≠ d := by
  unfold freed at h
  split at h
  · omega
  · exact ⟨h, by omega⟩
theorem freed_of {d c k : Nat} (h : col k = c) (hc : c ≠ d) : freed d col k = c := by unfold freed; rw [if_neg (by omega)]; exact h
theorem rows_freed {d c : Nat} {v : Value} {ps : List (List Int)} (h : RowsAt B col c w v ps) (h1 : c ≠ d) (h7 : d ≠ 7) : RowsAt B (freed d col) c w v ps := by
  obtain ⟨vs, p1, p2, p3, p4⟩ := h
  exact ⟨vs, p1, p2, fun k hk => freed_of (p3 k hk) h1, fun i x p hx hp => (p4 i x p hx hp).mono fun k hk => freed_of hk (by omega)⟩
theorem ctls_freed {d c : Nat} {v : Value} {l : List Cn} (h : CtlsAt B col c w v l) (h1 : c ≠ d) (h7 : d ≠ 7) : CtlsAt B (freed d col) c w v l := by
  obtain ⟨cs, h2, h3, h4⟩ := h
  refine ⟨cs, h2, fun k hk => freed_of (h3 k hk) h1, fun i c hc => ?_⟩
  obtain ⟨x, g0, g1⟩ := h4 i c hc
  exact ⟨x, g0, g1.mono fun k hk => freed_of hk (by omega)⟩
theorem snd_freed {d : Nat} {s : Snd} (h : SndAt (fun k => col k = 2) w sg s) (h1 : 2 ≠ d) : SndAt (fun k => freed d col k = 2) w sg s :=
  h.mono (fun k hk => freed_of hk h1) (fun k hk => h.1 k (freed_ne hk (by omega)).1)
theorem rcv_freed {d : Nat} {r : Rcv} (h : RcvAt (fun k => col k = 3) (fun k => col k = 7) w rg r) (h1 : 3 ≠ d) (h7 : 7 ≠ d) : RcvAt (fun k => freed d col k = 3) (fun k => freed d col k = 7) w rg r :=
  h.mono (fun k hk => freed_of hk h1) (fun k hk => freed_of hk h7) (fun k hk e => by have := (freed_ne hk (by omega)).1; have := (freed_ne e (by omega)).1; omega)
theorem cols_freed {d : Nat} (h : Cols B col w) : Cols B (freed d col) w := ⟨h.1, fun k hk => h.2 k (fun e => hk (by unfold freed; split; rfl; exact e))⟩
/-- What it sent was taken. -/
theorem LkP.outed (h : LkP B col w a sg rg ov iv t) : LkP B (freed 4 col) (w.setCell ⟨a, 13, none⟩ (.slice none 0 0)) a sg rg (.slice none 0 0) iv { t with out := [] } := by
  have hq := fr_cell w a 13 (.slice none 0 0)
  have ho : freed 4 col a = 1 := freed_of h.own (by omega)
  have hn : ∀ k, freed 4 col k ≠ 1 → ¬ k = a := fun k hk e => hk (e ▸ ho)
  exact ⟨(cols_freed h.cols).grow hq.size, ho, by rw [set_obj _ _ _ _ _ _ h.hb]; rfl, (snd_freed h.snd (by omega)).fr hq (fun k hk => hn k (by omega)), (rcv_freed h.rcv (by omega) (by omega)).fr hq (fun k hk => hn k (by omega)),
    ⟨[], ⟨rfl, .inl ⟨rfl, rfl⟩⟩, fun k hk => by simp [Value.ownBlock] at hk, fun i c hc => by simp at hc⟩, (rows_freed h.inn (by omega) (by omega)).fr hq (fun k hk => hn k (by omega))⟩
/-- What came in was taken. -/
theorem LkP.inned (h : LkP B col w a sg rg ov iv t) : LkP B (freed 5 col) (w.setCell ⟨a, 14, none⟩ (.slice none 0 0)) a sg rg ov (.slice none 0 0) { t with inn := [] } := by
  have hq := fr_cell w a 14 (.slice none 0 0)
  have ho : freed 5 col a = 1 := freed_of h.own (by omega)
  have hn : ∀ k, freed 5 col k ≠ 1 → ¬ k = a := fun k hk e => hk (e ▸ ho)
  exact ⟨(cols_freed h.cols).grow hq.size, ho, by rw [set_obj _ _ _ _ _ _ h.hb]; rfl, (snd_freed h.snd (by omega)).fr hq (fun k hk => hn k (by omega)), (rcv_freed h.rcv (by omega) (by omega)).fr hq (fun k hk => hn k (by omega)),
    (ctls_freed h.out (by omega) (by omega)).fr hq (fun k hk => hn k (by omega)), ⟨[], rfl, ⟨rfl, .inl ⟨rfl, rfl⟩⟩, fun k hk => by simp [Value.ownBlock] at hk, fun i x p hx => by simp at hx⟩⟩
end

set_option maxRecDepth 100000 in
set_option maxHeartbeats 2000000 in
theorem lout_any (B : Nat) (col : Nat → Nat) (w : World) (a sg rg : Nat) (ov iv : Value) (t : Lk) (h : LkP B col w a sg rg ov iv t) :
    Calls Tryz.prog 11 #[.pointer (some ⟨a, 0, none⟩)] w fun e w' => e = .returned ov ∧ w' = w.setCell ⟨a, 13, none⟩ (.slice none 0 0) := by
  have e13 := h.c13
  have z13 := h.frozen 13
  obtain ⟨cs, v2, _⟩ := h.out
  obtain ⟨oo, oc, rfl⟩ := rc_form v2
  clear h v2
  go_enter Tryz.func11, Tryz.ntmps11
  go_wp2
  go_ret
  exact ⟨rfl, rfl⟩

set_option maxRecDepth 100000 in
set_option maxHeartbeats 2000000 in
theorem lin_any (B : Nat) (col : Nat → Nat) (w : World) (a sg rg : Nat) (ov iv : Value) (t : Lk) (h : LkP B col w a sg rg ov iv t) :
    Calls Tryz.prog 13 #[.pointer (some ⟨a, 0, none⟩)] w fun e w' => e = .returned iv ∧ w' = w.setCell ⟨a, 14, none⟩ (.slice none 0 0) := by
  have e14 := h.c14
  have z14 := h.frozen 14
  obtain ⟨cs, v1, v2, _⟩ := h.inn
  obtain ⟨oo, oc, hv⟩ := rc_form v2
  rw [v1] at hv
  subst hv
  clear h v2 v1
  go_enter Tryz.func13, Tryz.ntmps13
  go_wp2
  go_ret
  exact ⟨rfl, rfl⟩

section
variable (B : Nat) (col : Nat → Nat) (w : World) (a sg rg : Nat) (ov iv : Value) (t : Lk) (h : LkP B col w a sg rg ov iv t)
include h
theorem lup_any : Calls Tryz.prog 14 #[.pointer (some ⟨a, 0, none⟩)] w fun e w' => e = .returned (.bool t.up) ∧ w = w' := by
  have e2 := h.c2
  clear h
  go_enter Tryz.func14, Tryz.ntmps14
  go_wp2
  go_ret
  exact ⟨rfl, rfl⟩
theorem lme_any : Calls Tryz.prog 15 #[.pointer (some ⟨a, 0, none⟩)] w fun e w' => e = .returned (.int .i64 t.me) ∧ w = w' := by
  have e0 := h.c0
  clear h
  go_enter Tryz.func15, Tryz.ntmps15
  go_wp2
  go_ret
  exact ⟨rfl, rfl⟩
theorem lpeer_any : Calls Tryz.prog 16 #[.pointer (some ⟨a, 0, none⟩)] w fun e w' => e = .returned (.int .i64 t.peer) ∧ w = w' := by
  have e1 := h.c1
  clear h
  go_enter Tryz.func16, Tryz.ntmps16
  go_wp2
  go_ret
  exact ⟨rfl, rfl⟩
theorem lpending_any : Calls Tryz.prog 18 #[.pointer (some ⟨a, 0, none⟩)] w fun e w' => e = .returned (.int .i64 t.s.ps.length) ∧ w = w' := by
  have e11 := h.c11
  have HL := slen_any _ sg t.s w h.snd
  clear h
  go_enter Tryz.func18, Tryz.ntmps18
  go_wp2_with fail
  refine HL.mono ?_
  rintro e w2 ⟨rfl, rfl⟩
  go_wp2
  go_ret
  exact ⟨rfl, rfl⟩
end

/-- A new end, ahead of its setup. -/
def Lk.blank (me size timer tries : Nat) : Lk := ⟨me, -1, false, size, timer, tries, 0, 0, 0, false, false, ⟨size, 0, [], 0⟩, ⟨size, 0, [], []⟩, [], []⟩
def Lk.new (me size timer tries : Nat) : Lk := (Lk.blank me size timer tries).setup false

theorem blank_at {B me size timer tries : Nat} {w w1 w2 : World} (hB : B ≤ w.heap.size) (hs : SndAt (fun k => k = w.heap.size) w1 w.heap.size ⟨size, 0, [], 0⟩) (hb : Below w.heap.size w w1)
    (hr : RcvAt (fun k => w1.heap.size ≤ k ∧ k < w2.heap.size) (fun _ => False) w2 w1.heap.size ⟨size, 0, [], []⟩) (hb2 : Below w1.heap.size w1 w2) :
    ∃ col, LkP B col (w2.alloc (.cells ((Lk.blank me size timer tries).cells w.heap.size w1.heap.size (.slice none 0 0) (.slice none 0 0)) 66)) w2.heap.size w.heap.size w1.heap.size (.slice none 0 0) (.slice none 0 0) (Lk.blank me size timer tries) ∧ (∀ k, k < w.heap.size → col k = 0) ∧
      Below w.heap.size w (w2.alloc (.cells ((Lk.blank me size timer tries).cells w.heap.size w1.heap.size (.slice none 0 0) (.slice none 0 0)) 66)) := by
  have hsz := hb.size
  have hsl := hs.1 _ rfl
  have hrl : w1.heap.size < w2.heap.size := by
    obtain ⟨mb, ab, fk, hp⟩ := hr
    exact lt_of_get hp.hb
  have hb3 := bl_alloc (bl_refl w2) (.cells ((Lk.blank me size timer tries).cells w.heap.size w1.heap.size (.slice none 0 0) (.slice none 0 0)) 66)
  have hbx := heap_alloc_new w2 (.cells ((Lk.blank me size timer tries).cells w.heap.size w1.heap.size (.slice none 0 0) (.slice none 0 0)) 66)
  have hs3 := lt_of_get hbx
  generalize w2.alloc (.cells ((Lk.blank me size timer tries).cells w.heap.size w1.heap.size (.slice none 0 0) (.slice none 0 0)) 66) = W at hb3 hbx hs3
  refine ⟨fun k => if k = w.heap.size then 2 else if w1.heap.size ≤ k ∧ k < w2.heap.size then 3 else if k = w2.heap.size then 1 else 0, ⟨⟨by omega, fun k hk => ?_⟩, ?_, hbx, ?_, ?_, ⟨[], ⟨rfl, .inl ⟨rfl, rfl⟩⟩, fun k hk => by simp [Value.ownBlock] at hk, fun i c hc => by simp [Lk.blank] at hc⟩, ⟨[], rfl, ⟨rfl, .inl ⟨rfl, rfl⟩⟩, fun k hk => by simp [Value.ownBlock] at hk, fun i x p hx => by simp at hx⟩⟩, fun k hk => ?_, ?_⟩
  · show B ≤ k ∧ k < W.heap.size
    by_cases g1 : k = w.heap.size
    · omega
    by_cases g2 : w1.heap.size ≤ k ∧ k < w2.heap.size
    · omega
    by_cases g3 : k = w2.heap.size
    · omega
    · exact absurd (by show (if k = w.heap.size then 2 else if w1.heap.size ≤ k ∧ k < w2.heap.size then 3 else if k = w2.heap.size then 1 else 0) = 0; rw [if_neg g1, if_neg g2, if_neg g3]) hk
  · show (if w2.heap.size = w.heap.size then 2 else if w1.heap.size ≤ w2.heap.size ∧ w2.heap.size < w2.heap.size then 3 else if w2.heap.size = w2.heap.size then 1 else 0) = 1
    rw [if_neg (by omega), if_neg (by omega), if_pos rfl]
  · refine ((hs.below hb2).below hb3).mono (fun k hk => ?_) (fun k hk => ?_)
    · rw [if_pos hk]
    · by_cases g1 : k = w.heap.size
      · omega
      · rw [if_neg g1] at hk
        by_cases g2 : w1.heap.size ≤ k ∧ k < w2.heap.size
        · omega
        · rw [if_neg g2] at hk
          by_cases g3 : k = w2.heap.size
          · omega
          · rw [if_neg g3] at hk
            omega
  · refine (hr.below hb3).mono (fun k hk => ?_) (fun k hk => hk.elim) (fun k hk e => by omega)
    show (if k = w.heap.size then 2 else if w1.heap.size ≤ k ∧ k < w2.heap.size then 3 else if k = w2.heap.size then 1 else 0) = 3
    rw [if_neg (by omega), if_pos hk]
  · show (if k = w.heap.size then 2 else if w1.heap.size ≤ k ∧ k < w2.heap.size then 3 else if k = w2.heap.size then 1 else 0) = 0
    rw [if_neg (by omega), if_neg (by omega), if_neg (by omega)]
  · exact (hb.trans (hb2.mono hsz)).trans (hb3.mono (by omega))

set_option maxRecDepth 100000 in
set_option maxHeartbeats 2000000 in
theorem lnew_ok (me size timer tries : Nat) (h1 : me ≤ 65535) (h2 : 1 ≤ timer) (h3 : timer ≤ 64) (h4 : 1 ≤ tries) (h5 : tries ≤ 64) (h6 : 1 ≤ size) (h7 : size ≤ 63) (B : Nat) (w : World) (hB : B ≤ w.heap.size) :
    Calls Tryz.prog 4 #[.int .i64 me, .int .i64 size, .int .i64 timer, .int .i64 tries] w fun e w' => ∃ a sg rg col ov iv, e = .returned (.tuple #[.pointer (some ⟨a, 0, none⟩), .int .i64 0]) ∧ LkP B col w' a sg rg ov iv (Lk.new me size timer tries) ∧ (∀ k, k < w.heap.size → col k = 0) ∧ Below w.heap.size w w' := by
  have HS := Lib.hid (snew_ok size h6 h7 w)
  have i1 : (me : Int) ≤ 65535 := by omega
  have i2 : (1 : Int) ≤ (timer : Int) := by omega
  have i3 : (timer : Int) ≤ 64 := by omega
  have i4 : (1 : Int) ≤ (tries : Int) := by omega
  have i5 : (tries : Int) ≤ 64 := by omega
  go_enter Tryz.func4, Tryz.ntmps4
  go_wp2_with fail
  refine HS.out.mono ?_
  rintro e w1 ⟨rfl, hs, hb⟩
  have hsz := hb.size
  have hsl := hs.1 _ rfl
  have HS1 := Lib.hid hs
  have HB1 := Lib.hid hb
  clear hs hb
  go_wp2_with fail
  refine (rcnew_ok size h6 h7 w1).mono ?_
  rintro e w2 ⟨rfl, hr, hb2⟩
  obtain ⟨col, hp, hcol, hball⟩ := blank_at (me := me) (timer := timer) (tries := tries) hB HS1.out HB1.out hr hb2
  have HC := Lib.hid hcol
  have HBA := Lib.hid hball
  have HSET := lsetup_any B col _ _ _ _ _ _ _ hp false (by show (0 : Nat) ≤ _; omega)
  have HCC := Lib.hid hp.cols
  clear hr hb2 hp hcol hball
  go_wp2_with fail
  refine HSET.mono ?_
  rintro e w4 ⟨⟨v, rfl⟩, h4⟩
  obtain ⟨c4, o4, i4, hp4, hc4, HF4, _⟩ := h4.openf
  have HP4 := Lib.hid hp4
  have HC4 : Hid (∀ k, k < w.heap.size → c4 k = 0) := fun k hk => by
    have h9 := hc4 k (Nat.lt_of_lt_of_le hk HBA.out.size)
    have h8 := HC.out k hk
    omega
  have HB4 : Hid (Below w.heap.size w w4) := HBA.out.trans (fr_bl HF4.out (fun k hk => by
    rcases Nat.lt_or_ge k w.heap.size with h | h
    · have := HC.out k h; omega
    · exact h) HBA.out.size)
  clear h4 hp4 hc4 HSET
  go_wp2
  go_ret2
  exact ⟨_, _, _, _, _, _, rfl, HP4.out, HC4.out, HB4.out⟩

end Go.Proofs.YthmdibagcbbgoaaGreat

namespace Go.Proofs.YthmdibagcbbgoaaGreat
open Go.RowKit

/-- A slice of elements of size cells each. -/
def Flat (F : Nat → Prop) (w : World) (size : Nat) (v : Value) (n : Nat) (xs : List Value) : Prop :=
  xs.length = n * size ∧ n ≤ maxLen ∧ ∃ ao cap, v = .slice ao n cap ∧ (n ≤ cap ∧ (ao = none → cap = 0)) ∧ (∀ b o s, ao = some ⟨b, o, s⟩ → F b) ∧ ∀ (j : Nat) (u : Value), xs[j]? = some u → ∃ b o, ao = some ⟨b, o, none⟩ ∧ w.cell? ⟨b, o + j, none⟩ = some u
theorem Flat.fr {F G : Nat → Prop} {w w' : World} {size : Nat} {v : Value} {n : Nat} {xs : List Value} (h : Flat F w size v n xs) (hf : Fr G w w') (hd : ∀ k, F k → ¬ G k) : Flat F w' size v n xs := by
  obtain ⟨h1, h2, ao, cap, rfl, h3, h4, h5⟩ := h
  refine ⟨h1, h2, ao, cap, rfl, h3, h4, fun j u hu => ?_⟩
  obtain ⟨b, o, rfl, hc⟩ := h5 j u hu
  exact ⟨b, o, rfl, hf.cell hc (hd b (h4 b o none rfl))⟩
theorem Flat.mono {F G : Nat → Prop} {w : World} {size : Nat} {v : Value} {n : Nat} {xs : List Value} (h : Flat F w size v n xs) (hd : ∀ k, F k → G k) : Flat G w size v n xs := by
  obtain ⟨h1, h2, ao, cap, rfl, h3, h4, h5⟩ := h
  exact ⟨h1, h2, ao, cap, rfl, h3, fun b o s e => hd b (h4 b o s e), h5⟩

/-- How an element lies in its cells. -/
structure Kind9 (α : Type) where
  cells : α → Value → Array Value
  pay : α → List Int
  size : Nat
  pos : 0 < size
  fits : ∀ c x, (cells c x).size = size
  one : ∀ c o n m, ∀ y ∈ (cells c (.slice o n m)).toList, y.oneCell' = true
section
variable {α : Type} {K : Kind9 α} {F G F' G' : Nat → Prop} {w w' : World} {v u : Value} {l m : List α} {base : Nat} {e : TypeId}
/-- The row lies in F, its payloads in G. -/
def ElsX (K : Kind9 α) (F G : Nat → Prop) (w : World) (v : Value) (l : List α) : Prop :=
  ∃ cs, Flat F w K.size v l.length cs ∧ ∀ (i : Nat) (c : α), l[i]? = some c → ∃ x, (∀ (j : Nat) (y : Value), (K.cells c x)[j]? = some y → cs[i * K.size + j]? = some y) ∧ Byt G w x (K.pay c)
def Els (K : Kind9 α) (F : Nat → Prop) (w : World) (v : Value) (l : List α) : Prop := ElsX K F F w v l
theorem ElsX.mono (h : ElsX K F G w v l) (h1 : ∀ k, F k → F' k) (h2 : ∀ k, G k → G' k) : ElsX K F' G' w v l := by
  obtain ⟨cs, g1, g2⟩ := h
  refine ⟨cs, g1.mono h1, fun i c hc => ?_⟩
  obtain ⟨x, x1, x2⟩ := g2 i c hc
  exact ⟨x, x1, x2.mono h2⟩
theorem ElsX.below (h : ElsX K F G w v l) (hb : Below w.heap.size w w') : ElsX K F G w' v l := by
  obtain ⟨cs, g1, g2⟩ := h
  refine ⟨cs, g1.fr (G := fun _ => False) (.of_below hb) fun _ _ g => g, fun i c hc => ?_⟩
  obtain ⟨x, x1, x2⟩ := g2 i c hc
  exact ⟨x, x1, x2.below hb⟩
theorem ElsX.form (h : ElsX K F G w v l) : ∃ ao cap, v = .slice ao l.length cap ∧ l.length ≤ cap ∧ l.length ≤ maxLen := by
  obtain ⟨cs, ⟨h1, h2, ao, cap, hv, h3, _⟩, _⟩ := h
  exact ⟨ao, cap, hv, h3.1, h2⟩
/-- Its first elements. -/
theorem ElsX.to {ao : Option Addr} {n cap : Nat} (h : ElsX K F G w (.slice ao n cap) l) {i : Nat} (hi : i ≤ l.length) : ElsX K F G w (.slice ao i cap) (l.take i) := by
  obtain ⟨cs, ⟨h1, h2, ao', cap', hv, h3, h4, h5⟩, h6⟩ := h
  cases hv
  have hl : (l.take i).length = i := by rw [List.length_take]; omega
  have hmul : i * K.size ≤ l.length * K.size := Nat.mul_le_mul_right _ hi
  refine ⟨cs.take (i * K.size), ⟨by rw [List.length_take, h1, hl]; omega, by omega, ao, cap, by rw [hl], ⟨by omega, h3.2⟩, h4, fun j u hu => ?_⟩, fun q c hc => ?_⟩
  · rw [List.getElem?_take] at hu
    split at hu
    · exact h5 j u hu
    · cases hu
  · have hq := (List.getElem?_eq_some_iff.1 hc).1
    rw [hl] at hq
    rw [List.getElem?_take, if_pos hq] at hc
    obtain ⟨x, x1, x2⟩ := h6 q c hc
    refine ⟨x, fun j y hy => ?_, x2⟩
    have hj := (Array.getElem?_eq_some_iff.1 hy).1
    rw [K.fits] at hj
    have h9 : (q + 1) * K.size ≤ i * K.size := Nat.mul_le_mul_right _ hq
    rw [Nat.add_mul, Nat.one_mul] at h9
    rw [List.getElem?_take, if_pos (by omega)]
    exact x1 j y hy
/-- Its elements from one on. -/
theorem ElsX.from_ {ao : Option Addr} {n cap : Nat} (h : ElsX K F G w (.slice ao n cap) l) {i : Nat} (hi : i ≤ l.length) : ElsX K F G w (.slice (if cap = i then ao else ao.map (·.add (i * K.size))) (n - i) (cap - i)) (l.drop i) := by
  obtain ⟨cs, ⟨h1, h2, ao', cap', hv, h3, h4, h5⟩, h6⟩ := h
  cases hv
  have hmul : i * K.size ≤ l.length * K.size := Nat.mul_le_mul_right _ hi
  refine ⟨cs.drop (i * K.size), ⟨by rw [List.length_drop, List.length_drop, h1, Nat.sub_mul], by rw [List.length_drop]; omega, _, _, by rw [List.length_drop], ⟨by rw [List.length_drop]; omega, fun e => ?_⟩, fun b o s e => ?_, fun j u hu => ?_⟩, fun q c hc => ?_⟩
  · cases ao with
    | none => have := h3.2 rfl; omega
    | some a => split at e <;> cases e
  · split at e
    · exact h4 b o s e
    · cases ao with
      | none => cases e
      | some a =>
        obtain ⟨b', o', s'⟩ := a
        have e' : (Addr.mk b' o' s').add (i * K.size) = ⟨b, o, s⟩ := Option.some.inj e
        have hb : b' = b := by
          unfold Addr.add at e'
          split at e' <;> cases e' <;> rfl
        exact h4 b o' s' (by rw [hb])
  · rw [List.getElem?_drop] at hu
    obtain ⟨b, o, rfl, hc⟩ := h5 _ u hu
    have hlt := (List.getElem?_eq_some_iff.1 hu).1
    rw [h1] at hlt
    have hil : i < l.length := by
      apply Classical.byContradiction
      intro hn
      have : i = l.length := by omega
      subst this
      omega
    rw [if_neg (by omega)]
    exact ⟨b, o + i * K.size, by simp [Addr.add_lit], by rw [Nat.add_assoc]; exact hc⟩
  · rw [List.getElem?_drop] at hc
    obtain ⟨x, x1, x2⟩ := h6 _ c hc
    refine ⟨x, fun j y hy => ?_, x2⟩
    have := x1 j y hy
    rw [List.getElem?_drop, ← Nat.add_assoc, ← Nat.add_mul]
    exact this
theorem Els.fr (h : Els K F w v l) (hf : Fr G w w') (hd : ∀ k, F k → ¬ G k) : Els K F w' v l := by
  obtain ⟨cs, h1, h2⟩ := h
  refine ⟨cs, h1.fr hf hd, fun i c hc => ?_⟩
  obtain ⟨x, x1, x2⟩ := h2 i c hc
  exact ⟨x, x1, x2.fr hf hd⟩
theorem Els.mono (h : Els K F w v l) (hd : ∀ k, F k → G k) : Els K G w v l := by
  obtain ⟨cs, h1, h2⟩ := h
  refine ⟨cs, h1.mono hd, fun i c hc => ?_⟩
  obtain ⟨x, x1, x2⟩ := h2 i c hc
  exact ⟨x, x1, x2.mono hd⟩
theorem Els.below (h : Els K F w v l) (hb : Below w.heap.size w w') : Els K F w' v l := h.fr (G := fun _ => False) (.of_below hb) fun _ _ g => g
theorem Els.form (h : Els K F w v l) : ∃ ao cap, v = .slice ao l.length cap ∧ l.length ≤ cap ∧ l.length ≤ maxLen := by
  obtain ⟨cs, ⟨h1, h2, ao, cap, hv, h3, _⟩, _⟩ := h
  exact ⟨ao, cap, hv, h3.1, h2⟩
theorem Els.nil (K : Kind9 α) (F : Nat → Prop) (w : World) : Els K F w (.slice none 0 0) [] :=
  ⟨[], ⟨by simp, by simp, none, 0, rfl, ⟨Nat.le_refl _, fun _ => rfl⟩, fun b o s e => (by cases e), fun j u hu => by simp at hu⟩, fun i c hc => by simp at hc⟩
/-- An element of it: its cells, and that its payload reads. -/
theorem Els.at_ {ao : Option Addr} {n cap : Nat} (h : Els K F w (.slice ao n cap) l) {i : Nat} {c : α} (hc : l[i]? = some c) :
    ∃ b o x, ao = some ⟨b, o, none⟩ ∧ F b ∧ (∀ (j : Nat) (y : Value), (K.cells c x)[j]? = some y → w.cell? ⟨b, o + (i * K.size + j), none⟩ = some y) ∧ Byt F w x (K.pay c) := by
  obtain ⟨cs, ⟨h1, h2, ao', cap', hv, h3, h4, h5⟩, h6⟩ := h
  cases hv
  obtain ⟨x, x1, x2⟩ := h6 i c hc
  have hp := K.pos
  obtain ⟨y0, hy0⟩ : ∃ y0, (K.cells c x)[0]? = some y0 := ⟨_, Array.getElem?_eq_getElem (by rw [K.fits]; exact hp)⟩
  obtain ⟨b, o, rfl, _⟩ := h5 _ _ (x1 0 y0 hy0)
  refine ⟨b, o, x, rfl, h4 b o none rfl, fun j y hy => ?_, x2⟩
  obtain ⟨b', o', e, hcell⟩ := h5 _ _ (x1 j y hy)
  simp only [Option.some.injEq, Addr.mk.injEq, and_true] at e
  obtain ⟨rfl, rfl⟩ := e
  exact hcell
/-- A row of the call's own. -/
def OwnEls (base : Nat) (e : TypeId) (K : Kind9 α) (F : Nat → Prop) (w : World) (v : Value) (l : List α) : Prop :=
  ∃ cs, w.ownsRow base e K.size v l.length cs ∧ ∀ (i : Nat) (c : α), l[i]? = some c → ∃ x, (∀ (j : Nat) (y : Value), (K.cells c x)[j]? = some y → cs[i * K.size + j]? = some y) ∧ Byt F w x (K.pay c)
theorem OwnEls.lt (h : OwnEls base e K F w v l) : ∀ k, v.ownBlock = some k → base ≤ k ∧ k < w.heap.size := by
  obtain ⟨cs, h1, _⟩ := h
  exact fun k hk => h1.lt k hk
theorem OwnEls.form (h : OwnEls base e K F w v l) : ∃ ao cap, v = .slice ao l.length cap := by
  obtain ⟨cs, h1, _⟩ := h
  obtain ⟨ao, cap, e⟩ := rc_form h1
  exact ⟨ao, cap, e⟩
theorem OwnEls.fr (h : OwnEls base e K F w v l) (hf : Fr G w w') (hn : ∀ k, v.ownBlock = some k → ¬ G k) (hd : ∀ k, F k → ¬ G k) : OwnEls base e K F w' v l := by
  obtain ⟨cs, h1, h2⟩ := h
  refine ⟨cs, own_fr8 h1 hf hn, fun i c hc => ?_⟩
  obtain ⟨x, x1, x2⟩ := h2 i c hc
  exact ⟨x, x1, x2.fr hf hd⟩
theorem OwnEls.below (h : OwnEls base e K F w v l) (hb : Below w.heap.size w w') : OwnEls base e K F w' v l := h.fr (G := fun _ => False) (.of_below hb) (fun _ _ g => g) fun _ _ g => g
theorem OwnEls.mono (h : OwnEls base e K F w v l) (hd : ∀ k, F k → G k) : OwnEls base e K G w v l := by
  obtain ⟨cs, h1, h2⟩ := h
  refine ⟨cs, h1, fun i c hc => ?_⟩
  obtain ⟨x, x1, x2⟩ := h2 i c hc
  exact ⟨x, x1, x2.mono hd⟩
theorem OwnEls.elsX (h : OwnEls base e K F w v l) (hm : l.length ≤ maxLen) : ElsX K (fun k => base ≤ k ∧ k < w.heap.size) F w v l := by
  obtain ⟨cs, h1, h2⟩ := h
  refine ⟨cs, ?_, h2⟩
  rcases h1.2 with ⟨rfl, h0⟩ | ⟨g, cap, cur, rfl, hb, hg, hle, _⟩
  · refine ⟨h1.1, hm, none, 0, by rw [h0], ⟨by omega, fun _ => rfl⟩, fun b o s e => (by cases e), fun j u hu => ?_⟩
    have := (List.getElem?_eq_some_iff.1 hu).1
    rw [h1.1, h0] at this
    omega
  · refine ⟨h1.1, hm, _, cap, rfl, ⟨hle, fun e => by cases e⟩, fun b o s e => ?_, fun j u hu => ⟨g, 0, rfl, ?_⟩⟩
    · cases e
      exact ⟨hb, lt_of_get hg⟩
    · have := h1.cells (g := g) rfl j u hu
      rw [Addr.add_lit] at this
      exact this
theorem OwnEls.els (h : OwnEls base e K F w v l) (hm : l.length ≤ maxLen) : Els K (fun k => F k ∨ (base ≤ k ∧ k < w.heap.size)) w v l := by
  obtain ⟨cs, h1, h2⟩ := h
  refine ⟨cs, ?_, fun i c hc => ?_⟩
  · rcases h1.2 with ⟨rfl, h0⟩ | ⟨g, cap, cur, rfl, hb, hg, hle, _⟩
    · refine ⟨h1.1, hm, none, 0, by rw [h0], ⟨by omega, fun _ => rfl⟩, fun b o s e => (by cases e), fun j u hu => ?_⟩
      have := (List.getElem?_eq_some_iff.1 hu).1
      rw [h1.1, h0] at this
      omega
    · refine ⟨h1.1, hm, _, cap, rfl, ⟨hle, fun e => by cases e⟩, fun b o s e => ?_, fun j u hu => ⟨g, 0, rfl, ?_⟩⟩
      · cases e
        exact .inr ⟨hb, lt_of_get hg⟩
      · have := h1.cells (g := g) rfl j u hu
        rw [Addr.add_lit] at this
        exact this
  · obtain ⟨x, x1, x2⟩ := h2 i c hc
    exact ⟨x, x1, x2.mono fun k hk => .inl hk⟩
/-- append(own, src...). -/
theorem run_append_els {P : Program} (w : World) (base : Nat) (t ty e : TypeId) (i : TypeInfo) (z : Value) (bytes : Nat) (ht : P.underlying t = some (.slice e)) (hi : P.info? e = some i) (hz : i.zero = some z)
    (hsize : i.size = K.size) (hby : i.bytes = bytes) (hzs : z.cells.size = K.size) (hO : OwnEls base e K F w v l) (hE : ElsX K G F w u m) (hb : ∀ k, v.ownBlock = some k → ¬ F k)
    (h63 : l.length + m.length ≤ maxLen) (hbytes : (l.length + m.length) * bytes ≤ 140737488355328) (hbase : base ≤ w.heap.size) :
    ∃ v' w', (Builtin.append_ #[t, t] ty #[v, u]).run P w = .ok v' w' ∧ OwnEls base e K F w' v' (l ++ m) ∧ w.grownBy w' v.ownBlock ∧ (∀ k, v'.ownBlock = some k → v.ownBlock = some k ∨ w.heap.size ≤ k) := by
  obtain ⟨cs, h1, h2⟩ := hO
  obtain ⟨ds, ⟨g1, g2, ao, cap, rfl, g3, g4, g5⟩, g6⟩ := hE
  have hpos := K.pos
  have hone : ∀ y ∈ ds, y.oneCell' = true := by
    intro y hy
    obtain ⟨q, hq⟩ := List.mem_iff_getElem?.1 hy
    have hql := (List.getElem?_eq_some_iff.1 hq).1
    rw [g1] at hql
    have hdiv : q / K.size < m.length := (Nat.div_lt_iff_lt_mul hpos).2 hql
    obtain ⟨c, hc⟩ := get_some (xs := m) (k := q / K.size) hdiv
    obtain ⟨x, x1, x2⟩ := g6 _ c hc
    obtain ⟨⟨⟨_, o', n', hx, _⟩, _⟩, _⟩ := x2
    have hmod : q % K.size < (K.cells c x).size := by rw [K.fits]; exact Nat.mod_lt _ hpos
    have h9 := x1 (q % K.size) _ (Array.getElem?_eq_getElem hmod)
    rw [Nat.div_add_mod' q K.size, hq] at h9
    have hmem : y ∈ (K.cells c x).toList := by
      rw [Option.some.inj h9]
      exact Array.getElem_mem_toList _
    rw [hx] at hmem
    exact K.one _ _ _ _ y hmem
  have keep : ∀ (w' : World), Fr (fun k => v.ownBlock = some k) w w' → ∀ {es : List Value}, (cs ++ ds = es) → ∀ (i : Nat) (c : α), (l ++ m)[i]? = some c → ∃ x, (∀ (j : Nat) (y : Value), (K.cells c x)[j]? = some y → es[i * K.size + j]? = some y) ∧ Byt F w' x (K.pay c) := by
    intro w' hf es hes i c hc
    subst hes
    have hcl : cs.length = l.length * K.size := h1.1
    by_cases hil : i < l.length
    · rw [List.getElem?_append_left hil] at hc
      obtain ⟨x, x1, x2⟩ := h2 i c hc
      refine ⟨x, fun j y hy => ?_, x2.fr hf fun k hk e => hb k e hk⟩
      have hj := (Array.getElem?_eq_some_iff.1 hy).1
      rw [K.fits] at hj
      have : i * K.size + j < cs.length := by
        rw [hcl]
        have h9 : (i + 1) * K.size ≤ l.length * K.size := Nat.mul_le_mul_right _ hil
        rw [Nat.add_mul, Nat.one_mul] at h9
        omega
      rw [List.getElem?_append_left this]
      exact x1 j y hy
    · rw [List.getElem?_append_right (by omega)] at hc
      obtain ⟨x, x1, x2⟩ := g6 _ c hc
      refine ⟨x, fun j y hy => ?_, x2.fr hf fun k hk e => hb k e hk⟩
      have h9 : (i - l.length) * K.size + l.length * K.size = i * K.size := by rw [← Nat.add_mul]; congr 1; omega
      rw [List.getElem?_append_right (by rw [hcl]; omega), hcl, show i * K.size + j - l.length * K.size = (i - l.length) * K.size + j by omega]
      exact x1 j y hy
  cases ao with
  | none =>
    have h0 : m = [] := by
      cases m with
      | nil => rfl
      | cons c m =>
        obtain ⟨x, x1, _⟩ := g6 0 c rfl
        obtain ⟨b, o, e', _⟩ := g5 _ _ (x1 0 _ (Array.getElem?_eq_getElem (by rw [K.fits]; exact hpos)))
        cases e'
    subst h0
    have hd0 : ds = [] := List.eq_nil_of_length_eq_zero (by simpa using g1)
    rw [g3.2 rfl]
    refine ⟨v, w, run_append_owned_none w base t ty e i K.size ht hi v l.length cs h1, ⟨cs, by simpa using h1, ?_⟩, ⟨rfl, rfl, rfl, Nat.le_refl _, fun _ _ _ => rfl⟩, fun k hk => .inl hk⟩
    exact keep w (Fr.refl _ _) (by rw [hd0, List.append_nil])
  | some a =>
    obtain ⟨v', w', r1, r2, r3, r4⟩ := run_append_where (P := P) w base t ty e i z K.size bytes ht hi hz hsize hby hzs hpos v l.length cs h1 a m.length cap ds g1 (fun j y hy => by
      obtain ⟨b, o, e', hc⟩ := g5 j y hy
      cases e'
      rw [Addr.add_lit]
      exact hc) hone h63 hbytes hbase
    refine ⟨v', w', r1, ⟨cs ++ ds, by rw [List.length_append]; exact r2, ?_⟩, r3, fun k hk => ?_⟩
    · exact keep w' ((Fr.refl _ w).grown r3 fun k hk => .inl hk) rfl
    · by_cases hkl : k < w.heap.size
      · left
        apply Classical.byContradiction
        intro hne
        exact r4 k hkl (fun e => hne e.symm) hk.symm
      · exact .inr (by omega)
/-- A literal without elements. -/
theorem ownEls_empty (K : Kind9 α) (F : Nat → Prop) (w : World) {base : Nat} (e : TypeId) (hb : base ≤ w.heap.size) : OwnEls base e K F (w.alloc (.cells #[] e)) (.slice (some ⟨w.heap.size, 0, none⟩) 0 0) [] := by
  refine ⟨[], ?_, fun i c hc => by simp at hc⟩
  exact World.ownsRow_made w #[] 0 hb (by simp [maxLen]) (by simp)
/-- A literal of one element. -/
theorem elsX_one {F : Nat → Prop} {w : World} {g : Nat} {c : α} {x : Value} {t : TypeId} (hg : w.heap[g]? = some (.cells (K.cells c x) t (0, 0))) (hx : Byt F w x (K.pay c)) : ElsX K (fun k => k = g) F w (.slice (some ⟨g, 0, none⟩) 1 1) [c] := by
  refine ⟨(K.cells c x).toList, ⟨by rw [Array.length_toList, K.fits]; simp, by simp [maxLen], _, _, rfl, ⟨Nat.le_refl _, fun e => by cases e⟩, fun b o s e => (by cases e; rfl), fun j u hu => ⟨g, 0, rfl, ?_⟩⟩, fun i c' hc => ?_⟩
  · rw [cell_of_row _ _ _ _ _ _ hg, Nat.zero_add]
    simpa using hu
  · have hi : i = 0 := by
      have := (List.getElem?_eq_some_iff.1 hc).1
      simp at this
      omega
    subst hi
    simp at hc
    subst hc
    refine ⟨x, fun j y hy => ?_, hx⟩
    rw [Nat.zero_mul, Nat.zero_add]
    simpa using hy
theorem els_one {F : Nat → Prop} {w : World} {g : Nat} {c : α} {x : Value} {t : TypeId} (hg : w.heap[g]? = some (.cells (K.cells c x) t (0, 0))) (hx : Byt F w x (K.pay c)) : Els K (fun k => F k ∨ k = g) w (.slice (some ⟨g, 0, none⟩) 1 1) [c] := by
  refine ⟨(K.cells c x).toList, ⟨by rw [Array.length_toList, K.fits]; simp, by simp [maxLen], _, _, rfl, ⟨Nat.le_refl _, fun e => by cases e⟩, fun b o s e => (by cases e; exact .inr rfl), fun j u hu => ⟨g, 0, rfl, ?_⟩⟩, fun i c' hc => ?_⟩
  · rw [cell_of_row _ _ _ _ _ _ hg, Nat.zero_add]
    simpa using hu
  · have hi : i = 0 := by
      have := (List.getElem?_eq_some_iff.1 hc).1
      simp at this
      omega
    subst hi
    simp at hc
    subst hc
    refine ⟨x, fun j y hy => ?_, hx.mono fun k hk => .inl hk⟩
    rw [Nat.zero_mul, Nat.zero_add]
    simpa using hy
end
section
variable {P : Program} {ops : Array Oper} {rest : List Oper} {o : Oper} {a : Act} {w : World} {Q : Exit → Act → World → Prop}
theorem wpList_append_run (hgd : o.guard = none) (s x : Operand) (t : TypeId) (ho : o.op = .call { callee := .builtin .append, args := #[s, x], argTypes := #[t, t] }) {v u v' : Value} {w' : World} (hs : a.eval s = v) (hx : a.eval x = u)
    (hrun : (Builtin.append_ #[t, t] o.type #[v, u]).run P w = .ok v' w') (h : wpList P ops Q rest (a.put o.dst v') w') : wpList P ops Q (o :: rest) a w := by
  refine wpList_plain hgd fun K hK => ?_
  unfold Oper.wp execOp
  simp only [ho, resolve, invoke, builtin, Sem.run_bind, Sem.run_pure, Result.andThen_ok, List.map_toArray, List.map_cons, List.map_nil, hs, hx, hrun]
  exact hK _ _ h
end

end Go.Proofs.YthmdibagcbbgoaaGreat

namespace Go.Proofs.YthmdibagcbbgoaaGreat
open Go.RowKit

/-- send at a world in which nothing of the end was turned. -/
theorem lsend_at (B : Nat) (col : Nat → Nat) (w : World) (a sg rg : Nat) (ov iv : Value) (t : Lk) (h : LkP B col w a sg rg ov iv t) (c : Cn) (x : Value) (hx : Byt (fun k => col k = 7) w x c.data) (hm : t.out.length ≤ 100000) (W : World) (hb : Below w.heap.size w W) :
    Calls Tryz.prog 39 #[.pointer (some ⟨a, 0, none⟩), .agg #[.int .i64 c.kind, .int .i64 c.ns, .int .i64 c.nr, .bool c.p, .int .i64 c.me, .int .i64 c.peer, x]] W fun e w' => (∃ v, e = .returned v) ∧ LkTo B col w a sg rg (t.send c) w' := by
  refine (lsend_any B _ W a sg rg ov iv t (h.skip (n := 0) hb) c x ((hx.below hb).mono fun k hk => h.cols.keep hk (by omega)) hm).mono ?_
  rintro e w' ⟨hv, h1⟩
  exact ⟨hv, LkTo.then_ hb.size (fun k hk _ => paint_old hk) (.of_below hb) h1⟩

set_option maxRecDepth 100000 in
set_option maxHeartbeats 2000000 in
theorem ldata_any (B : Nat) (col : Nat → Nat) (w : World) (a sg rg : Nat) (ov iv : Value) (t : Lk) (h : LkP B col w a sg rg ov iv t) (ns : Int) (p : List Int) (poll : Bool) (x : Value) (hx : Byt (fun k => col k = 7) w x p) (hm : t.out.length ≤ 100000) :
    Calls Tryz.prog 51 #[.pointer (some ⟨a, 0, none⟩), .int .i64 ns, x, .bool poll] w fun e w' => (∃ v, e = .returned v) ∧ LkTo B col w a sg rg (t.dat ns p poll) w' := by
  obtain ⟨xo, xc, rfl⟩ : ∃ xo xc, x = .slice xo p.length xc := by
    obtain ⟨⟨⟨_, ao, cap, h, _⟩, _⟩, _⟩ := hx
    exact ⟨ao, cap, h⟩
  have HW := fun W : World => fun hb : Below w.heap.size w W => rcwaits_any _ _ rg t.r W (h.rcv.below hb)
  have HS := lsend_at B col w a sg rg ov iv t h ⟨1, ns, t.r.waits, poll, 0, t.peer, p⟩ (.slice xo p.length xc) hx hm
  have e1 := h.c1
  have e12 := h.c12
  clear h hx
  go_enter Tryz.func51, Tryz.ntmps51
  go_wp2_with fail
  go_region_held3 (fun w' => w'.cell? ⟨a, 1, none⟩ = some (.int .i64 t.peer) ∧ w'.cell? ⟨a, 12, none⟩ = some (.pointer (some ⟨rg, 0, none⟩)))
    (first | exact ⟨e1, e12⟩ | exact ⟨hp4.c1, hp4.c12⟩)
    (first | (go_at_call 52; refine (HW _ (bl_drew (bl_refl _))).mono ?_; rintro e w3 ⟨rfl, rfl⟩) | (go_at_call 39; refine (HS _ (bl_drew (bl_refl _))).mono ?_; rintro e w4 ⟨⟨v, rfl⟩, h4⟩; obtain ⟨c4, o4, i4, hp4, _⟩ := h4.open_))
  go_wp2
  go_end0
  exact ⟨⟨_, rfl⟩, h4⟩

set_option maxRecDepth 100000 in
set_option maxHeartbeats 2000000 in
theorem lanswer_any (B : Nat) (col : Nat → Nat) (w : World) (a sg rg : Nat) (ov iv : Value) (t : Lk) (h : LkP B col w a sg rg ov iv t) (hm : t.out.length ≤ 100000) :
    Calls Tryz.prog 62 #[.pointer (some ⟨a, 0, none⟩)] w fun e w' => (∃ v, e = .returned v) ∧ LkTo B col w a sg rg t.answer w' := by
  have HW := fun W : World => fun hb : Below w.heap.size w W => rcwaits_any _ _ rg t.r W (h.rcv.below hb)
  have HS := lsend_at B col w a sg rg ov iv t h ⟨if t.held then 3 else 2, 0, t.r.waits, false, 0, t.peer, []⟩ _ (byt_nil _ _) hm
  have e1 := h.c1
  have e12 := h.c12
  have e10 := h.c10
  have hq : t.answer = t.send ⟨if t.held then 3 else 2, 0, t.r.waits, false, 0, t.peer, []⟩ := rfl
  rw [← hq] at HS
  clear h hq
  cases hh : t.held with
  | false =>
    rw [hh] at HS e10
    simp only [Bool.false_eq_true, if_false] at HS
    go_enter Tryz.func62, Tryz.ntmps62
    go_wp2_with fail
    go_region_held3 (fun w' => w'.cell? ⟨a, 1, none⟩ = some (.int .i64 t.peer) ∧ w'.cell? ⟨a, 12, none⟩ = some (.pointer (some ⟨rg, 0, none⟩)))
      (first | exact ⟨e1, e12⟩ | exact ⟨hp4.c1, hp4.c12⟩)
      (first | (go_at_call 52; refine (HW _ (bl_drew (bl_refl _))).mono ?_; rintro e w3 ⟨rfl, rfl⟩) | (go_at_call 39; refine (HS _ (bl_drew (bl_refl _))).mono ?_; rintro e w4 ⟨⟨v, rfl⟩, h4⟩; obtain ⟨c4, o4, i4, hp4, _⟩ := h4.open_))
    go_wp2
    go_end0
    exact ⟨⟨_, rfl⟩, h4⟩
  | true =>
    rw [hh] at HS e10
    simp only [if_true] at HS
    go_enter Tryz.func62, Tryz.ntmps62
    go_wp2_with fail
    go_region_held3 (fun w' => w'.cell? ⟨a, 1, none⟩ = some (.int .i64 t.peer) ∧ w'.cell? ⟨a, 12, none⟩ = some (.pointer (some ⟨rg, 0, none⟩)))
      (first | exact ⟨e1, e12⟩ | exact ⟨hp4.c1, hp4.c12⟩)
      (first | (go_at_call 52; refine (HW _ (bl_drew (bl_refl _))).mono ?_; rintro e w3 ⟨rfl, rfl⟩) | (go_at_call 39; refine (HS _ (bl_drew (bl_refl _))).mono ?_; rintro e w4 ⟨⟨v, rfl⟩, h4⟩; obtain ⟨c4, o4, i4, hp4, _⟩ := h4.open_))
    go_wp2
    go_end0
    exact ⟨⟨_, rfl⟩, h4⟩

end Go.Proofs.YthmdibagcbbgoaaGreat
