/- (*link.Link).Out, In, Up, Me, Peer, Pending, Resets; link.New. Conditions: as they stand. -/
import Derived.Test.YthmdibagcbbgoaaM18
namespace Go.Proofs.Ythmdibagcbbgoaa
open Go.RowKit

/-- A row of controls that nobody turns any more: its cells and its payloads lie in F. -/
def CtlsR (F : Nat → Prop) (w : World) (v : Value) (l : List Cn) : Prop :=
  l.length ≤ maxLen ∧ ∃ ao cap, v = .slice ao l.length cap ∧ l.length ≤ cap ∧ ∀ (i : Nat) (c : Cn), l[i]? = some c → ∃ b x, ao = some ⟨b, 0, none⟩ ∧ F b ∧ (∀ (j : Nat) (y : Value), (c.agg x)[j]? = some y → w.cell? ⟨b, i * 7 + j, none⟩ = some y) ∧ Byt F w x c.data
theorem CtlsR.fr {F G : Nat → Prop} {w w' : World} {v : Value} {l : List Cn} (h : CtlsR F w v l) (hf : Fr G w w') (hd : ∀ k, F k → ¬ G k) : CtlsR F w' v l := by
  obtain ⟨hm, ao, cap, hv, hl, hc⟩ := h
  refine ⟨hm, ao, cap, hv, hl, fun i c hi => ?_⟩
  obtain ⟨b, x, ha, hF, h1, h2⟩ := hc i c hi
  exact ⟨b, x, ha, hF, fun j y hy => hf.cell (h1 j y hy) (hd b hF), h2.fr hf hd⟩
theorem CtlsR.mono {F G : Nat → Prop} {w : World} {v : Value} {l : List Cn} (h : CtlsR F w v l) (hd : ∀ k, F k → G k) : CtlsR G w v l := by
  obtain ⟨hm, ao, cap, hv, hl, hc⟩ := h
  refine ⟨hm, ao, cap, hv, hl, fun i c hi => ?_⟩
  obtain ⟨b, x, ha, hF, h1, h2⟩ := hc i c hi
  exact ⟨b, x, ha, hd b hF, h1, h2.mono hd⟩
theorem CtlsAt.read {B : Nat} {col : Nat → Nat} {d : Nat} {w : World} {v : Value} {l : List Cn} (h : CtlsAt B col d w v l) (hm : l.length ≤ 1000000) : CtlsR (fun k => col k = d ∨ col k = 7) w v l := by
  obtain ⟨cs, h2, h3, h4⟩ := h
  obtain ⟨ao, cap, hv⟩ := rc_form h2
  have hcap : l.length ≤ cap := by
    rcases h2.2 with ⟨e, h0⟩ | ⟨g, cap', cur, e, _, _, h5, _⟩
    · omega
    · rw [hv] at e; cases e; exact h5
  refine ⟨by unfold maxLen; omega, ao, cap, hv, hcap, fun i c hi => ?_⟩
  obtain ⟨x, g0, g1⟩ := h4 i c hi
  have hl : i < l.length := (List.getElem?_eq_some_iff.1 hi).1
  obtain ⟨g, hg⟩ : ∃ g, ao = some ⟨g, 0, none⟩ := by
    rcases h2.2 with ⟨e, h0⟩ | ⟨g, cap', cur, e, _⟩
    · omega
    · rw [hv] at e; cases e; exact ⟨g, rfl⟩
  subst hg
  subst hv
  refine ⟨g, x, rfl, .inl (h3 g rfl), fun j y hy => ?_, g1.mono fun k hk => .inr hk⟩
  have := h2.cells (g := g) rfl _ _ (g0 j y hy)
  rw [Addr.add_lit] at this
  simpa using this

section
variable {B : Nat} {col : Nat → Nat} {w w' : World} {a sg rg : Nat} {ov iv : Value} {t : Lk} {G : Nat → Prop}
/-- Nothing of it was turned. -/
theorem LkP.fr (h : LkP B col w a sg rg ov iv t) (hf : Fr G w w') (hd : ∀ k, col k ≠ 0 → ¬ G k) : LkP B col w' a sg rg ov iv t :=
  ⟨h.cols.grow hf.size, h.own, hf.get h.hb (hd _ (by rw [h.own]; omega)), h.snd.fr hf (fun k hk => hd k (by omega)), h.rcv.fr hf (fun k hk => hd k (by omega)), h.out.fr hf (fun k hk => hd k (by omega)), h.inn.fr hf (fun k hk => hd k (by omega))⟩
/-- The blocks of one colour are let go. -/
def freed (d : Nat) (col : Nat → Nat) : Nat → Nat := fun k => if col k = d then 0 else col k
theorem freed_ne {d c k : Nat} (h : freed d col k = c) (hc : c ≠ 0) : col k = c ∧ c ≠ d := by
  unfold freed at h
  split at h
  · omega
  · exact ⟨h, by omega⟩
theorem freed_of {d c k : Nat} (h : col k = c) (hc : c ≠ d) : freed d col k = c := by unfold freed; rw [if_neg (by omega)]; exact h
theorem rows_freed {d c : Nat} {v : Value} {ps : List (List Int)} (h : RowsAt B col c w v ps) (h1 : c ≠ d) (h7 : d ≠ 7) : RowsAt B (freed d col) c w v ps := by
  obtain ⟨vs, p1, p2, p3, p4⟩ := h
  exact ⟨vs, p1, p2, fun k hk => freed_of (p3 k hk) h1, fun i x p hx hp => (p4 i x p hx hp).mono fun k hk => freed_of hk (by omega)⟩
theorem ctls_freed {d c : Nat} {v : Value} {l : List Cn} (h : CtlsAt B col c w v l) (h1 : c ≠ d) (h7 : d ≠ 7) : CtlsAt B (freed d col) c w v l := by
  obtain ⟨cs, h2, h3, h4⟩ := h
  refine ⟨cs, h2, fun k hk => freed_of (h3 k hk) h1, fun i c hc => ?_⟩
  obtain ⟨x, g0, g1⟩ := h4 i c hc
  exact ⟨x, g0, g1.mono fun k hk => freed_of hk (by omega)⟩
theorem snd_freed {d : Nat} {s : Snd} (h : SndAt (fun k => col k = 2) w sg s) (h1 : 2 ≠ d) : SndAt (fun k => freed d col k = 2) w sg s :=
  h.mono (fun k hk => freed_of hk h1) (fun k hk => h.1 k (freed_ne hk (by omega)).1)
theorem rcv_freed {d : Nat} {r : Rcv} (h : RcvAt (fun k => col k = 3) (fun k => col k = 7) w rg r) (h1 : 3 ≠ d) (h7 : 7 ≠ d) : RcvAt (fun k => freed d col k = 3) (fun k => freed d col k = 7) w rg r :=
  h.mono (fun k hk => freed_of hk h1) (fun k hk => freed_of hk h7) (fun k hk e => by have := (freed_ne hk (by omega)).1; have := (freed_ne e (by omega)).1; omega)
theorem cols_freed {d : Nat} (h : Cols B col w) : Cols B (freed d col) w := ⟨h.1, fun k hk => h.2 k (fun e => hk (by unfold freed; split; rfl; exact e))⟩
/-- What it sent was taken. -/
theorem LkP.outed (h : LkP B col w a sg rg ov iv t) : LkP B (freed 4 col) (w.setCell ⟨a, 13, none⟩ (.slice none 0 0)) a sg rg (.slice none 0 0) iv { t with out := [] } := by
  have hq := fr_cell w a 13 (.slice none 0 0)
  have ho : freed 4 col a = 1 := freed_of h.own (by omega)
  have hn : ∀ k, freed 4 col k ≠ 1 → ¬ k = a := fun k hk e => hk (e ▸ ho)
  exact ⟨(cols_freed h.cols).grow hq.size, ho, by rw [set_obj _ _ _ _ _ _ h.hb]; rfl, (snd_freed h.snd (by omega)).fr hq (fun k hk => hn k (by omega)), (rcv_freed h.rcv (by omega) (by omega)).fr hq (fun k hk => hn k (by omega)),
    ⟨[], ⟨rfl, .inl ⟨rfl, rfl⟩⟩, fun k hk => by simp [Value.ownBlock] at hk, fun i c hc => by simp at hc⟩, (rows_freed h.inn (by omega) (by omega)).fr hq (fun k hk => hn k (by omega))⟩
/-- What came in was taken. -/
theorem LkP.inned (h : LkP B col w a sg rg ov iv t) : LkP B (freed 5 col) (w.setCell ⟨a, 14, none⟩ (.slice none 0 0)) a sg rg ov (.slice none 0 0) { t with inn := [] } := by
  have hq := fr_cell w a 14 (.slice none 0 0)
  have ho : freed 5 col a = 1 := freed_of h.own (by omega)
  have hn : ∀ k, freed 5 col k ≠ 1 → ¬ k = a := fun k hk e => hk (e ▸ ho)
  exact ⟨(cols_freed h.cols).grow hq.size, ho, by rw [set_obj _ _ _ _ _ _ h.hb]; rfl, (snd_freed h.snd (by omega)).fr hq (fun k hk => hn k (by omega)), (rcv_freed h.rcv (by omega) (by omega)).fr hq (fun k hk => hn k (by omega)),
    (ctls_freed h.out (by omega) (by omega)).fr hq (fun k hk => hn k (by omega)), ⟨[], rfl, ⟨rfl, .inl ⟨rfl, rfl⟩⟩, fun k hk => by simp [Value.ownBlock] at hk, fun i x p hx => by simp at hx⟩⟩
end

set_option maxRecDepth 100000 in
set_option maxHeartbeats 2000000 in
theorem lout_any (B : Nat) (col : Nat → Nat) (w : World) (a sg rg : Nat) (ov iv : Value) (t : Lk) (h : LkP B col w a sg rg ov iv t) :
    Calls Try.prog 11 #[.pointer (some ⟨a, 0, none⟩)] w fun e w' => e = .returned ov ∧ w' = w.setCell ⟨a, 13, none⟩ (.slice none 0 0) := by
  have e13 := h.c13
  have z13 := h.frozen 13
  obtain ⟨cs, v2, _⟩ := h.out
  obtain ⟨oo, oc, rfl⟩ := rc_form v2
  clear h v2
  go_enter Try.func11, Try.ntmps11
  go_wp2
  go_ret
  exact ⟨rfl, rfl⟩

set_option maxRecDepth 100000 in
set_option maxHeartbeats 2000000 in
theorem lin_any (B : Nat) (col : Nat → Nat) (w : World) (a sg rg : Nat) (ov iv : Value) (t : Lk) (h : LkP B col w a sg rg ov iv t) :
    Calls Try.prog 12 #[.pointer (some ⟨a, 0, none⟩)] w fun e w' => e = .returned iv ∧ w' = w.setCell ⟨a, 14, none⟩ (.slice none 0 0) := by
  have e14 := h.c14
  have z14 := h.frozen 14
  obtain ⟨cs, v1, v2, _⟩ := h.inn
  obtain ⟨oo, oc, hv⟩ := rc_form v2
  rw [v1] at hv
  subst hv
  clear h v2 v1
  go_enter Try.func12, Try.ntmps12
  go_wp2
  go_ret
  exact ⟨rfl, rfl⟩

section
variable (B : Nat) (col : Nat → Nat) (w : World) (a sg rg : Nat) (ov iv : Value) (t : Lk) (h : LkP B col w a sg rg ov iv t)
include h
theorem lup_any : Calls Try.prog 13 #[.pointer (some ⟨a, 0, none⟩)] w fun e w' => e = .returned (.bool t.up) ∧ w = w' := by
  have e2 := h.c2
  clear h
  go_enter Try.func13, Try.ntmps13
  go_wp2
  go_ret
  exact ⟨rfl, rfl⟩
theorem lme_any : Calls Try.prog 14 #[.pointer (some ⟨a, 0, none⟩)] w fun e w' => e = .returned (.int .i64 t.me) ∧ w = w' := by
  have e0 := h.c0
  clear h
  go_enter Try.func14, Try.ntmps14
  go_wp2
  go_ret
  exact ⟨rfl, rfl⟩
theorem lpeer_any : Calls Try.prog 15 #[.pointer (some ⟨a, 0, none⟩)] w fun e w' => e = .returned (.int .i64 t.peer) ∧ w = w' := by
  have e1 := h.c1
  clear h
  go_enter Try.func15, Try.ntmps15
  go_wp2
  go_ret
  exact ⟨rfl, rfl⟩
theorem lpending_any : Calls Try.prog 17 #[.pointer (some ⟨a, 0, none⟩)] w fun e w' => e = .returned (.int .i64 t.s.ps.length) ∧ w = w' := by
  have e11 := h.c11
  have HL := slen_any _ sg t.s w h.snd
  clear h
  go_enter Try.func17, Try.ntmps17
  go_wp2_with fail
  refine HL.mono ?_
  rintro e w2 ⟨rfl, rfl⟩
  go_wp2
  go_ret
  exact ⟨rfl, rfl⟩
end

/-- A new end, ahead of its setup. -/
def Lk.blank (me size timer tries : Nat) : Lk := ⟨me, -1, false, size, timer, tries, 0, 0, 0, false, false, ⟨size, 0, [], 0⟩, ⟨size, 0, [], []⟩, [], []⟩
def Lk.new (me size timer tries : Nat) : Lk := (Lk.blank me size timer tries).setup false

theorem blank_at {B me size timer tries : Nat} {w w1 w2 : World} (hB : B ≤ w.heap.size) (hs : SndAt (fun k => k = w.heap.size) w1 w.heap.size ⟨size, 0, [], 0⟩) (hb : Below w.heap.size w w1)
    (hr : RcvAt (fun k => w1.heap.size ≤ k ∧ k < w2.heap.size) (fun _ => False) w2 w1.heap.size ⟨size, 0, [], []⟩) (hb2 : Below w1.heap.size w1 w2) :
    ∃ col, LkP B col (w2.alloc (.cells ((Lk.blank me size timer tries).cells w.heap.size w1.heap.size (.slice none 0 0) (.slice none 0 0)) 65)) w2.heap.size w.heap.size w1.heap.size (.slice none 0 0) (.slice none 0 0) (Lk.blank me size timer tries) ∧ (∀ k, k < w.heap.size → col k = 0) ∧
      Below w.heap.size w (w2.alloc (.cells ((Lk.blank me size timer tries).cells w.heap.size w1.heap.size (.slice none 0 0) (.slice none 0 0)) 65)) := by
  have hsz := hb.size
  have hsl := hs.1 _ rfl
  have hrl : w1.heap.size < w2.heap.size := by
    obtain ⟨mb, ab, fk, hp⟩ := hr
    exact lt_of_get hp.hb
  have hb3 := bl_alloc (bl_refl w2) (.cells ((Lk.blank me size timer tries).cells w.heap.size w1.heap.size (.slice none 0 0) (.slice none 0 0)) 65)
  have hbx := heap_alloc_new w2 (.cells ((Lk.blank me size timer tries).cells w.heap.size w1.heap.size (.slice none 0 0) (.slice none 0 0)) 65)
  have hs3 := lt_of_get hbx
  generalize w2.alloc (.cells ((Lk.blank me size timer tries).cells w.heap.size w1.heap.size (.slice none 0 0) (.slice none 0 0)) 65) = W at hb3 hbx hs3
  refine ⟨fun k => if k = w.heap.size then 2 else if w1.heap.size ≤ k ∧ k < w2.heap.size then 3 else if k = w2.heap.size then 1 else 0, ⟨⟨by omega, fun k hk => ?_⟩, ?_, hbx, ?_, ?_, ⟨[], ⟨rfl, .inl ⟨rfl, rfl⟩⟩, fun k hk => by simp [Value.ownBlock] at hk, fun i c hc => by simp [Lk.blank] at hc⟩, ⟨[], rfl, ⟨rfl, .inl ⟨rfl, rfl⟩⟩, fun k hk => by simp [Value.ownBlock] at hk, fun i x p hx => by simp at hx⟩⟩, fun k hk => ?_, ?_⟩
  · show B ≤ k ∧ k < W.heap.size
    by_cases g1 : k = w.heap.size
    · omega
    by_cases g2 : w1.heap.size ≤ k ∧ k < w2.heap.size
    · omega
    by_cases g3 : k = w2.heap.size
    · omega
    · exact absurd (by show (if k = w.heap.size then 2 else if w1.heap.size ≤ k ∧ k < w2.heap.size then 3 else if k = w2.heap.size then 1 else 0) = 0; rw [if_neg g1, if_neg g2, if_neg g3]) hk
  · show (if w2.heap.size = w.heap.size then 2 else if w1.heap.size ≤ w2.heap.size ∧ w2.heap.size < w2.heap.size then 3 else if w2.heap.size = w2.heap.size then 1 else 0) = 1
    rw [if_neg (by omega), if_neg (by omega), if_pos rfl]
  · refine ((hs.below hb2).below hb3).mono (fun k hk => ?_) (fun k hk => ?_)
    · rw [if_pos hk]
    · by_cases g1 : k = w.heap.size
      · omega
      · rw [if_neg g1] at hk
        by_cases g2 : w1.heap.size ≤ k ∧ k < w2.heap.size
        · omega
        · rw [if_neg g2] at hk
          by_cases g3 : k = w2.heap.size
          · omega
          · rw [if_neg g3] at hk
            omega
  · refine (hr.below hb3).mono (fun k hk => ?_) (fun k hk => hk.elim) (fun k hk e => by omega)
    show (if k = w.heap.size then 2 else if w1.heap.size ≤ k ∧ k < w2.heap.size then 3 else if k = w2.heap.size then 1 else 0) = 3
    rw [if_neg (by omega), if_pos hk]
  · show (if k = w.heap.size then 2 else if w1.heap.size ≤ k ∧ k < w2.heap.size then 3 else if k = w2.heap.size then 1 else 0) = 0
    rw [if_neg (by omega), if_neg (by omega), if_neg (by omega)]
  · exact (hb.trans (hb2.mono hsz)).trans (hb3.mono (by omega))

set_option maxRecDepth 100000 in
set_option maxHeartbeats 2000000 in
theorem lnew_ok (me size timer tries : Nat) (h1 : me ≤ 65535) (h2 : 1 ≤ timer) (h3 : timer ≤ 64) (h4 : 1 ≤ tries) (h5 : tries ≤ 64) (h6 : 1 ≤ size) (h7 : size ≤ 63) (B : Nat) (w : World) (hB : B ≤ w.heap.size) :
    Calls Try.prog 40 #[.int .i64 me, .int .i64 size, .int .i64 timer, .int .i64 tries] w fun e w' => ∃ a sg rg col ov iv, e = .returned (.tuple #[.pointer (some ⟨a, 0, none⟩), .int .i64 0]) ∧ LkP B col w' a sg rg ov iv (Lk.new me size timer tries) ∧ (∀ k, k < w.heap.size → col k = 0) ∧ Below w.heap.size w w' := by
  have HS := Lib.hid (snew_ok size h6 h7 w)
  have i1 : (me : Int) ≤ 65535 := by omega
  have i2 : (1 : Int) ≤ (timer : Int) := by omega
  have i3 : (timer : Int) ≤ 64 := by omega
  have i4 : (1 : Int) ≤ (tries : Int) := by omega
  have i5 : (tries : Int) ≤ 64 := by omega
  go_enter Try.func40, Try.ntmps40
  go_wp2_with fail
  refine HS.out.mono ?_
  rintro e w1 ⟨rfl, hs, hb⟩
  have hsz := hb.size
  have hsl := hs.1 _ rfl
  have HS1 := Lib.hid hs
  have HB1 := Lib.hid hb
  clear hs hb
  go_wp2_with fail
  refine (rcnew_ok size h6 h7 w1).mono ?_
  rintro e w2 ⟨rfl, hr, hb2⟩
  obtain ⟨col, hp, hcol, hball⟩ := blank_at (me := me) (timer := timer) (tries := tries) hB HS1.out HB1.out hr hb2
  have HC := Lib.hid hcol
  have HBA := Lib.hid hball
  have HSET := lsetup_any B col _ _ _ _ _ _ _ hp false (by show (0 : Nat) ≤ _; omega)
  have HCC := Lib.hid hp.cols
  clear hr hb2 hp hcol hball
  go_wp2_with fail
  refine HSET.mono ?_
  rintro e w4 ⟨⟨v, rfl⟩, h4⟩
  obtain ⟨c4, o4, i4, hp4, hc4, HF4, _⟩ := h4.openf
  have HP4 := Lib.hid hp4
  have HC4 : Hid (∀ k, k < w.heap.size → c4 k = 0) := fun k hk => by
    have h9 := hc4 k (Nat.lt_of_lt_of_le hk HBA.out.size)
    have h8 := HC.out k hk
    omega
  have HB4 : Hid (Below w.heap.size w w4) := HBA.out.trans (fr_bl HF4.out (fun k hk => by
    rcases Nat.lt_or_ge k w.heap.size with h | h
    · have := HC.out k h; omega
    · exact h) HBA.out.size)
  clear h4 hp4 hc4 HSET
  go_wp2
  go_ret2
  exact ⟨_, _, _, _, _, _, rfl, HP4.out, HC4.out, HB4.out⟩

end Go.Proofs.Ythmdibagcbbgoaa
