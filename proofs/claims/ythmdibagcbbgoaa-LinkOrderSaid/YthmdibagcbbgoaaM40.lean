/- portagelaw09's line: begin, push. Conditions: as they stand. -/
import Derived.Test.YthmdibagcbbgoaaM37
import Derived.Test.YthmdibagcbbgoaaM39
namespace Go.Proofs.Ythmdibagcbbgoaa
open Go.RowKit

def two {α : Type} (x y : α) : Nat → α := fun i => if i = 0 then x else y
def Ln.start (x y : Lk) : Ln := ⟨two x y, fun _ => [], fun _ => 0, fun _ => []⟩
theorem ln_start {B : Nat} {w : World} {c1 c2 : Nat → Nat} {a1 s1 r1 a2 s2 r2 : Nat} {o1 i1 o2 i2 : Value} {x y : Lk} {nb : Nat} {a b : St} (h1 : LkP B c1 w a1 s1 r1 o1 i1 x) (h2 : LkP B c2 w a2 s2 r2 o2 i2 y) (hd : ∀ k, c1 k ≠ 0 → c2 k = 0)
    (hb : w.heap[nb]? = some (.cells (lineCells (two a1 a2) (two a b) (two (.slice none 0 0) (.slice none 0 0)) (two (.slice none 0 0) (.slice none 0 0)) (fun _ => 0) true) 60 (0, 0))) (hnb : B ≤ nb) (hn1 : c1 nb = 0) (hn2 : c2 nb = 0) : LineAt B w nb (two a b) true (Ln.start x y) := by
  refine ⟨⟨two c1 c2, fun k => if k = nb then 1 else 0, two a1 a2, two s1 s2, two r1 r2, two o1 o2, two i1 i2, two (.slice none 0 0) (.slice none 0 0), two (.slice none 0 0) (.slice none 0 0), ?_, ?_, hb, ?_, if_pos rfl, ?_, ?_, ?_⟩⟩
  · intro i hi
    rcases (show i = 0 ∨ i = 1 by omega) with rfl | rfl
    · exact h1
    · exact h2
  · intro i j k hi hj hne hk
    rcases (show (i = 0 ∧ j = 1) ∨ (i = 1 ∧ j = 0) by omega) with ⟨rfl, rfl⟩ | ⟨rfl, rfl⟩
    · exact hd k hk
    · apply Classical.byContradiction
      intro h
      exact hk (hd k h)
  · refine ⟨h1.cols.1, fun k hk => ?_⟩
    by_cases e : k = nb
    · subst e; exact ⟨hnb, lt_of_get hb⟩
    · simp only [if_neg e] at hk; exact absurd rfl hk
  · intro i k hi hk
    by_cases e : k = nb
    · subst e
      rcases (show i = 0 ∨ i = 1 by omega) with rfl | rfl
      · exact hn1
      · exact hn2
    · simp only [if_neg e] at hk; exact absurd rfl hk
  · intro i hi
    refine ⟨[], ⟨rfl, .inl ⟨by unfold two; split <;> rfl, rfl⟩⟩, fun k hk => ?_, fun j c hc => by cases hc⟩
    have : (two (Value.slice none 0 0) (Value.slice none 0 0) i).ownBlock = none := by unfold two; split <;> rfl
    rw [this] at hk; cases hk
  · intro i hi
    have e : two (Value.slice none 0 0) (Value.slice none 0 0) i = .slice none 0 0 := by unfold two; split <;> rfl
    rw [e]
    exact ⟨World.ownsRow_nil _ _ _ _, fun k hk => by cases hk⟩

set_option maxRecDepth 100000 in
set_option maxHeartbeats 4000000 in
theorem begin_ok (a b : St) (ha : a.Ok) (hb : b.Ok) (w : World) :
    Calls Try.prog 21 #[.agg #[.int .i64 a.me, .int .i64 a.size, .int .i64 a.timer, .int .i64 a.tries], .agg #[.int .i64 b.me, .int .i64 b.size, .int .i64 b.timer, .int .i64 b.tries]] w fun e w' => ∃ B nb, e = .returned (.pointer (some ⟨nb, 0, none⟩)) ∧ w.heap.size ≤ B ∧ LineAt B w' nb (two a b) true (Ln.start (Lk.new a.me a.size a.timer a.tries) (Lk.new b.me b.size b.timer b.tries)) ∧ Below w.heap.size w w' := by
  obtain ⟨w1, hw1, hb1, hz1, d0, d1, d2, d3⟩ := set_box w a.me a.size a.timer a.tries
  obtain ⟨w2, hw2, hb2, hz2, k0, k1, k2, k3⟩ := set_box w1 b.me b.size b.timer b.tries
  replace d0 := below_cell hb2 d0
  replace d1 := below_cell hb2 d1
  replace d2 := below_cell hb2 d2
  replace d3 := below_cell hb2 d3
  obtain ⟨B, hB⟩ : ∃ B, B = w2.heap.size := ⟨_, rfl⟩
  have HN1 := lnew_ok a.me a.size a.timer a.tries ha.me ha.timer1 ha.timer2 ha.tries1 ha.tries2 ha.size1 ha.size2 B w2 (by omega)
  have HB2 : Hid (Below w.heap.size w w2) := hb1.trans (hb2.mono hb1.size)
  have HZ : Hid (B = w2.heap.size ∧ w2.heap.size = w1.heap.size + 1 ∧ w1.heap.size = w.heap.size + 1) := ⟨hB, hz2, hz1⟩
  have HBO := Lib.hid hb
  clear hb1 hb2 hz1 hz2 hB ha hb
  go_enter Try.func21, Try.ntmps21
  go_wp2_with fail
  try simp only [hw1, hw2]
  go_wp2_with fail
  refine HN1.mono ?_
  rintro e w3 ⟨a1, s1, r1, c1, o1, i1, rfl, hp1, hc1, hb3⟩
  have hB3 : B ≤ w3.heap.size := by have := HZ.out.1; have := hb3.size; omega
  have HN2 := lnew_ok b.me b.size b.timer b.tries HBO.out.me HBO.out.timer1 HBO.out.timer2 HBO.out.tries1 HBO.out.tries2 HBO.out.size1 HBO.out.size2 B w3 hB3
  replace k0 := below_cell hb3 k0
  replace k1 := below_cell hb3 k1
  replace k2 := below_cell hb3 k2
  replace k3 := below_cell hb3 k3
  replace d0 := below_cell hb3 d0
  replace d1 := below_cell hb3 d1
  replace d2 := below_cell hb3 d2
  replace d3 := below_cell hb3 d3
  have HP1 := Lib.hid hp1
  have HB3 := Lib.hid hb3
  clear hp1 hc1 hb3 HN1 hB3
  go_wp2_with fail
  refine HN2.mono ?_
  rintro e w4 ⟨a2, s2, r2, c2, o2, i2, rfl, hp2, hc2, hb4⟩
  replace k0 := below_cell hb4 k0
  replace k1 := below_cell hb4 k1
  replace k2 := below_cell hb4 k2
  replace k3 := below_cell hb4 k3
  replace d0 := below_cell hb4 d0
  replace d1 := below_cell hb4 d1
  replace d2 := below_cell hb4 d2
  replace d3 := below_cell hb4 d3
  have hp1' := HP1.out.fr (G := fun _ => False) (.of_below hb4) (fun _ _ h => h)
  have HD : Hid (∀ k, c1 k ≠ 0 → c2 k = 0) := fun k hk => hc2 k (HP1.out.cols.2 k hk).2
  have HP1' := Lib.hid hp1'
  have HP2 := Lib.hid hp2
  have HB4 : Hid (Below w.heap.size w w4) := (HB2.out.trans (HB3.out.mono HB2.out.size)).trans (hb4.mono (by have := HB3.out.size; have := HB2.out.size; omega))
  clear hp1' hp2 hc2 hb4 HN2 HP1 HB3 HB2
  go_wp2
  go_ret
  have hba := bl_alloc (bl_refl w4) (.cells (lineCells (two a1 a2) (two a b) (two (.slice none 0 0) (.slice none 0 0)) (two (.slice none 0 0) (.slice none 0 0)) (fun _ => 0) true) 60)
  have hbx := heap_alloc_new w4 (.cells (lineCells (two a1 a2) (two a b) (two (.slice none 0 0) (.slice none 0 0)) (two (.slice none 0 0) (.slice none 0 0)) (fun _ => 0) true) 60)
  refine ⟨B, w4.heap.size, rfl, by have := HZ.out; omega, ?_, HB4.out.trans (hba.mono HB4.out.size)⟩
  refine ln_start (HP1'.out.fr (G := fun _ => False) (.of_below hba) (fun _ _ h => h)) (HP2.out.fr (G := fun _ => False) (.of_below hba) (fun _ _ h => h)) HD.out hbx HP2.out.cols.1 ?_ ?_
  · apply Classical.byContradiction
    intro hne
    exact Nat.lt_irrefl _ (HP1'.out.cols.2 _ hne).2
  · apply Classical.byContradiction
    intro hne
    exact Nat.lt_irrefl _ (HP2.out.cols.2 _ hne).2

set_option maxRecDepth 100000 in
set_option maxHeartbeats 4000000 in
theorem begin_bad (a0 a1 a2 a3 b0 b1 b2 b3 : Int) (h : ¬ (setOk a0 a1 a2 a3 ∧ setOk b0 b1 b2 b3)) (w : World) :
    Calls Try.prog 21 #[.agg #[.int .i64 a0, .int .i64 a1, .int .i64 a2, .int .i64 a3], .agg #[.int .i64 b0, .int .i64 b1, .int .i64 b2, .int .i64 b3]] w fun e w' => e = .returned (.pointer none) ∧ Below w.heap.size w w' := by
  obtain ⟨w1, hw1, hb1, hz1, d0, d1, d2, d3⟩ := set_box w a0 a1 a2 a3
  obtain ⟨w2, hw2, hb2, hz2, k0, k1, k2, k3⟩ := set_box w1 b0 b1 b2 b3
  replace d0 := below_cell hb2 d0
  replace d1 := below_cell hb2 d1
  replace d2 := below_cell hb2 d2
  replace d3 := below_cell hb2 d3
  have HN1 := lnew_some a0 a1 a2 a3 w2
  have HB2 : Hid (Below w.heap.size w w2) := hb1.trans (hb2.mono hb1.size)
  clear hb1 hb2 hz1 hz2
  go_enter Try.func21, Try.ntmps21
  go_wp2_with fail
  try simp only [hw1, hw2]
  go_wp2_with fail
  refine HN1.mono ?_
  rintro e w3 ⟨⟨v, n, rfl, hv⟩, hb3⟩
  have HN2 := lnew_some b0 b1 b2 b3 w3
  replace k0 := below_cell hb3 k0
  replace k1 := below_cell hb3 k1
  replace k2 := below_cell hb3 k2
  replace k3 := below_cell hb3 k3
  have HB3 : Hid (Below w.heap.size w w3) := HB2.out.trans (hb3.mono HB2.out.size)
  clear hb3 HB2 HN1 d0 d1 d2 d3
  go_wp2_with fail
  refine HN2.mono ?_
  rintro e w4 ⟨⟨u, m, rfl, hu⟩, hb4⟩
  have HB4 : Hid (Below w.heap.size w w4) := HB3.out.trans (hb4.mono HB3.out.size)
  clear hb4 HB3 HN2 k0 k1 k2 k3
  rcases hv with ⟨hs1, rfl, p, rfl⟩ | ⟨hs1, rfl, rfl⟩
  · rcases hu with ⟨hs2, rfl, q, rfl⟩ | ⟨hs2, rfl, rfl⟩
    · exact absurd ⟨hs1, hs2⟩ h
    · clear h hs1 hs2
      go_wp2
      go_ret
      exact ⟨rfl, HB4.out⟩
  · rcases hu with ⟨hs2, rfl, q, rfl⟩ | ⟨hs2, rfl, rfl⟩
    · clear h hs1 hs2
      go_wp2
      go_ret
      exact ⟨rfl, HB4.out⟩
    · clear h hs1 hs2
      go_wp2
      go_ret
      exact ⟨rfl, HB4.out⟩

def Ln.pushed (L : Ln) (i : Nat) : Ln :=
  { L with e := upd L.e i ((L.e i).push (enc (L.n i))), n := upd L.n i (if (L.e i).pushE (enc (L.n i)) = 0 then L.n i + 1 else L.n i) }
theorem reads_enc (W : World) (n : Nat) (p q : Int) (e : TypeId) (h1 : p = ((n / 256 % 256 : Nat) : Int)) (h2 : q = ((n % 256 : Nat) : Int)) : Reads (Value.int .u8) (W.alloc (.cells #[.int .u8 p, .int .u8 q] e)) (.slice (some ⟨W.heap.size, 0, none⟩) 2 2) (enc n) := by
  subst h1 h2
  refine ⟨by simp [enc, maxLen], _, _, rfl, ⟨by simp [enc], fun h => by cases h⟩, fun i z hz => ⟨_, _, rfl, ?_⟩⟩
  rw [cell_of_row _ _ _ _ _ _ (heap_alloc_new W _)]
  match i, hz with
  | 0, hz => simp [enc] at hz; subst hz; simp
  | 1, hz => simp [enc] at hz; subst hz; simp
  | n + 2, hz => simp [enc] at hz
theorem enc_wf (n : Nat) : ∀ x ∈ enc n, (Lit.int .u8 x).wf = true := by
  intro x hx
  simp only [enc, List.mem_cons, List.not_mem_nil, or_false] at hx
  exact Go.WalkArith.wf_u8 (by omega)
theorem lk_at {B : Nat} {col : Nat → Nat} {w W : World} {a s r : Nat} {ov iv : Value} {t t' : Lk} {w' : World} (_ : LkP B col w a s r ov iv t) (hb : Below w.heap.size w W) (hto : LkTo B (paint col w W 0) W a s r t' w') : LkTo B col w a s r t' w' :=
  LkTo.then_ hb.size (fun _ hk _ => paint_old hk) (.of_below hb) hto

theorem upd_self {α : Type} (f : Nat → α) (i : Nat) : upd f i (f i) = f := by
  funext j
  unfold upd
  split
  · rename_i e; rw [e]
  · rfl

set_option maxRecDepth 100000 in
set_option maxHeartbeats 4000000 in
theorem line_push0 {B : Nat} {w : World} {nb : Nat} {st : Nat → St} {ok : Bool} {L : Ln} (h : LineAt B w nb st ok L) (hk : LkOk (L.e 0)) (ho : (L.e 0).out.length ≤ 90000) (hn : L.n 0 < 65536) :
    Calls Try.prog 42 #[.pointer (some ⟨nb, 0, none⟩), .int .i64 0] w fun e w' => (∃ b, e = .returned (.bool b)) ∧ LineAt B w' nb st ok (L.pushed 0) ∧ Below B w w' := by
  obtain ⟨col, cl, a, s, r, ov, iv, wv, uv, hL⟩ := h.ex
  have e0 : w.cell? ⟨nb, 0, none⟩ = some (.pointer (some ⟨a 0, 0, none⟩)) := hL.cell 0 rfl
  have e1 : w.cell? ⟨nb, 12, none⟩ = some (.int .i64 (L.n 0)) := hL.cell 12 rfl
  have HP := fun (W : World) (x : Value) (hb : Below w.heap.size w W) (hr : Reads (Value.int .u8) W x (enc (L.n 0))) => (lpush_any B _ W _ _ _ _ _ _ ((hL.lk 0 (by omega)).skip (n := 0) hb) hk.s ho x (enc (L.n 0)) hr (enc_wf _)).mono fun e w' h => (⟨h.1, lk_at (hL.lk 0 (by omega)) hb h.2⟩ : e = .returned (.int .i64 ((L.e 0).pushE (enc (L.n 0)))) ∧ LkTo B (col 0) w (a 0) (s 0) (r 0) ((L.e 0).push (enc (L.n 0))) w')
  have HKC : Hid (∀ W, LkTo B (col 0) w (a 0) (s 0) (r 0) ((L.e 0).push (enc (L.n 0))) W → W.cell? ⟨nb, 0, none⟩ = some (.pointer (some ⟨a 0, 0, none⟩)) ∧ W.cell? ⟨nb, 12, none⟩ = some (.int .i64 (L.n 0))) := fun W hW => by
    have := hL.apart 0 nb (by omega) (by rw [hL.own]; omega)
    exact ⟨hW.fr.cell e0 (by omega), hW.fr.cell e1 (by omega)⟩
  have HA9 : Hid (IntKind.u8.wrap (L.n 0 : Int) = ((L.n 0 % 256 : Nat) : Int)) := by unfold Hid; rw [IntKind.wrap_u8]; omega
  have HB9 : Hid (IntKind.u8.wrap (IntKind.i64.wrap ((L.n 0 : Int) / 256)) = ((L.n 0 / 256 % 256 : Nat) : Int)) := by
    unfold Hid
    rw [IntKind.wrap_u8, IntWalk.i64_in _ (by omega)]; omega
  have HL := Lib.hid hL
  have h6' : ((65536 : Int) ≤ (L.n 0 : Int)) = False := eq_false (by omega)
  have h6'' : (0 : Int) ≤ (L.n 0 : Int) := by omega
  clear h hL
  go_enter Try.func42, Try.ntmps42
  go_wp2_with fail
  go_region_held3 (fun w' => w'.cell? ⟨nb, 0, none⟩ = some (.pointer (some ⟨a 0, 0, none⟩)) ∧ w'.cell? ⟨nb, 12, none⟩ = some (.int .i64 (L.n 0)))
    (first | exact ⟨e0, e1⟩ | exact ⟨below_cell (bl_drew (bl_refl _)) e0, below_cell (bl_drew (bl_refl _)) e1⟩ | exact ⟨below_cell (bl_alloc (bl_drew (bl_refl _)) _) e0, below_cell (bl_alloc (bl_drew (bl_refl _)) _) e1⟩ | exact ⟨below_cell (bl_drew (bl_alloc (bl_refl _) _)) e0, below_cell (bl_drew (bl_alloc (bl_refl _) _)) e1⟩ | exact HKC.out _ h3)
    (first | (go_at_call 7; refine (HP _ _ (by first | exact bl_alloc (bl_drew (bl_refl _)) _ | exact bl_drew (bl_alloc (bl_refl _) _)) ((reads_enc w _ _ _ _ HB9.out HA9.out).below (bl_drew (bl_refl _)))).mono ?_; rintro e w3 ⟨rfl, h3⟩) | (trace_state; fail))
  obtain ⟨⟨col', ov', iv', hL3⟩, hb3⟩ := HL.out.act (by omega) h3
  have HL3 := Lib.hid hL3
  have HB3 := Lib.hid hb3
  by_cases hE : (L.e 0).pushE (enc (L.n 0)) = 0
  · have f1 := hL3.frozen 12
    have e3 : w3.cell? ⟨nb, 12, none⟩ = some (.int .i64 (L.n 0)) := hL3.cell 12 rfl
    have hP := hL3.put (ok' := ok) (n' := upd L.n 0 (L.n 0 + 1)) 12 (.int .i64 ((L.n 0 : Int) + 1)) rfl
    have hq : L.pushed 0 = { ({ L with e := upd L.e 0 ((L.e 0).push (enc (L.n 0))) } : Ln) with n := upd L.n 0 (L.n 0 + 1) } := by unfold Ln.pushed; rw [if_pos hE]
    have HE : Hid (∀ W, Below (w3.setCell ⟨nb, 12, none⟩ (.int .i64 ((L.n 0 : Int) + 1))).heap.size (w3.setCell ⟨nb, 12, none⟩ (.int .i64 ((L.n 0 : Int) + 1))) W → LineAt B W nb st ok (L.pushed 0) ∧ Below B w W) := fun W hW => by
      rw [hq]
      exact ⟨⟨_, _, _, _, _, _, _, _, _, hP.1.below hW⟩, (hb3.trans hP.2).trans (hW.mono hP.1.cols.1)⟩
    have hw1 : IntKind.i64.wrap ((L.n 0 : Int) + 1) = (L.n 0 : Int) + 1 := IntWalk.i64_in _ (by omega)
    rw [hE]
    clear h3 hL3 hb3 hP hq HKC HL e0 e1 HP h6''
    go_wp2_with fail
    refine wp_region_ord (n := 10) (S := fun W => W.cell? ⟨nb, 12, none⟩ = some (.int .i64 (L.n 0)))
      [(0, true), (1, true), (2, true), (3, true), (4, true), (5, true), (6, true), (7, true), (8, true), (9, true), (10, false)]
      (by kernel_rfl) (fun _ _ d _ _ h => by cases d <;> exact h) (by kernel_rfl) (below_cell (bl_drew (bl_refl w3)) e3) ?_
    iterate 10
      refine wpOrd_take (v := ?_) rfl (by rfl) ?_ ?_
      rotate_left
      focus (rintro w1 hSS; go_simp; try with_reducible rfl)
      simp only [Act.put, List.setIfInBounds_toArray]
    refine wpOrd_last rfl (by rfl) (fun K hK => ?_)
    go_simp
    refine hK.out _ _ ?_
    clear hK K
    refine wpOrd_nil ?_
    go_wp2
    go_ret
    exact ⟨⟨_, rfl⟩, (HE.out _ (bl_drew (bl_refl _))).1, (HE.out _ (bl_drew (bl_refl _))).2⟩
  · have hP3 : LineAt B w3 nb st ok (L.pushed 0) := by
      have hq : L.pushed 0 = { L with e := upd L.e 0 ((L.e 0).push (enc (L.n 0))) } := by unfold Ln.pushed; rw [if_neg hE, upd_self]
      rw [hq]
      exact ⟨_, _, _, _, _, _, _, _, _, hL3⟩
    have HE := Lib.hid hP3
    have hE' : ((L.e 0).pushE (enc (L.n 0)) = 0) = False := eq_false hE
    clear h3 hL3 hb3 hP3 HKC HL e0 e1 HP h6''
    go_wp2
    go_ret
    exact ⟨⟨_, rfl⟩, HE.out, HB3.out⟩

set_option maxRecDepth 100000 in
set_option maxHeartbeats 4000000 in
theorem line_push1 {B : Nat} {w : World} {nb : Nat} {st : Nat → St} {ok : Bool} {L : Ln} (h : LineAt B w nb st ok L) (hk : LkOk (L.e 1)) (ho : (L.e 1).out.length ≤ 90000) (hn : L.n 1 < 65536) :
    Calls Try.prog 42 #[.pointer (some ⟨nb, 0, none⟩), .int .i64 1] w fun e w' => (∃ b, e = .returned (.bool b)) ∧ LineAt B w' nb st ok (L.pushed 1) ∧ Below B w w' := by
  obtain ⟨col, cl, a, s, r, ov, iv, wv, uv, hL⟩ := h.ex
  have e0 : w.cell? ⟨nb, 1, none⟩ = some (.pointer (some ⟨a 1, 0, none⟩)) := hL.cell 1 rfl
  have e1 : w.cell? ⟨nb, 13, none⟩ = some (.int .i64 (L.n 1)) := hL.cell 13 rfl
  have HP := fun (W : World) (x : Value) (hb : Below w.heap.size w W) (hr : Reads (Value.int .u8) W x (enc (L.n 1))) => (lpush_any B _ W _ _ _ _ _ _ ((hL.lk 1 (by omega)).skip (n := 0) hb) hk.s ho x (enc (L.n 1)) hr (enc_wf _)).mono fun e w' h => (⟨h.1, lk_at (hL.lk 1 (by omega)) hb h.2⟩ : e = .returned (.int .i64 ((L.e 1).pushE (enc (L.n 1)))) ∧ LkTo B (col 1) w (a 1) (s 1) (r 1) ((L.e 1).push (enc (L.n 1))) w')
  have HKC : Hid (∀ W, LkTo B (col 1) w (a 1) (s 1) (r 1) ((L.e 1).push (enc (L.n 1))) W → W.cell? ⟨nb, 1, none⟩ = some (.pointer (some ⟨a 1, 0, none⟩)) ∧ W.cell? ⟨nb, 13, none⟩ = some (.int .i64 (L.n 1))) := fun W hW => by
    have := hL.apart 1 nb (by omega) (by rw [hL.own]; omega)
    exact ⟨hW.fr.cell e0 (by omega), hW.fr.cell e1 (by omega)⟩
  have HA9 : Hid (IntKind.u8.wrap (L.n 1 : Int) = ((L.n 1 % 256 : Nat) : Int)) := by unfold Hid; rw [IntKind.wrap_u8]; omega
  have HB9 : Hid (IntKind.u8.wrap (IntKind.i64.wrap ((L.n 1 : Int) / 256)) = ((L.n 1 / 256 % 256 : Nat) : Int)) := by
    unfold Hid
    rw [IntKind.wrap_u8, IntWalk.i64_in _ (by omega)]; omega
  have HL := Lib.hid hL
  have h6' : ((65536 : Int) ≤ (L.n 1 : Int)) = False := eq_false (by omega)
  have h6'' : (0 : Int) ≤ (L.n 1 : Int) := by omega
  clear h hL
  go_enter Try.func42, Try.ntmps42
  go_wp2_with fail
  go_region_held3 (fun w' => w'.cell? ⟨nb, 1, none⟩ = some (.pointer (some ⟨a 1, 0, none⟩)) ∧ w'.cell? ⟨nb, 13, none⟩ = some (.int .i64 (L.n 1)))
    (first | exact ⟨e0, e1⟩ | exact ⟨below_cell (bl_drew (bl_refl _)) e0, below_cell (bl_drew (bl_refl _)) e1⟩ | exact ⟨below_cell (bl_alloc (bl_drew (bl_refl _)) _) e0, below_cell (bl_alloc (bl_drew (bl_refl _)) _) e1⟩ | exact ⟨below_cell (bl_drew (bl_alloc (bl_refl _) _)) e0, below_cell (bl_drew (bl_alloc (bl_refl _) _)) e1⟩ | exact HKC.out _ h3)
    (first | (go_at_call 7; refine (HP _ _ (by first | exact bl_alloc (bl_drew (bl_refl _)) _ | exact bl_drew (bl_alloc (bl_refl _) _)) ((reads_enc w _ _ _ _ HB9.out HA9.out).below (bl_drew (bl_refl _)))).mono ?_; rintro e w3 ⟨rfl, h3⟩) | (trace_state; fail))
  obtain ⟨⟨col', ov', iv', hL3⟩, hb3⟩ := HL.out.act (by omega) h3
  have HL3 := Lib.hid hL3
  have HB3 := Lib.hid hb3
  by_cases hE : (L.e 1).pushE (enc (L.n 1)) = 0
  · have f1 := hL3.frozen 13
    have e3 : w3.cell? ⟨nb, 13, none⟩ = some (.int .i64 (L.n 1)) := hL3.cell 13 rfl
    have hP := hL3.put (ok' := ok) (n' := upd L.n 1 (L.n 1 + 1)) 13 (.int .i64 ((L.n 1 : Int) + 1)) rfl
    have hq : L.pushed 1 = { ({ L with e := upd L.e 1 ((L.e 1).push (enc (L.n 1))) } : Ln) with n := upd L.n 1 (L.n 1 + 1) } := by unfold Ln.pushed; rw [if_pos hE]
    have HE : Hid (∀ W, Below (w3.setCell ⟨nb, 13, none⟩ (.int .i64 ((L.n 1 : Int) + 1))).heap.size (w3.setCell ⟨nb, 13, none⟩ (.int .i64 ((L.n 1 : Int) + 1))) W → LineAt B W nb st ok (L.pushed 1) ∧ Below B w W) := fun W hW => by
      rw [hq]
      exact ⟨⟨_, _, _, _, _, _, _, _, _, hP.1.below hW⟩, (hb3.trans hP.2).trans (hW.mono hP.1.cols.1)⟩
    have hw1 : IntKind.i64.wrap ((L.n 1 : Int) + 1) = (L.n 1 : Int) + 1 := IntWalk.i64_in _ (by omega)
    rw [hE]
    clear h3 hL3 hb3 hP hq HKC HL e0 e1 HP h6''
    go_wp2_with fail
    refine wp_region_ord (n := 10) (S := fun W => W.cell? ⟨nb, 13, none⟩ = some (.int .i64 (L.n 1)))
      [(0, true), (1, true), (2, true), (3, true), (4, true), (5, true), (6, true), (7, true), (8, true), (9, true), (10, false)]
      (by kernel_rfl) (fun _ _ d _ _ h => by cases d <;> exact h) (by kernel_rfl) (below_cell (bl_drew (bl_refl w3)) e3) ?_
    iterate 10
      refine wpOrd_take (v := ?_) rfl (by rfl) ?_ ?_
      rotate_left
      focus (rintro w1 hSS; go_simp; try with_reducible rfl)
      simp only [Act.put, List.setIfInBounds_toArray]
    refine wpOrd_last rfl (by rfl) (fun K hK => ?_)
    go_simp
    refine hK.out _ _ ?_
    clear hK K
    refine wpOrd_nil ?_
    go_wp2
    go_ret
    exact ⟨⟨_, rfl⟩, (HE.out _ (bl_drew (bl_refl _))).1, (HE.out _ (bl_drew (bl_refl _))).2⟩
  · have hP3 : LineAt B w3 nb st ok (L.pushed 1) := by
      have hq : L.pushed 1 = { L with e := upd L.e 1 ((L.e 1).push (enc (L.n 1))) } := by unfold Ln.pushed; rw [if_neg hE, upd_self]
      rw [hq]
      exact ⟨_, _, _, _, _, _, _, _, _, hL3⟩
    have HE := Lib.hid hP3
    have hE' : ((L.e 1).pushE (enc (L.n 1)) = 0) = False := eq_false hE
    clear h3 hL3 hb3 hP3 HKC HL e0 e1 HP h6''
    go_wp2
    go_ret
    exact ⟨⟨_, rfl⟩, HE.out, HB3.out⟩

end Go.Proofs.Ythmdibagcbbgoaa
