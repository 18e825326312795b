/- portagelaw08's pair in memory: every block that it has bears a colour (1 its own cells, 2 the sender's, 3 the receiver's, 4 5 6 its rows pushed, way, told, 7 payloads that nobody turns). Conditions: as they stand. -/
import Derived.Test.YtagbaoakablfpaaRcvAwake
import Derived.Test.YtagbaoakablfpaaSndSend
import Derived.Test.YtagbaoakablfpaaSndAck
import Derived.Test.YtagbaoakablfpaaSndAgain
import Derived.Test.YtagbaoakablfpaaSndUnder
namespace Go.Proofs.Ytagbaoakablfpaa
open Go.RowKit

structure PSt where
  s : Snd
  r : Rcv
  pushed : List (List Int)
  way : List (Int × List Int)
  told : List (List Int)

/-- New blocks get the colour n. -/
def paint (col : Nat → Nat) (w w' : World) (n : Nat) : Nat → Nat := fun k => if w.heap.size ≤ k ∧ k < w'.heap.size then n else col k
theorem paint_old {col : Nat → Nat} {w w' : World} {n k : Nat} (h : k < w.heap.size) : paint col w w' n k = col k := by unfold paint; rw [if_neg (by omega)]
theorem paint_new {col : Nat → Nat} {w w' : World} {n k : Nat} (h : w.heap.size ≤ k) (h2 : k < w'.heap.size) : paint col w w' n k = n := by unfold paint; rw [if_pos ⟨h, h2⟩]
def Cols (B : Nat) (col : Nat → Nat) (w : World) : Prop := B ≤ w.heap.size ∧ ∀ k, col k ≠ 0 → B ≤ k ∧ k < w.heap.size
section
variable {B : Nat} {col : Nat → Nat} {w w' : World} {c n : Nat}
theorem Cols.paint (h : Cols B col w) (hs : w.heap.size ≤ w'.heap.size) : Cols B (paint col w w' n) w' := by
  refine ⟨Nat.le_trans h.1 hs, fun k hk => ?_⟩
  have h1 := h.1
  by_cases hn : w.heap.size ≤ k ∧ k < w'.heap.size
  · exact ⟨by omega, hn.2⟩
  · unfold Go.Proofs.Ytagbaoakablfpaa.paint at hk
    rw [if_neg hn] at hk
    have := h.2 k hk
    exact ⟨this.1, by omega⟩
theorem Cols.keep (h : Cols B col w) {k : Nat} (hk : col k = c) (hc : c ≠ 0) : Go.Proofs.Ytagbaoakablfpaa.paint col w w' n k = c := by rw [paint_old (h.2 k (by omega)).2]; exact hk
theorem Cols.grow (h : Cols B col w) (hs : w.heap.size ≤ w'.heap.size) : Cols B col w' := ⟨Nat.le_trans h.1 hs, fun k hk => by have := h.2 k hk; omega⟩
theorem Cols.bl (h : Cols B col w) (hc : c ≠ 0) (hf : Fr (fun k => col k = c) w w') : Below B w w' :=
  ⟨hf.os, hf.tape, hf.output, hf.size, fun k hk => hf.block k (Nat.lt_of_lt_of_le hk h.1) fun e => by have := (h.2 k (by omega)).1; omega⟩
end
theorem SndAt.mono {F G : Nat → Prop} {w : World} {a : Nat} {s : Snd} (h : SndAt F w a s) (hs : ∀ k, F k → G k) (hG : ∀ k, G k → k < w.heap.size) : SndAt G w a s := by
  obtain ⟨h1, h2, av, vs, D, hb, hA, hl, hav, hD, hp⟩ := h
  exact ⟨hG, hs _ h2, av, vs, D, hb, hA, hl, fun k hk => ⟨hs _ (hav k hk).1, (hav k hk).2⟩, fun k hk => ⟨hs _ (hD k hk).1, (hD k hk).2⟩, hp⟩

/-- A row of its own of the colour c, its payloads of the colour 7. -/
def RowsAt (B : Nat) (col : Nat → Nat) (c : Nat) (w : World) (v : Value) (ps : List (List Int)) : Prop :=
  ∃ vs : List Value, vs.length = ps.length ∧ w.ownsRow B 32 1 v vs.length vs ∧ (∀ k, v.ownBlock = some k → col k = c) ∧ ∀ (i : Nat) (x : Value) (p : List Int), vs[i]? = some x → ps[i]? = some p → Byt (fun k => col k = 7) w x p
def WayAt (B : Nat) (col : Nat → Nat) (w : World) (v : Value) (l : List (Int × List Int)) : Prop :=
  ∃ cs : List Value, w.ownsRow B 34 3 v l.length cs ∧ (∀ k, v.ownBlock = some k → col k = 5) ∧ ∀ (i : Nat) (c : Int × List Int), l[i]? = some c → ∃ x, cs[i * 3]? = some (.int .i64 0) ∧ cs[i * 3 + 1]? = some (.int .i64 c.1) ∧ cs[i * 3 + 2]? = some x ∧ Byt (fun k => col k = 7) w x c.2
section
variable {B : Nat} {col : Nat → Nat} {w w' : World} {c n d : Nat} {v : Value} {ps : List (List Int)} {l : List (Int × List Int)}
theorem RowsAt.turn (h : RowsAt B col d w v ps) (hC : Cols B col w) (hf : Fr (fun k => col k = c) w w') (hd : d ≠ c) (h7 : c ≠ 7) (hd0 : d ≠ 0) : RowsAt B (paint col w w' n) d w' v ps := by
  obtain ⟨vs, h1, h2, h3, h4⟩ := h
  exact ⟨vs, h1, own_fr8 h2 hf (fun k hk e => hd ((h3 k hk).symm.trans e)), fun k hk => hC.keep (h3 k hk) hd0, fun i x p hx hp => ((h4 i x p hx hp).fr hf (fun k hk e => h7 (e.symm.trans hk))).mono fun k hk => hC.keep hk (by omega)⟩
theorem WayAt.turn (h : WayAt B col w v l) (hC : Cols B col w) (hf : Fr (fun k => col k = c) w w') (hd : c ≠ 5) (h7 : c ≠ 7) : WayAt B (paint col w w' n) w' v l := by
  obtain ⟨cs, h2, h3, h4⟩ := h
  refine ⟨cs, own_fr8 h2 hf (fun k hk e => hd (e.symm.trans (h3 k hk))), fun k hk => hC.keep (h3 k hk) (by omega), fun i c hc => ?_⟩
  obtain ⟨x, g0, g1, g2, g3⟩ := h4 i c hc
  exact ⟨x, g0, g1, g2, (g3.fr hf (fun k hk e => h7 (e.symm.trans hk))).mono fun k hk => hC.keep hk (by omega)⟩
theorem snd_turn {a : Nat} {s : Snd} (h : SndAt (fun k => col k = 2) w a s) (hC : Cols B col w) (hf : Fr (fun k => col k = c) w w') (hc : c ≠ 2) : SndAt (fun k => paint col w w' n k = 2) w' a s :=
  (h.fr hf (fun k hk e => hc (e.symm.trans hk))).mono (fun k hk => hC.keep hk (by omega)) (fun k hk => ((hC.paint (n := n) hf.size).2 k (by omega)).2)
theorem rcv_turn {a : Nat} {r : Rcv} (h : RcvAt (fun k => col k = 3) (fun k => col k = 7) w a r) (hC : Cols B col w) (hf : Fr (fun k => col k = c) w w') (hc : c ≠ 3) (h7 : c ≠ 7) : RcvAt (fun k => paint col w w' n k = 3) (fun k => paint col w w' n k = 7) w' a r :=
  (h.fr hf (fun k hk e => by rcases hk with hk | hk; exact hc (e.symm.trans hk); exact h7 (e.symm.trans hk))).mono (fun k hk => hC.keep hk (by omega)) (fun k hk => hC.keep hk (by omega)) (fun k hk e => by omega)
end

/-- The pair's block, its parts. -/
structure PairAt (B : Nat) (col : Nat → Nat) (w : World) (pb sg rg : Nat) (pv wv tv : Value) (t : PSt) : Prop where
  cols : Cols B col w
  own : col pb = 1
  hb : w.heap[pb]? = some (.cells #[.pointer (some ⟨sg, 0, none⟩), .pointer (some ⟨rg, 0, none⟩), pv, wv, tv] 49 (0, 0))
  snd : SndAt (fun k => col k = 2) w sg t.s
  rcv : RcvAt (fun k => col k = 3) (fun k => col k = 7) w rg t.r
  pushed : RowsAt B col 4 w pv t.pushed
  way : WayAt B col w wv t.way
  told : RowsAt B col 6 w tv t.told
section
variable {B : Nat} {col : Nat → Nat} {w w' : World} {c n pb sg rg : Nat} {pv wv tv : Value} {t : PSt}
/-- Nothing of it was turned: new blocks may bear the colour n. -/
theorem PairAt.skip (h : PairAt B col w pb sg rg pv wv tv t) (hb : Below w.heap.size w w') : PairAt B (paint col w w' n) w' pb sg rg pv wv tv t := by
  have hf : Fr (fun k => col k = 99 ∧ False) w w' := .of_below hb
  have hf0 : Fr (fun k => (if col k = 0 then 98 else 99) = 97) w w' := .of_below hb
  obtain ⟨vs, p1, p2, p3, p4⟩ := h.pushed
  obtain ⟨cs, q2, q3, q4⟩ := h.way
  obtain ⟨us, t1, t2, t3, t4⟩ := h.told
  refine ⟨h.cols.paint hb.size, h.cols.keep h.own (by omega), bl_get hb h.hb, (h.snd.below hb).mono (fun k hk => h.cols.keep hk (by omega)) (fun k hk => ((h.cols.paint (n := n) hb.size).2 k (by omega)).2), (h.rcv.below hb).mono (fun k hk => h.cols.keep hk (by omega)) (fun k hk => h.cols.keep hk (by omega)) (fun k hk e => by omega),
    ⟨vs, p1, own_bl8 p2 hb, fun k hk => h.cols.keep (p3 k hk) (by omega), fun i x p hx hp => ((p4 i x p hx hp).below hb).mono fun k hk => h.cols.keep hk (by omega)⟩, ⟨cs, own_bl8 q2 hb, fun k hk => h.cols.keep (q3 k hk) (by omega), fun i c hc => ?_⟩, ⟨us, t1, own_bl8 t2 hb, fun k hk => h.cols.keep (t3 k hk) (by omega), fun i x p hx hp => ((t4 i x p hx hp).below hb).mono fun k hk => h.cols.keep hk (by omega)⟩⟩
  obtain ⟨x, g0, g1, g2, g3⟩ := q4 i c hc
  exact ⟨x, g0, g1, g2, (g3.below hb).mono fun k hk => h.cols.keep hk (by omega)⟩
/-- The sender was turned. -/
theorem PairAt.sent (h : PairAt B col w pb sg rg pv wv tv t) (hf : Fr (fun k => col k = 2) w w') {F : Nat → Prop} {s' : Snd} (hs : SndAt F w' sg s') (hF : ∀ k, F k → col k = 2 ∨ (n = 2 ∧ w.heap.size ≤ k ∧ k < w'.heap.size)) : PairAt B (paint col w w' n) w' pb sg rg pv wv tv { t with s := s' } :=
  ⟨h.cols.paint hf.size, h.cols.keep h.own (by omega), hf.get h.hb (fun e => by have := h.own; omega), hs.mono (fun k hk => by
    rcases hF k hk with h1 | ⟨h1, h2, h3⟩
    · exact h.cols.keep h1 (by omega)
    · rw [paint_new h2 h3]; exact h1) (fun k hk => ((h.cols.paint (n := n) hf.size).2 k (by omega)).2), rcv_turn h.rcv h.cols hf (by omega) (by omega), h.pushed.turn h.cols hf (by omega) (by omega) (by omega), h.way.turn h.cols hf (by omega) (by omega), h.told.turn h.cols hf (by omega) (by omega) (by omega)⟩
/-- The receiver was turned; new blocks hold payloads. -/
theorem PairAt.came (h : PairAt B col w pb sg rg pv wv tv t) (hf : Fr (fun k => col k = 3) w w') {r' : Rcv} (hr : RcvAt (fun k => col k = 3) (fun k => col k = 7 ∨ (w.heap.size ≤ k ∧ k < w'.heap.size)) w' rg r') : PairAt B (paint col w w' 7) w' pb sg rg pv wv tv { t with r := r' } :=
  ⟨h.cols.paint hf.size, h.cols.keep h.own (by omega), hf.get h.hb (fun e => by have := h.own; omega), snd_turn h.snd h.cols hf (by omega), hr.mono (fun k hk => h.cols.keep hk (by omega)) (fun k hk => by
    rcases hk with h1 | h1
    · exact h.cols.keep h1 (by omega)
    · exact paint_new h1.1 h1.2) (fun k hk e => by omega), h.pushed.turn h.cols hf (by omega) (by omega) (by omega), h.way.turn h.cols hf (by omega) (by omega), h.told.turn h.cols hf (by omega) (by omega) (by omega)⟩
theorem PairAt.cells (h : PairAt B col w pb sg rg pv wv tv t) : w.cell? ⟨pb, 0, none⟩ = some (.pointer (some ⟨sg, 0, none⟩)) ∧ w.cell? ⟨pb, 1, none⟩ = some (.pointer (some ⟨rg, 0, none⟩)) ∧ w.cell? ⟨pb, 2, none⟩ = some pv ∧ w.cell? ⟨pb, 3, none⟩ = some wv ∧ w.cell? ⟨pb, 4, none⟩ = some tv := by
  refine ⟨?_, ?_, ?_, ?_, ?_⟩ <;> (rw [cell_of_row _ _ _ _ _ _ h.hb]; rfl)
end

section
variable {B : Nat} {col : Nat → Nat} {w w' : World} {c d : Nat} {v : Value} {ps : List (List Int)} {l : List (Int × List Int)} {G : Nat → Prop}
theorem RowsAt.fr (h : RowsAt B col d w v ps) (hf : Fr G w w') (hd : ∀ k, col k = d ∨ col k = 7 → ¬ G k) : RowsAt B col d w' v ps := by
  obtain ⟨vs, h1, h2, h3, h4⟩ := h
  exact ⟨vs, h1, own_fr8 h2 hf (fun k hk => hd k (.inl (h3 k hk))), h3, fun i x p hx hp => (h4 i x p hx hp).fr hf (fun k hk => hd k (.inr hk))⟩
theorem WayAt.fr (h : WayAt B col w v l) (hf : Fr G w w') (hd : ∀ k, col k = 5 ∨ col k = 7 → ¬ G k) : WayAt B col w' v l := by
  obtain ⟨cs, h2, h3, h4⟩ := h
  refine ⟨cs, own_fr8 h2 hf (fun k hk => hd k (.inl (h3 k hk))), h3, fun i c hc => ?_⟩
  obtain ⟨x, g0, g1, g2, g3⟩ := h4 i c hc
  exact ⟨x, g0, g1, g2, g3.fr hf (fun k hk => hd k (.inr hk))⟩
end
theorem fr_bl {B : Nat} {G : Nat → Prop} {w w' : World} (hf : Fr G w w') (h : ∀ k, G k → B ≤ k) (hB : B ≤ w.heap.size) : Below B w w' :=
  ⟨hf.os, hf.tape, hf.output, hf.size, fun k hk => hf.block k (Nat.lt_of_lt_of_le hk hB) fun g => by have := h k g; omega⟩
theorem set_five (W : World) (g j : Nat) (cs : Array Value) (t : TypeId) (v : Value) (h : W.heap[g]? = some (.cells cs t (0, 0))) : (W.setCell ⟨g, j, none⟩ v).heap[g]? = some (.cells (cs.setIfInBounds j v) t (0, 0)) := by
  simp [World.setCell, Array.getElem?_modify, h]
section
variable {B : Nat} {col : Nat → Nat} {w w' : World} {c n pb sg rg : Nat} {pv wv tv : Value} {t : PSt}
theorem PairAt.told_set (h : PairAt B col w pb sg rg pv wv tv t) (hf : Fr (fun k => col k = 6) w w') {v' : Value} {ps' : List (List Int)} (hR : RowsAt B (paint col w w' 6) 6 w' v' ps') : PairAt B (paint col w w' 6) (w'.setCell ⟨pb, 4, none⟩ v') pb sg rg pv wv v' { t with told := ps' } := by
  have hq := fr_cell w' pb 4 v'
  have hb := hf.get h.hb (fun e => by have := h.own; omega)
  have ho : paint col w w' 6 pb = 1 := h.cols.keep h.own (by omega)
  have hn : ∀ k, paint col w w' 6 k ≠ 1 → ¬ k = pb := fun k hk e => hk (e ▸ ho)
  refine ⟨(h.cols.paint hf.size).grow hq.size, ho, by rw [set_five _ _ _ _ _ _ hb]; simp, (snd_turn h.snd h.cols hf (by omega)).fr hq (fun k hk => hn k (by omega)), (rcv_turn h.rcv h.cols hf (by omega) (by omega)).fr hq (fun k hk => hn k (by omega)),
    (h.pushed.turn h.cols hf (by omega) (by omega) (by omega)).fr hq (fun k hk => hn k (by omega)), (h.way.turn h.cols hf (by omega) (by omega)).fr hq (fun k hk => hn k (by omega)), hR.fr hq (fun k hk => hn k (by omega))⟩
theorem PairAt.pushed_set (h : PairAt B col w pb sg rg pv wv tv t) (hf : Fr (fun k => col k = 4) w w') {v' : Value} {ps' : List (List Int)} (hR : RowsAt B (paint col w w' 4) 4 w' v' ps') : PairAt B (paint col w w' 4) (w'.setCell ⟨pb, 2, none⟩ v') pb sg rg v' wv tv { t with pushed := ps' } := by
  have hq := fr_cell w' pb 2 v'
  have hb := hf.get h.hb (fun e => by have := h.own; omega)
  have ho : paint col w w' 4 pb = 1 := h.cols.keep h.own (by omega)
  have hn : ∀ k, paint col w w' 4 k ≠ 1 → ¬ k = pb := fun k hk e => hk (e ▸ ho)
  refine ⟨(h.cols.paint hf.size).grow hq.size, ho, by rw [set_five _ _ _ _ _ _ hb]; simp, (snd_turn h.snd h.cols hf (by omega)).fr hq (fun k hk => hn k (by omega)), (rcv_turn h.rcv h.cols hf (by omega) (by omega)).fr hq (fun k hk => hn k (by omega)),
    hR.fr hq (fun k hk => hn k (by omega)), (h.way.turn h.cols hf (by omega) (by omega)).fr hq (fun k hk => hn k (by omega)), (h.told.turn h.cols hf (by omega) (by omega) (by omega)).fr hq (fun k hk => hn k (by omega))⟩
theorem PairAt.way_set (h : PairAt B col w pb sg rg pv wv tv t) (hf : Fr (fun k => col k = 5) w w') {v' : Value} {l' : List (Int × List Int)} (hR : WayAt B (paint col w w' 5) w' v' l') : PairAt B (paint col w w' 5) (w'.setCell ⟨pb, 3, none⟩ v') pb sg rg pv v' tv { t with way := l' } := by
  have hq := fr_cell w' pb 3 v'
  have hb := hf.get h.hb (fun e => by have := h.own; omega)
  have ho : paint col w w' 5 pb = 1 := h.cols.keep h.own (by omega)
  have hn : ∀ k, paint col w w' 5 k ≠ 1 → ¬ k = pb := fun k hk e => hk (e ▸ ho)
  refine ⟨(h.cols.paint hf.size).grow hq.size, ho, by rw [set_five _ _ _ _ _ _ hb]; simp, (snd_turn h.snd h.cols hf (by omega)).fr hq (fun k hk => hn k (by omega)), (rcv_turn h.rcv h.cols hf (by omega) (by omega)).fr hq (fun k hk => hn k (by omega)),
    (h.pushed.turn h.cols hf (by omega) (by omega) (by omega)).fr hq (fun k hk => hn k (by omega)), hR.fr hq (fun k hk => hn k (by omega)), (h.told.turn h.cols hf (by omega) (by omega) (by omega)).fr hq (fun k hk => hn k (by omega))⟩
end
section
variable {P : Program} {ops : Array Oper} {rest : List Oper} {o : Oper} {a : Act} {Q : Exit → Act → World → Prop}
/-- append(row, l...): payloads that are in place already. -/
theorem wpList_rows (w : World) (hgd : o.guard = none) (s x : Operand) (t : TypeId)
    (ho : o.op = .call { callee := .builtin .append, args := #[s, x], argTypes := #[t, t] }) {i : TypeInfo}
    (ht : P.underlying t = some (.slice 32)) (hi : P.info? 32 = some i) (hz : i.zero = some (.slice none 0 0)) (hsize : i.size = 1) (hby : i.bytes = 24)
    {B : Nat} {col : Nat → Nat} {d : Nat} (hd : d ≠ 0) (hd7 : d ≠ 7) (hC : Cols B col w) {v : Value} {ps qs : List (List Int)} (hs : a.eval s = v) (hR : RowsAt B col d w v ps) {u : Value} (hx : a.eval x = u)
    {ys : List Value} (hr : Reads id w u ys) (hl : ys.length = qs.length) (hY : ∀ (i : Nat) (y : Value) (p : List Int), ys[i]? = some y → qs[i]? = some p → Byt (fun k => col k = 7) w y p) (hm : ps.length + qs.length ≤ 1000000)
    (h : ∀ v' w', RowsAt B (paint col w w' d) d w' v' (ps ++ qs) → Fr (fun k => col k = d) w w' → wpList P ops Q rest (a.put o.dst v') w') : wpList P ops Q (o :: rest) a w := by
  obtain ⟨vs, h1, h2, h3, h4⟩ := hR
  refine wpList_append_r w hgd s x t ho B _ i (.slice none 0 0) 24 ht hi hz hsize hby rfl v vs.length vs hs h2 id u ys hx hr (fun y hy => ?_) (by unfold maxLen; omega) (by omega) hC.1 ?_
  · obtain ⟨j, hj⟩ := List.mem_iff_getElem?.1 hy
    have hjl : j < qs.length := by rw [← hl]; exact (List.getElem?_eq_some_iff.1 hj).1
    obtain ⟨p, hp⟩ := get_some (xs := qs) (k := j) hjl
    obtain ⟨⟨⟨_, ao, cap, rfl, _⟩, _⟩, _⟩ := hY j y p hj hp
    rfl
  · intro v' w' hO hg hne
    have hF : Fr (fun k => col k = d) w w' := (Fr.refl _ w).grown hg (fun k hk => .inl (h3 k hk))
    refine h v' w' ⟨vs ++ ys, by simp [h1, hl], ?_, fun k hk => ?_, fun j y p hy hp => ?_⟩ hF
    · simpa using hO
    · by_cases hkl : k < w.heap.size
      · have h5 : v.ownBlock = some k := by
          apply Classical.byContradiction
          intro hc
          exact hne k hkl (fun e => hc e.symm) hk.symm
        exact hC.keep (h3 k h5) hd
      · exact paint_new (by omega) (hO.lt k hk).2
    · have keep : ∀ {z : Value} {q : List Int}, Byt (fun k => col k = 7) w z q → Byt (fun k => paint col w w' d k = 7) w' z q := fun hb => (hb.fr hF (fun k hk e => hd7 (e.symm.trans hk))).mono fun k hk => hC.keep hk (by omega)
      by_cases hj : j < vs.length
      · rw [List.getElem?_append_left hj] at hy
        rw [List.getElem?_append_left (by omega)] at hp
        exact keep (h4 j y p hy hp)
      · rw [List.getElem?_append_right (by omega)] at hy
        rw [List.getElem?_append_right (by omega), ← h1] at hp
        exact keep (hY _ y p hy hp)
/-- append(way, an act). -/
theorem wpList_way (w : World) (hgd : o.guard = none) (s x : Operand) (t : TypeId)
    (ho : o.op = .call { callee := .builtin .append, args := #[s, x], argTypes := #[t, t] }) {i : TypeInfo} {z : Value}
    (ht : P.underlying t = some (.slice 34)) (hi : P.info? 34 = some i) (hz : i.zero = some z) (hzs : z.cells.size = 3) (hsize : i.size = 3) {by_ : Nat} (hby : i.bytes = by_) (hby2 : by_ ≤ 100)
    {B : Nat} {col : Nat → Nat} (hC : Cols B col w) {v : Value} {l : List (Int × List Int)} (hs : a.eval s = v) (hR : WayAt B col w v l) {g : Nat} (hx : a.eval x = .slice (some ⟨g, 0, none⟩) 1 1)
    {n : Int} {y : Value} {p : List Int} (hg : w.heap[g]? = some (.cells #[.int .i64 0, .int .i64 n, y] 34 (0, 0))) (hY : Byt (fun k => col k = 7) w y p) (hm : l.length ≤ 1000000)
    (h : ∀ v' w', WayAt B (paint col w w' 5) w' v' (l ++ [(n, p)]) → Fr (fun k => col k = 5) w w' → wpList P ops Q rest (a.put o.dst v') w') : wpList P ops Q (o :: rest) a w := by
  obtain ⟨cs, h2, h3, h4⟩ := hR
  obtain ⟨yo, yc, rfl⟩ : ∃ yo yc, y = .slice yo p.length yc := by
    obtain ⟨⟨⟨_, ao, cap, h, _⟩, _⟩, _⟩ := hY
    exact ⟨ao, cap, h⟩
  have hcl : cs.length = l.length * 3 := h2.1
  obtain ⟨v', w', hr, hO, hg2, hne⟩ := run_append_where (P := P) w B t o.type _ i z 3 by_ ht hi hz hsize hby hzs (by decide) v l.length cs h2 ⟨g, 0, none⟩ 1 1 [.int .i64 0, .int .i64 n, .slice yo p.length yc] rfl (fun j u hj => by
    rw [Addr.add_lit, cell_of_row _ _ _ _ _ _ hg]
    match j, hj with
    | 0, hj => simp at hj; subst hj; rfl
    | 1, hj => simp at hj; subst hj; rfl
    | 2, hj => simp at hj; subst hj; rfl
    | j + 3, hj => simp at hj) (by intro u hu; simp at hu; rcases hu with rfl | rfl | rfl <;> rfl) (by unfold maxLen; omega) (by have := Nat.mul_le_mul (show l.length + 1 ≤ 1000001 by omega) hby2; omega) hC.1
  refine wpList_plain hgd fun K hK => ?_
  unfold Oper.wp execOp
  simp only [ho, resolve, invoke, builtin, Sem.run_bind, Sem.run_pure, Result.andThen_ok, List.map_toArray, List.map_cons, List.map_nil, hs, hx, hr]
  have hF : Fr (fun k => col k = 5) w w' := (Fr.refl _ w).grown hg2 (fun k hk => .inl (h3 k hk))
  have keep : ∀ {z : Value} {q : List Int}, Byt (fun k => col k = 7) w z q → Byt (fun k => paint col w w' 5 k = 7) w' z q := fun hb => (hb.fr hF (fun k hk e => by omega)).mono fun k hk => hC.keep hk (by omega)
  refine hK _ _ (h v' w' ⟨cs ++ [.int .i64 0, .int .i64 n, .slice yo p.length yc], by simpa using hO, fun k hk => ?_, fun j c hc => ?_⟩ hF)
  · by_cases hkl : k < w.heap.size
    · have h5 : v.ownBlock = some k := by
        apply Classical.byContradiction
        intro hc
        exact hne k hkl (fun e => hc e.symm) hk.symm
      exact hC.keep (h3 k h5) (by omega)
    · exact paint_new (by omega) (hO.lt k hk).2
  · by_cases hj : j < l.length
    · rw [List.getElem?_append_left hj] at hc
      obtain ⟨x, g0, g1, g2, g3⟩ := h4 j c hc
      exact ⟨x, by rw [List.getElem?_append_left (by omega)]; exact g0, by rw [List.getElem?_append_left (by omega)]; exact g1, by rw [List.getElem?_append_left (by omega)]; exact g2, keep g3⟩
    · have hj2 := (List.getElem?_eq_some_iff.1 hc).1
      simp at hj2
      obtain rfl : j = l.length := by omega
      rw [List.getElem?_append_right (Nat.le_refl _), Nat.sub_self] at hc
      cases hc
      refine ⟨_, ?_, ?_, ?_, keep hY⟩
      · rw [List.getElem?_append_right (by omega), show l.length * 3 - cs.length = 0 by omega]; rfl
      · rw [List.getElem?_append_right (by omega), show l.length * 3 + 1 - cs.length = 1 by omega]; rfl
      · rw [List.getElem?_append_right (by omega), show l.length * 3 + 2 - cs.length = 2 by omega]; rfl
end

end Go.Proofs.Ytagbaoakablfpaa
