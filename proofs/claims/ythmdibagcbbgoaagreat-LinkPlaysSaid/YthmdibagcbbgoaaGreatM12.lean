/- An end of a link: what it is in Lean, how it lies in memory. (*link.Link).send: a control goes out. (*link.Link).setup, reset, anew, heard, answer, data. Conditions: as they stand. -/
import Derived.Test.YthmdibagcbbgoaaGreatM11
import Derived.Test.YthmdibagcbbgoaaGreatM08
import Derived.Deep.RegionHeld3
import Derived.Deep.DrawnRows
import Derived.Test.YthmdibagcbbgoaaGreatM01
namespace Go.Proofs.YthmdibagcbbgoaaGreat
open Go.RowKit

/-- A control. -/
structure Cn where
  kind : Int
  ns : Int
  nr : Int
  p : Bool
  me : Int
  peer : Int
  data : List Int
/-- An end. -/
structure Lk where
  me : Nat
  peer : Int
  up : Bool
  size : Nat
  timer : Nat
  tries : Nat
  left : Nat
  tried : Nat
  resets : Int
  busy : Bool
  held : Bool
  s : Snd
  r : Rcv
  out : List Cn
  inn : List (List Int)

def Cn.agg (c : Cn) (x : Value) : Array Value := #[.int .i64 c.kind, .int .i64 c.ns, .int .i64 c.nr, .bool c.p, .int .i64 c.me, .int .i64 c.peer, x]
/-- A row of controls of the colour c, their payloads of the colour 7. -/
def CtlsAt (B : Nat) (col : Nat → Nat) (d : Nat) (w : World) (v : Value) (l : List Cn) : Prop :=
  ∃ cs : List Value, w.ownsRow B 46 7 v l.length cs ∧ (∀ k, v.ownBlock = some k → col k = d) ∧
    ∀ (i : Nat) (c : Cn), l[i]? = some c → ∃ x, (∀ (j : Nat) (y : Value), (c.agg x)[j]? = some y → cs[i * 7 + j]? = some y) ∧ Byt (fun k => col k = 7) w x c.data
section
variable {B : Nat} {col : Nat → Nat} {w w' : World} {c n d : Nat} {v : Value} {l : List Cn} {G : Nat → Prop}
theorem CtlsAt.turn (h : CtlsAt B col d w v l) (hC : Cols B col w) (hf : Fr (fun k => col k = c) w w') (hd : d ≠ c) (h7 : c ≠ 7) (hd0 : d ≠ 0) : CtlsAt B (paint col w w' n) d w' v l := by
  obtain ⟨cs, h2, h3, h4⟩ := h
  refine ⟨cs, own_fr8 h2 hf (fun k hk e => hd ((h3 k hk).symm.trans e)), fun k hk => hC.keep (h3 k hk) hd0, fun i c hc => ?_⟩
  obtain ⟨x, g0, g3⟩ := h4 i c hc
  exact ⟨x, g0, (g3.fr hf (fun k hk e => h7 (e.symm.trans hk))).mono fun k hk => hC.keep hk (by omega)⟩
theorem CtlsAt.fr (h : CtlsAt B col d w v l) (hf : Fr G w w') (hd : ∀ k, col k = d ∨ col k = 7 → ¬ G k) : CtlsAt B col d w' v l := by
  obtain ⟨cs, h2, h3, h4⟩ := h
  refine ⟨cs, own_fr8 h2 hf (fun k hk => hd k (.inl (h3 k hk))), h3, fun i c hc => ?_⟩
  obtain ⟨x, g0, g3⟩ := h4 i c hc
  exact ⟨x, g0, g3.fr hf (fun k hk => hd k (.inr hk))⟩
theorem CtlsAt.paint (h : CtlsAt B col d w v l) (hC : Cols B col w) (hb : Below w.heap.size w w') (hd0 : d ≠ 0) : CtlsAt B (paint col w w' n) d w' v l := by
  obtain ⟨cs, h2, h3, h4⟩ := h
  refine ⟨cs, own_bl8 h2 hb, fun k hk => hC.keep (h3 k hk) hd0, fun i c hc => ?_⟩
  obtain ⟨x, g0, g3⟩ := h4 i c hc
  exact ⟨x, g0, (g3.below hb).mono fun k hk => hC.keep hk (by omega)⟩
theorem RowsAt.paint {ps : List (List Int)} (h : RowsAt B col d w v ps) (hC : Cols B col w) (hb : Below w.heap.size w w') (hd0 : d ≠ 0) : RowsAt B (paint col w w' n) d w' v ps := by
  obtain ⟨vs, p1, p2, p3, p4⟩ := h
  exact ⟨vs, p1, own_bl8 p2 hb, fun k hk => hC.keep (p3 k hk) hd0, fun i x p hx hp => ((p4 i x p hx hp).below hb).mono fun k hk => hC.keep hk (by omega)⟩
end

def Lk.cells (t : Lk) (sg rg : Nat) (ov iv : Value) : Array Value :=
  #[.int .i64 t.me, .int .i64 t.peer, .bool t.up, .int .i64 t.size, .int .i64 t.timer, .int .i64 t.tries, .int .i64 t.left, .int .i64 t.tried, .int .i64 t.resets, .bool t.busy, .bool t.held, .pointer (some ⟨sg, 0, none⟩), .pointer (some ⟨rg, 0, none⟩), ov, iv]
/-- The end at a. -/
structure LkP (B : Nat) (col : Nat → Nat) (w : World) (a sg rg : Nat) (ov iv : Value) (t : Lk) : Prop where
  cols : Cols B col w
  own : col a = 1
  hb : w.heap[a]? = some (.cells (t.cells sg rg ov iv) 66 (0, 0))
  snd : SndAt (fun k => col k = 2) w sg t.s
  rcv : RcvAt (fun k => col k = 3) (fun k => col k = 7) w rg t.r
  out : CtlsAt B col 4 w ov t.out
  inn : RowsAt B col 5 w iv t.inn
/-- What an operation leaves of it. -/
structure LkTo (B : Nat) (col : Nat → Nat) (w : World) (a sg rg : Nat) (t : Lk) (w' : World) : Prop where
  ex : ∃ col' ov iv, LkP B col' w' a sg rg ov iv t ∧ ∀ k, k < w.heap.size → col' k ≠ 0 → col' k = col k
  fr : Fr (fun k => 1 ≤ col k ∧ col k ≤ 5) w w'
section
variable {B : Nat} {col : Nat → Nat} {w w' w2 : World} {c n a sg rg : Nat} {ov iv : Value} {t t' : Lk}
theorem LkP.to (h : LkP B col w a sg rg ov iv t) : LkTo B col w a sg rg t w := ⟨⟨_, _, _, h, fun _ _ _ => rfl⟩, Fr.refl _ _⟩
/-- One behind the other. -/
theorem LkTo.then_ {col1 : Nat → Nat} (hs : w.heap.size ≤ w'.heap.size) (hc : ∀ k, k < w.heap.size → col1 k ≠ 0 → col1 k = col k) (hf : Fr (fun k => 1 ≤ col k ∧ col k ≤ 5) w w') (h : LkTo B col1 w' a sg rg t' w2) : LkTo B col w a sg rg t' w2 := by
  obtain ⟨col2, ov, iv, h1, h2⟩ := h.ex
  refine ⟨⟨col2, ov, iv, h1, fun k hk h0 => (h2 k (by omega) h0).trans (hc k hk (by rw [← h2 k (by omega) h0]; exact h0))⟩, hf.trans h.fr fun k hk => ?_⟩
  by_cases hkl : k < w.heap.size
  · left; rw [← hc k hkl (by omega)]; exact hk
  · right; omega
theorem LkP.skip (h : LkP B col w a sg rg ov iv t) (hb : Below w.heap.size w w') : LkP B (paint col w w' n) w' a sg rg ov iv t :=
  ⟨h.cols.paint hb.size, h.cols.keep h.own (by omega), bl_get hb h.hb, (h.snd.below hb).mono (fun k hk => h.cols.keep hk (by omega)) (fun k hk => ((h.cols.paint (n := n) hb.size).2 k (by omega)).2), (h.rcv.below hb).mono (fun k hk => h.cols.keep hk (by omega)) (fun k hk => h.cols.keep hk (by omega)) (fun k hk e => by omega),
    h.out.paint h.cols hb (by omega), h.inn.paint h.cols hb (by omega)⟩
theorem LkP.skipTo (h : LkP B col w a sg rg ov iv t) (hb : Below w.heap.size w w') : LkTo B col w a sg rg t w' := ⟨⟨_, _, _, h.skip (n := 0) hb, fun _ hk _ => paint_old hk⟩, .of_below hb⟩
/-- The sender was turned. -/
theorem LkP.sent (h : LkP B col w a sg rg ov iv t) (hf : Fr (fun k => col k = 2) w w') {F : Nat → Prop} {s' : Snd} (hs : SndAt F w' sg s') (hF : ∀ k, F k → col k = 2 ∨ (n = 2 ∧ w.heap.size ≤ k ∧ k < w'.heap.size)) : LkP B (paint col w w' n) w' a sg rg ov iv { t with s := s' } :=
  ⟨h.cols.paint hf.size, h.cols.keep h.own (by omega), hf.get h.hb (fun e => by have := h.own; omega), hs.mono (fun k hk => by
    rcases hF k hk with h1 | ⟨h1, h2, h3⟩
    · exact h.cols.keep h1 (by omega)
    · rw [paint_new h2 h3]; exact h1) (fun k hk => ((h.cols.paint (n := n) hf.size).2 k (by omega)).2), rcv_turn h.rcv h.cols hf (by omega) (by omega), h.out.turn h.cols hf (by omega) (by omega) (by omega), h.inn.turn h.cols hf (by omega) (by omega) (by omega)⟩
/-- The receiver was turned; new blocks hold payloads. -/
theorem LkP.came (h : LkP B col w a sg rg ov iv t) (hf : Fr (fun k => col k = 3) w w') {r' : Rcv} (hr : RcvAt (fun k => col k = 3) (fun k => col k = 7 ∨ (w.heap.size ≤ k ∧ k < w'.heap.size)) w' rg r') : LkP B (paint col w w' 7) w' a sg rg ov iv { t with r := r' } :=
  ⟨h.cols.paint hf.size, h.cols.keep h.own (by omega), hf.get h.hb (fun e => by have := h.own; omega), snd_turn h.snd h.cols hf (by omega), hr.mono (fun k hk => h.cols.keep hk (by omega)) (fun k hk => by
    rcases hk with h1 | h1
    · exact h.cols.keep h1 (by omega)
    · exact paint_new h1.1 h1.2) (fun k hk e => by omega), h.out.turn h.cols hf (by omega) (by omega) (by omega), h.inn.turn h.cols hf (by omega) (by omega) (by omega)⟩
theorem set_obj (W : World) (g j : Nat) (cs : Array Value) (t : TypeId) (v : Value) (h : W.heap[g]? = some (.cells cs t (0, 0))) : (W.setCell ⟨g, j, none⟩ v).heap[g]? = some (.cells (cs.setIfInBounds j v) t (0, 0)) := by
  simp [World.setCell, Array.getElem?_modify, h]
/-- A cell of its own was written, that is neither a row's. -/
theorem LkP.put (h : LkP B col w a sg rg ov iv t) (j : Nat) (v : Value) (hc : (t.cells sg rg ov iv).setIfInBounds j v = t'.cells sg rg ov iv) (hs : t'.s = t.s) (hr : t'.r = t.r) (ho : t'.out = t.out) (hi : t'.inn = t.inn) : LkP B col (w.setCell ⟨a, j, none⟩ v) a sg rg ov iv t' := by
  have hq := fr_cell w a j v
  have hn : ∀ k, col k ≠ 1 → ¬ k = a := fun k hk e => hk (e ▸ h.own)
  refine ⟨h.cols.grow hq.size, h.own, by rw [set_obj _ _ _ _ _ _ h.hb, hc], ?_, ?_, ?_, ?_⟩
  · rw [hs]; exact h.snd.fr hq (fun k hk => hn k (by omega))
  · rw [hr]; exact h.rcv.fr hq (fun k hk => hn k (by omega))
  · rw [ho]; exact h.out.fr hq (fun k hk => hn k (by omega))
  · rw [hi]; exact h.inn.fr hq (fun k hk => hn k (by omega))
/-- Its row of controls, its row of payloads was turned, and stored. -/
theorem LkP.out_set (h : LkP B col w a sg rg ov iv t) (hf : Fr (fun k => col k = 4) w w') {v' : Value} {l' : List Cn} (hR : CtlsAt B (paint col w w' 4) 4 w' v' l') : LkP B (paint col w w' 4) (w'.setCell ⟨a, 13, none⟩ v') a sg rg v' iv { t with out := l' } := by
  have hq := fr_cell w' a 13 v'
  have hb := hf.get h.hb (fun e => by have := h.own; omega)
  have ho : paint col w w' 4 a = 1 := h.cols.keep h.own (by omega)
  have hn : ∀ k, paint col w w' 4 k ≠ 1 → ¬ k = a := fun k hk e => hk (e ▸ ho)
  exact ⟨(h.cols.paint hf.size).grow hq.size, ho, by rw [set_obj _ _ _ _ _ _ hb]; rfl, (snd_turn h.snd h.cols hf (by omega)).fr hq (fun k hk => hn k (by omega)), (rcv_turn h.rcv h.cols hf (by omega) (by omega)).fr hq (fun k hk => hn k (by omega)),
    hR.fr hq (fun k hk => hn k (by omega)), (h.inn.turn h.cols hf (by omega) (by omega) (by omega)).fr hq (fun k hk => hn k (by omega))⟩
theorem LkP.in_set (h : LkP B col w a sg rg ov iv t) (hf : Fr (fun k => col k = 5) w w') {v' : Value} {l' : List (List Int)} (hR : RowsAt B (paint col w w' 5) 5 w' v' l') : LkP B (paint col w w' 5) (w'.setCell ⟨a, 14, none⟩ v') a sg rg ov v' { t with inn := l' } := by
  have hq := fr_cell w' a 14 v'
  have hb := hf.get h.hb (fun e => by have := h.own; omega)
  have ho : paint col w w' 5 a = 1 := h.cols.keep h.own (by omega)
  have hn : ∀ k, paint col w w' 5 k ≠ 1 → ¬ k = a := fun k hk e => hk (e ▸ ho)
  exact ⟨(h.cols.paint hf.size).grow hq.size, ho, by rw [set_obj _ _ _ _ _ _ hb]; rfl, (snd_turn h.snd h.cols hf (by omega)).fr hq (fun k hk => hn k (by omega)), (rcv_turn h.rcv h.cols hf (by omega) (by omega)).fr hq (fun k hk => hn k (by omega)),
    (h.out.turn h.cols hf (by omega) (by omega) (by omega)).fr hq (fun k hk => hn k (by omega)), hR.fr hq (fun k hk => hn k (by omega))⟩
/-- A cell of it. -/
theorem LkP.cell (h : LkP B col w a sg rg ov iv t) (j : Nat) {v : Value} (hv : (t.cells sg rg ov iv)[j]? = some v) : w.cell? ⟨a, j, none⟩ = some v := by
  rw [cell_of_row _ _ _ _ _ _ h.hb]; exact hv
theorem LkP.frozen (h : LkP B col w a sg rg ov iv t) (j : Nat) : w.frozen? ⟨a, j, none⟩ = false := rc_frozen h.hb
theorem LkP.c0 (h : LkP B col w a sg rg ov iv t) : w.cell? ⟨a, 0, none⟩ = some (.int .i64 t.me) := h.cell 0 rfl
theorem LkP.c1 (h : LkP B col w a sg rg ov iv t) : w.cell? ⟨a, 1, none⟩ = some (.int .i64 t.peer) := h.cell 1 rfl
theorem LkP.c2 (h : LkP B col w a sg rg ov iv t) : w.cell? ⟨a, 2, none⟩ = some (.bool t.up) := h.cell 2 rfl
theorem LkP.c3 (h : LkP B col w a sg rg ov iv t) : w.cell? ⟨a, 3, none⟩ = some (.int .i64 t.size) := h.cell 3 rfl
theorem LkP.c4 (h : LkP B col w a sg rg ov iv t) : w.cell? ⟨a, 4, none⟩ = some (.int .i64 t.timer) := h.cell 4 rfl
theorem LkP.c5 (h : LkP B col w a sg rg ov iv t) : w.cell? ⟨a, 5, none⟩ = some (.int .i64 t.tries) := h.cell 5 rfl
theorem LkP.c6 (h : LkP B col w a sg rg ov iv t) : w.cell? ⟨a, 6, none⟩ = some (.int .i64 t.left) := h.cell 6 rfl
theorem LkP.c7 (h : LkP B col w a sg rg ov iv t) : w.cell? ⟨a, 7, none⟩ = some (.int .i64 t.tried) := h.cell 7 rfl
theorem LkP.c8 (h : LkP B col w a sg rg ov iv t) : w.cell? ⟨a, 8, none⟩ = some (.int .i64 t.resets) := h.cell 8 rfl
theorem LkP.c9 (h : LkP B col w a sg rg ov iv t) : w.cell? ⟨a, 9, none⟩ = some (.bool t.busy) := h.cell 9 rfl
theorem LkP.c10 (h : LkP B col w a sg rg ov iv t) : w.cell? ⟨a, 10, none⟩ = some (.bool t.held) := h.cell 10 rfl
theorem LkP.c11 (h : LkP B col w a sg rg ov iv t) : w.cell? ⟨a, 11, none⟩ = some (.pointer (some ⟨sg, 0, none⟩)) := h.cell 11 rfl
theorem LkP.c12 (h : LkP B col w a sg rg ov iv t) : w.cell? ⟨a, 12, none⟩ = some (.pointer (some ⟨rg, 0, none⟩)) := h.cell 12 rfl
theorem LkP.c13 (h : LkP B col w a sg rg ov iv t) : w.cell? ⟨a, 13, none⟩ = some (ov) := h.cell 13 rfl
theorem LkP.c14 (h : LkP B col w a sg rg ov iv t) : w.cell? ⟨a, 14, none⟩ = some (iv) := h.cell 14 rfl
end

end Go.Proofs.YthmdibagcbbgoaaGreat

namespace Go.Proofs.YthmdibagcbbgoaaGreat
open Go.RowKit

theorem infoCtl : (Tryz.prog.info? 46).map (fun i => (i.zero, i.size, i.bytes)) = some (some (.agg #[.int .i64 0, .int .i64 0, .int .i64 0, .bool false, .int .i64 0, .int .i64 0, .slice none 0 0]), 7, 72) := by kernel_rfl
section
variable {P : Program} {ops : Array Oper} {rest : List Oper} {o : Oper} {a : Act} {Q : Exit → Act → World → Prop} {K : Act → World → Prop}
/-- append(row, a control). -/
theorem wp_ctls (w : World) (s x : Operand) (t : TypeId)
    (ho : o.op = .call { callee := .builtin .append, args := #[s, x], argTypes := #[t, t] }) {i : TypeInfo} {z : Value}
    (ht : P.underlying t = some (.slice 46)) (hi : P.info? 46 = some i) (hz : i.zero = some z) (hzs : z.cells.size = 7) (hsize : i.size = 7) {by_ : Nat} (hby : i.bytes = by_) (hby2 : by_ ≤ 100)
    {B : Nat} {col : Nat → Nat} {d : Nat} (hd : d ≠ 0) (hd7 : d ≠ 7) (hC : Cols B col w) {v : Value} {l : List Cn} (hs : a.eval s = v) (hR : CtlsAt B col d w v l) {g : Nat} (hx : a.eval x = .slice (some ⟨g, 0, none⟩) 1 1)
    {c : Cn} {y : Value} (hg : w.heap[g]? = some (.cells (c.agg y) 46 (0, 0))) (hY : Byt (fun k => col k = 7) w y c.data) (hm : l.length ≤ 1000000)
    (h : ∀ v' w', CtlsAt B (paint col w w' d) d w' v' (l ++ [c]) → Fr (fun k => col k = d) w w' → K (a.put o.dst v') w') : o.wp P a w K Q := by
  obtain ⟨cs, h2, h3, h4⟩ := hR
  obtain ⟨yo, yc, rfl⟩ : ∃ yo yc, y = .slice yo c.data.length yc := by
    obtain ⟨⟨⟨_, ao, cap, h, _⟩, _⟩, _⟩ := hY
    exact ⟨ao, cap, h⟩
  have hcl : cs.length = l.length * 7 := h2.1
  obtain ⟨v', w', hr, hO, hg2, hne⟩ := run_append_where (P := P) w B t o.type _ i z 7 by_ ht hi hz hsize hby hzs (by decide) v l.length cs h2 ⟨g, 0, none⟩ 1 1 (c.agg (.slice yo c.data.length yc)).toList rfl (fun j u hj => by
    rw [Addr.add_lit, cell_of_row _ _ _ _ _ _ hg]
    simpa using hj) (by intro u hu; simp [Cn.agg] at hu; rcases hu with rfl | rfl | rfl | rfl | rfl | rfl | rfl <;> rfl) (by unfold maxLen; omega) (by have := Nat.mul_le_mul (show l.length + 1 ≤ 1000001 by omega) hby2; omega) hC.1
  unfold Oper.wp execOp
  simp only [ho, resolve, invoke, builtin, Sem.run_bind, Sem.run_pure, Result.andThen_ok, List.map_toArray, List.map_cons, List.map_nil, hs, hx, hr]
  have hF : Fr (fun k => col k = d) w w' := (Fr.refl _ w).grown hg2 (fun k hk => .inl (h3 k hk))
  have keep : ∀ {z : Value} {q : List Int}, Byt (fun k => col k = 7) w z q → Byt (fun k => paint col w w' d k = 7) w' z q := fun hb => (hb.fr hF (fun k hk e => by omega)).mono fun k hk => hC.keep hk (by omega)
  refine h v' w' ⟨cs ++ (c.agg (.slice yo c.data.length yc)).toList, by simpa using hO, fun k hk => ?_, fun j c' hc => ?_⟩ hF
  · by_cases hkl : k < w.heap.size
    · have h5 : v.ownBlock = some k := by
        apply Classical.byContradiction
        intro hc
        exact hne k hkl (fun e => hc e.symm) hk.symm
      exact hC.keep (h3 k h5) hd
    · exact paint_new (by omega) (hO.lt k hk).2
  · by_cases hj : j < l.length
    · rw [List.getElem?_append_left hj] at hc
      obtain ⟨x, g0, g3⟩ := h4 j c' hc
      refine ⟨x, fun i y hy => ?_, keep g3⟩
      have hil : i < 7 := (Array.getElem?_eq_some_iff.1 hy).1
      rw [List.getElem?_append_left (by omega)]
      exact g0 i y hy
    · have hj2 := (List.getElem?_eq_some_iff.1 hc).1
      simp at hj2
      obtain rfl : j = l.length := by omega
      rw [List.getElem?_append_right (Nat.le_refl _), Nat.sub_self] at hc
      cases hc
      refine ⟨_, fun i y hy => ?_, keep hY⟩
      rw [List.getElem?_append_right (by omega), show l.length * 7 + i - cs.length = i by omega]
      simpa using hy
end

def Lk.send (t : Lk) (c : Cn) : Lk := { t with out := t.out ++ [{ c with me := t.me }] }

theorem held_send {w w' : World} {a b : Nat} {ov : Value} {cs : Array Value} {G : Nat → Prop} (h : w.cell? ⟨a, 13, none⟩ = some ov ∧ w.frozen? ⟨a, 13, none⟩ = false ∧ w.heap[b]? = some (.cells cs 46 (0, 0))) (hf : Fr G w w') (ha : ¬ G a) (hb : ¬ G b) :
    w'.cell? ⟨a, 13, none⟩ = some ov ∧ w'.frozen? ⟨a, 13, none⟩ = false ∧ w'.heap[b]? = some (.cells cs 46 (0, 0)) := by
  have hlt := cell_lt h.1
  refine ⟨hf.cell h.1 ha, ?_, hf.get h.2.2 hb⟩
  have := hf.block a hlt ha
  have h2 := h.2.1
  simp only [World.frozen?, this] at h2 ⊢
  exact h2

def Held7 (a b : Nat) (ov : Value) (c : Cn) (x : Value) (w' : World) : Prop := w'.cell? ⟨a, 13, none⟩ = some ov ∧ w'.frozen? ⟨a, 13, none⟩ = false ∧ w'.heap[b]? = some (.cells (c.agg x) 46 (0, 0))
theorem Held7.cells {a b : Nat} {ov : Value} {c : Cn} {x : Value} {w' : World} (h : Held7 a b ov c x w') : w'.cell? ⟨a, 13, none⟩ = some ov ∧ w'.cell? ⟨b, 0, none⟩ = some (.int .i64 c.kind) ∧ w'.cell? ⟨b, 1, none⟩ = some (.int .i64 c.ns) ∧ w'.cell? ⟨b, 2, none⟩ = some (.int .i64 c.nr) ∧ w'.cell? ⟨b, 3, none⟩ = some (.bool c.p) ∧ w'.cell? ⟨b, 4, none⟩ = some (.int .i64 c.me) ∧ w'.cell? ⟨b, 5, none⟩ = some (.int .i64 c.peer) ∧ w'.cell? ⟨b, 6, none⟩ = some x := by
  obtain ⟨h1, _, h3⟩ := h
  refine ⟨h1, ?_, ?_, ?_, ?_, ?_, ?_, ?_⟩ <;> (rw [cell_of_row _ _ _ _ _ _ h3]; rfl)

set_option maxRecDepth 100000 in
set_option maxHeartbeats 2000000 in
theorem lsend_any (B : Nat) (col : Nat → Nat) (w : World) (a sg rg : Nat) (ov iv : Value) (t : Lk) (h : LkP B col w a sg rg ov iv t) (c : Cn) (x : Value) (hx : Byt (fun k => col k = 7) w x c.data) (hm : t.out.length ≤ 100000) :
    Calls Tryz.prog 39 #[.pointer (some ⟨a, 0, none⟩), .agg #[.int .i64 c.kind, .int .i64 c.ns, .int .i64 c.nr, .bool c.p, .int .i64 c.me, .int .i64 c.peer, x]] w fun e w' => (∃ v, e = .returned v) ∧ LkTo B col w a sg rg (t.send c) w' := by
  obtain ⟨i1, gi, gz0, gz1, gz2⟩ := info_parts (infoCtl)
  obtain ⟨xo, xc, rfl⟩ : ∃ xo xc, x = .slice xo c.data.length xc := by
    obtain ⟨⟨⟨_, ao, cap, h, _⟩, _⟩, _⟩ := hx
    exact ⟨ao, cap, h⟩
  obtain ⟨cs, v2, v3, v4⟩ := h.out
  obtain ⟨oo, oc, rfl⟩ := rc_form v2
  clear v2 v3 v4
  have hb1 := bl_alloc (bl_refl w) (.cells #[.int .i64 c.kind, .int .i64 c.ns, .int .i64 c.nr, .bool c.p, .int .i64 c.me, .int .i64 c.peer, .slice xo c.data.length xc] 46)
  have hx1 := heap_alloc_new w (.cells #[.int .i64 c.kind, .int .i64 c.ns, .int .i64 c.nr, .bool c.p, .int .i64 c.me, .int .i64 c.peer, .slice xo c.data.length xc] 46)
  obtain ⟨W1, hW1⟩ : ∃ W1, w.alloc (.cells #[.int .i64 c.kind, .int .i64 c.ns, .int .i64 c.nr, .bool c.p, .int .i64 c.me, .int .i64 c.peer, .slice xo c.data.length xc] 46) = W1 := ⟨_, rfl⟩
  rw [hW1] at hb1 hx1
  have hx2 := set_obj W1 w.heap.size 4 _ _ (.int .i64 t.me) hx1
  have hz1 : W1.frozen? ⟨w.heap.size, 4, none⟩ = false := rc_frozen hx1
  have d4 : W1.cell? ⟨w.heap.size, 4, none⟩ = some (.int .i64 c.me) := by rw [cell_of_row _ _ _ _ _ _ hx1]; rfl
  have e0 : W1.cell? ⟨a, 0, none⟩ = some (.int .i64 t.me) := below_cell hb1 (h.cell 0 rfl)
  have hb2 : Below w.heap.size w (W1.setCell ⟨w.heap.size, 4, none⟩ (.int .i64 t.me)) := bl_fr hb1 (fr_cell W1 w.heap.size 4 _) (fun k hk => by omega)
  obtain ⟨W2, hW2⟩ : ∃ W2, W1.setCell ⟨w.heap.size, 4, none⟩ (.int .i64 t.me) = W2 := ⟨_, rfl⟩
  rw [hW2] at hx2 hb2
  have hx2' : W2.heap[w.heap.size]? = some (.cells (({ c with me := t.me } : Cn).agg (.slice xo c.data.length xc)) 46 (0, 0)) := hx2
  have h2 := h.skip (n := 0) hb2
  have hxx := (hx.below hb2).mono (G := fun k => paint col w W2 0 k = 7) fun k hk => h.cols.keep hk (by omega)
  have hcb : paint col w W2 0 w.heap.size = 0 := paint_new (Nat.le_refl _) (lt_of_get hx2')
  have HA2 : Hid (∀ k, k < w.heap.size → paint col w W2 0 k = col k) := fun k hk => paint_old hk
  have HS2 := Lib.hid hb2
  generalize paint col w W2 0 = c2 at h2 hxx hcb HA2
  have e13 := h2.cell 13 rfl
  have f13 := h2.frozen 13
  have HP2 := Lib.hid h2
  have HX2 := Lib.hid hx2'
  have HXX := Lib.hid hxx
  have hS0 : W2.cell? ⟨a, 13, none⟩ = some (.slice oo t.out.length oc) ∧ W2.frozen? ⟨a, 13, none⟩ = false ∧ W2.heap[w.heap.size]? = some (.cells (({ c with me := t.me } : Cn).agg (.slice xo c.data.length xc)) 46 (0, 0)) := ⟨e13, f13, hx2'⟩
  have HS0 : Hid (Held7 a w.heap.size (.slice oo t.out.length oc) { c with me := t.me } (.slice xo c.data.length xc) W2) := hS0
  have hown := Lib.hid h.own
  clear h hx hx1 hx2 hb1 hb2 h2 hxx hx2' hS0 e13 f13
  go_enter Tryz.func39, Tryz.ntmps39
  go_wp2_with fail
  try simp only [hW1]
  go_wp2_with fail
  try simp only [hW2]
  have hba : Below W2.heap.size W2 (W2.alloc (.cells #[.int .i64 c.kind, .int .i64 c.ns, .int .i64 c.nr, .bool c.p, .int .i64 t.me, .int .i64 c.peer, .slice xo c.data.length xc] 46)).drew := bl_drew (bl_alloc (bl_refl W2) _)
  have hxa : (W2.alloc (.cells #[.int .i64 c.kind, .int .i64 c.ns, .int .i64 c.nr, .bool c.p, .int .i64 t.me, .int .i64 c.peer, .slice xo c.data.length xc] 46)).drew.heap[W2.heap.size]? = some (.cells (({ c with me := t.me } : Cn).agg (.slice xo c.data.length xc)) 46 (0, 0)) := heap_alloc_new W2 _
  obtain ⟨W3, hW3⟩ : ∃ W3, (W2.alloc (.cells #[.int .i64 c.kind, .int .i64 c.ns, .int .i64 c.nr, .bool c.p, .int .i64 t.me, .int .i64 c.peer, .slice xo c.data.length xc] 46)).drew = W3 := ⟨_, rfl⟩
  rw [hW3] at hba hxa
  have h3 := HP2.out.skip (n := 0) hba
  have hx3 := (HXX.out.below hba).mono (G := fun k => paint c2 W2 W3 0 k = 7) fun k hk => HP2.out.cols.keep hk (by omega)
  have HA3 : Hid (∀ k, k < W2.heap.size → paint c2 W2 W3 0 k = c2 k) := fun k hk => paint_old hk
  have HB3 := Lib.hid hba
  have HXA := Lib.hid hxa
  have HX3 := Lib.hid hx3
  generalize paint c2 W2 W3 0 = c3 at h3 hx3 HA3 HX3
  have HP3 := Lib.hid h3
  clear h3 hx3 hxa hba
  refine wp_region_ord (n := 10) (S := Held7 a w.heap.size (.slice oo t.out.length oc) { c with me := t.me } (.slice xo c.data.length xc))
    [(0, true), (1, true), (2, true), (3, true), (4, true), (5, true), (6, false), (7, false), (8, true), (9, true), (10, false)]
    (by kernel_rfl) (fun _ _ d _ _ h => by cases d <;> exact h) (by kernel_rfl) HS0.out ?_
  iterate 6
    refine wpOrd_take (v := ?_) rfl (by rfl) ?_ ?_
    rotate_left
    focus (rintro w1 hSS; obtain ⟨_, _, _, _, _, _, _, _⟩ := hSS.cells; go_simp; try with_reducible rfl)
    simp only [Act.put, List.setIfInBounds_toArray]
  refine wpOrd_step rfl (by rfl) (fun K hK => ?_)
  go_simp
  refine hK.out _ _ (held_send HS0.out (Fr.of_below (F := fun _ => False) HB3.out) (fun h => h) (fun h => h)) ?_
  clear hK K
  try simp only [Act.put, List.setIfInBounds_toArray]
  refine wpOrd_step rfl (by rfl) (fun K hK => ?_)
  refine wp_ctls _ (.tmp 13) (.tmp 15) _ (by rfl) Tryz.underlying36 gi gz0 rfl gz1 gz2 (by omega) (d := 4) (by omega) (by omega) HP3.out.cols (by rfl) HP3.out.out (by rfl) HXA.out HX3.out (by omega) ?_
  intro v' W4 hR4 hF4
  have hcb3 : c3 w.heap.size = 0 := by rw [HA3.out _ (lt_of_get HX2.out)]; exact hcb
  refine hK.out _ _ (held_send (held_send HS0.out (Fr.of_below (F := fun _ => False) HB3.out) (fun h => h) (fun h => h)) hF4 (by have := HP3.out.own; omega) (by omega)) ?_
  clear hK K
  try simp only [Act.put, List.setIfInBounds_toArray]
  have h5 := HP3.out.out_set hF4 hR4
  have hz4 : W4.frozen? ⟨a, 13, none⟩ = false := rc_frozen (hF4.get HP3.out.hb (by have := HP3.out.own; omega))
  have e13 : W4.cell? ⟨a, 13, none⟩ = some (.slice oo t.out.length oc) := hF4.cell (HP3.out.cell 13 rfl) (by have := HP3.out.own; omega)
  have HP5 := Lib.hid h5
  have HF4 := Lib.hid hF4
  obtain ⟨lo, lc, hl⟩ : ∃ lo lc, v' = .slice lo (t.out.length + 1) lc := by
    obtain ⟨cs, v2, v3, v4⟩ := hR4
    obtain ⟨x, y, z⟩ := rc_form v2
    exact ⟨x, y, by rw [z]; simp⟩
  subst hl
  clear h5 hF4 hR4
  iterate 2
    refine wpOrd_take (v := ?_) rfl (by rfl) ?_ ?_
    rotate_left
    focus (rintro w1 hSS; obtain ⟨_, _, _, _, _, _, _, _⟩ := hSS.cells; go_simp; try with_reducible rfl)
    simp only [Act.put]
  refine wpOrd_last rfl (by rfl) (fun K hK => ?_)
  go_simp
  refine hK.out _ _ ?_
  clear hK K
  refine wpOrd_nil ?_
  go_end0
  have s2 := HS2.out.size
  have s3 := HB3.out.size
  have s4 := HF4.out.size
  have ho : col a = 1 := hown.out
  refine ⟨⟨_, rfl⟩, ⟨⟨_, _, _, HP5.out, fun k hk _ => by rw [paint_old (by omega), HA3.out k (by omega), HA2.out k hk]⟩, ?_⟩⟩
  refine ((((Fr.of_below HS2.out).then_below HB3.out).trans HF4.out (fun k hk => ?_))).trans (fr_cell W4 a 13 _) (fun k hk => .inl ?_)
  · by_cases hkl : k < w.heap.size
    · left; rw [← HA2.out k hkl, ← HA3.out k (by omega)]; omega
    · right; omega
  · subst hk; omega

end Go.Proofs.YthmdibagcbbgoaaGreat

namespace Go.Proofs.YthmdibagcbbgoaaGreat
open Go.RowKit

def Lk.setup (t : Lk) (poll : Bool) : Lk := { t.send ⟨5, 0, 0, poll, 0, 0, []⟩ with left := t.timer }
def Lk.reset (t : Lk) : Lk := { t with s := ⟨t.s.size, 0, [], 0⟩, r := ⟨t.r.size, 0, [], []⟩, resets := wrap64 (t.resets + 1), left := 0, tried := 0, busy := false }
def Lk.anew (t : Lk) : Lk := (({ t with me := (t.me + 1) % 65536, up := false, peer := -1 } : Lk).reset).setup false
def Lk.heard (t : Lk) : Lk := { t with up := true, left := 0, tried := 0 }
def Lk.answer (t : Lk) : Lk := t.send ⟨if t.held then 3 else 2, 0, t.r.waits, false, 0, t.peer, []⟩
def Lk.dat (t : Lk) (ns : Int) (p : List Int) (poll : Bool) : Lk := t.send ⟨1, ns, t.r.waits, poll, 0, t.peer, p⟩

theorem byt_nil (F : Nat → Prop) (w : World) : Byt F w (.slice none 0 0) [] := ⟨⟨Reads.nil _ _, fun k hk => by simp [Value.ownBlock] at hk⟩, fun n hn => by simp at hn⟩
section
variable {B : Nat} {col : Nat → Nat} {w w' w2 : World} {c n a sg rg : Nat} {ov iv : Value} {t t' : Lk}
/-- The receiver was turned. -/
theorem LkP.rcvd (h : LkP B col w a sg rg ov iv t) (hf : Fr (fun k => col k = 3) w w') {C D : Nat → Prop} {r' : Rcv} (hr : RcvAt C D w' rg r') (hC : ∀ k, C k → col k = 3 ∨ (n = 3 ∧ w.heap.size ≤ k ∧ k < w'.heap.size)) (hD : ∀ k, D k → col k = 7 ∨ (n = 7 ∧ w.heap.size ≤ k ∧ k < w'.heap.size)) : LkP B (paint col w w' n) w' a sg rg ov iv { t with r := r' } :=
  ⟨h.cols.paint hf.size, h.cols.keep h.own (by omega), hf.get h.hb (fun e => by have := h.own; omega), snd_turn h.snd h.cols hf (by omega), hr.mono (fun k hk => by
    rcases hC k hk with h1 | ⟨h1, h2, h3⟩
    · exact h.cols.keep h1 (by omega)
    · rw [paint_new h2 h3]; exact h1) (fun k hk => by
    rcases hD k hk with h1 | ⟨h1, h2, h3⟩
    · exact h.cols.keep h1 (by omega)
    · rw [paint_new h2 h3]; exact h1) (fun k hk e => by omega), h.out.turn h.cols hf (by omega) (by omega) (by omega), h.inn.turn h.cols hf (by omega) (by omega) (by omega)⟩
theorem LkP.putTo (h : LkP B col w a sg rg ov iv t) (j : Nat) (v : Value) (hc : (t.cells sg rg ov iv).setIfInBounds j v = t'.cells sg rg ov iv) (hs : t'.s = t.s) (hr : t'.r = t.r) (ho : t'.out = t.out) (hi : t'.inn = t.inn) : LkTo B col w a sg rg t' (w.setCell ⟨a, j, none⟩ v) :=
  ⟨⟨_, _, _, h.put j v hc hs hr ho hi, fun _ _ _ => rfl⟩, (fr_cell w a j v).mono fun k hk => .inl (by subst hk; have := h.own; omega)⟩
/-- The pieces one behind the other. -/
theorem LkTo.bind (h : LkTo B col w a sg rg t w') (k : ∀ col1 ov1 iv1, LkP B col1 w' a sg rg ov1 iv1 t → LkTo B col1 w' a sg rg t' w2) : LkTo B col w a sg rg t' w2 := by
  obtain ⟨⟨c1, o1, i1, h1, hc⟩, hf⟩ := h
  exact LkTo.then_ hf.size hc hf (k c1 o1 i1 h1)
theorem LkTo.open_ (h : LkTo B col w a sg rg t w') : ∃ c1 o1 i1, LkP B c1 w' a sg rg o1 i1 t ∧ (∀ k, k < w.heap.size → c1 k ≠ 0 → c1 k = col k) ∧ Hid (∀ t2 w2, LkTo B c1 w' a sg rg t2 w2 → LkTo B col w a sg rg t2 w2) := by
  obtain ⟨⟨c1, o1, i1, h1, hc⟩, hf⟩ := h
  exact ⟨c1, o1, i1, h1, hc, fun t2 w2 h2 => LkTo.then_ hf.size hc hf h2⟩
theorem LkTo.openf (h : LkTo B col w a sg rg t w') : ∃ c1 o1 i1, LkP B c1 w' a sg rg o1 i1 t ∧ (∀ k, k < w.heap.size → c1 k ≠ 0 → c1 k = col k) ∧ Hid (Fr (fun k => 1 ≤ col k ∧ col k ≤ 5) w w') ∧ Hid (∀ t2 w2, LkTo B c1 w' a sg rg t2 w2 → LkTo B col w a sg rg t2 w2) := by
  obtain ⟨⟨c1, o1, i1, h1, hc⟩, hf⟩ := h
  exact ⟨c1, o1, i1, h1, hc, hf, fun t2 w2 h2 => LkTo.then_ hf.size hc hf h2⟩
theorem LkP.sentTo (h : LkP B col w a sg rg ov iv t) (hf : Fr (fun k => k = sg) w w') {F : Nat → Prop} {s' : Snd} (hs : SndAt F w' sg s') (hF : ∀ k, F k → col k = 2 ∨ (w.heap.size ≤ k ∧ k < w'.heap.size)) : LkTo B col w a sg rg { t with s := s' } w' := by
  have hsg : col sg = 2 := h.snd.2.1
  have hf2 : Fr (fun k => col k = 2) w w' := hf.mono fun k hk => .inl (by subst hk; exact hsg)
  exact ⟨⟨_, _, _, h.sent (n := 2) hf2 hs (fun k hk => (hF k hk).elim .inl (fun h => .inr ⟨rfl, h⟩)), fun k hk _ => paint_old hk⟩, hf2.mono fun k hk => .inl (by omega)⟩
end

set_option maxRecDepth 100000 in
set_option maxHeartbeats 2000000 in
theorem lsetup_any (B : Nat) (col : Nat → Nat) (w : World) (a sg rg : Nat) (ov iv : Value) (t : Lk) (h : LkP B col w a sg rg ov iv t) (poll : Bool) (hm : t.out.length ≤ 100000) :
    Calls Tryz.prog 21 #[.pointer (some ⟨a, 0, none⟩), .bool poll] w fun e w' => (∃ v, e = .returned v) ∧ LkTo B col w a sg rg (t.setup poll) w' := by
  have HS := lsend_any B col w a sg rg ov iv t h ⟨5, 0, 0, poll, 0, 0, []⟩ _ (byt_nil _ _) hm
  go_enter Tryz.func21, Tryz.ntmps21
  go_wp2_with fail
  refine HS.mono ?_
  rintro e w1 ⟨⟨v, rfl⟩, h1⟩
  have H1 := Lib.hid h1
  obtain ⟨⟨c1, o1, i1, hp, _⟩, _⟩ := h1
  have e4 := hp.c4
  have e6 := hp.c6
  have z6 := hp.frozen 6
  clear hp HS
  go_wp2
  go_end0
  exact ⟨⟨_, rfl⟩, H1.out.bind fun c1 o1 i1 hp => hp.putTo 6 _ rfl rfl rfl rfl rfl⟩

set_option maxRecDepth 100000 in
set_option maxHeartbeats 2000000 in
theorem lheard_any (B : Nat) (col : Nat → Nat) (w : World) (a sg rg : Nat) (ov iv : Value) (t : Lk) (h : LkP B col w a sg rg ov iv t) :
    Calls Tryz.prog 80 #[.pointer (some ⟨a, 0, none⟩)] w fun e w' => (∃ v, e = .returned v) ∧ LkTo B col w a sg rg t.heard w' := by
  have H1 := Lib.hid h
  have e2 := h.c2
  have e6 := h.c6
  have e7 := h.c7
  have z2 := h.frozen 2
  have z6 := h.frozen 6
  have z7 := h.frozen 7
  clear h
  go_enter Tryz.func80, Tryz.ntmps80
  go_wp2
  go_end0
  refine ⟨⟨_, rfl⟩, ?_⟩
  refine (H1.out.putTo (t' := { t with up := true }) 2 (.bool true) rfl rfl rfl rfl rfl).bind fun c1 o1 i1 h1 => ?_
  refine (h1.putTo (t' := { t with up := true, left := 0 }) 6 (.int .i64 0) rfl rfl rfl rfl rfl).bind fun c1 o1 i1 h1 => ?_
  exact h1.putTo 7 (.int .i64 0) rfl rfl rfl rfl rfl

set_option maxRecDepth 100000 in
set_option maxHeartbeats 2000000 in
theorem lreset_any (B : Nat) (col : Nat → Nat) (w : World) (a sg rg : Nat) (ov iv : Value) (t : Lk) (h : LkP B col w a sg rg ov iv t) :
    Calls Tryz.prog 69 #[.pointer (some ⟨a, 0, none⟩)] w fun e w' => (∃ v, e = .returned v) ∧ LkTo B col w a sg rg t.reset w' := by
  have HS := sreset_any _ sg t.s w h.snd
  have e11 := h.c11
  have hsg : col sg = 2 := h.snd.2.1
  have HP := Lib.hid h
  clear h
  go_enter Tryz.func69, Tryz.ntmps69
  go_wp2_with fail
  refine HS.mono ?_
  rintro e w1 ⟨u, rfl, _, hs1, hf1⟩
  have h1 := HP.out.sentTo hf1 hs1 (fun k hk => .inl hk)
  have H1 := Lib.hid h1
  obtain ⟨⟨c1, o1, i1, hp, hc1⟩, hF1⟩ := h1
  have e12 := hp.c12
  obtain ⟨mb, ab, fk, hR⟩ := hp.rcv
  have hrg : c1 rg = 3 := hR.ca
  have HR := rcreset_any rg t.r.size _ _ _ w1 hR.hb
  have HP1 := Lib.hid hp
  have HC1 := Lib.hid hc1
  have HF1 := Lib.hid hF1
  clear hs1 hf1 HS hp hR e11 hc1 hF1
  go_wp2_with fail
  refine HR.mono ?_
  rintro e w2 ⟨⟨v, rfl⟩, hr2, hf2⟩
  have hf2' : Fr (fun k => c1 k = 3) w1 w2 := hf2.mono fun k hk => .inl (by subst hk; exact hrg)
  have h2 := HP1.out.rcvd (n := 3) hf2' hr2 (fun k hk => hk.elim (fun e => .inl (by subst e; exact hrg)) (fun h => .inr ⟨rfl, h⟩)) (fun k hk => hk.elim)
  have H2 : Hid (LkTo B c1 w1 a sg rg { t with s := ⟨t.s.size, 0, [], 0⟩, r := ⟨t.r.size, 0, [], []⟩ } w2) := ⟨⟨_, _, _, h2, fun k hk _ => paint_old hk⟩, hf2'.mono fun k hk => .inl (by omega)⟩
  have g8 := h2.c8
  have g6 := h2.c6
  have g7 := h2.c7
  have g9 := h2.c9
  have z8 := h2.frozen 8
  have z6 := h2.frozen 6
  have z7 := h2.frozen 7
  have z9 := h2.frozen 9
  clear h2 hf2' hf2 hr2 HR e12
  go_wp2
  go_end0
  refine ⟨⟨_, rfl⟩, ?_⟩
  refine LkTo.then_ HF1.out.size HC1.out HF1.out ?_
  refine H2.out.bind fun c o i h => ?_
  refine (h.putTo (t' := { t with s := ⟨t.s.size, 0, [], 0⟩, r := ⟨t.r.size, 0, [], []⟩, resets := wrap64 (t.resets + 1) }) 8 (.int .i64 (wrap64 (t.resets + 1))) rfl rfl rfl rfl rfl).bind fun c1 o1 i1 h1 => ?_
  refine (h1.putTo (t' := { t with s := ⟨t.s.size, 0, [], 0⟩, r := ⟨t.r.size, 0, [], []⟩, resets := wrap64 (t.resets + 1), left := 0 }) 6 (.int .i64 0) rfl rfl rfl rfl rfl).bind fun c1 o1 i1 h1 => ?_
  refine (h1.putTo (t' := { t with s := ⟨t.s.size, 0, [], 0⟩, r := ⟨t.r.size, 0, [], []⟩, resets := wrap64 (t.resets + 1), left := 0, tried := 0 }) 7 (.int .i64 0) rfl rfl rfl rfl rfl).bind fun c1 o1 i1 h1 => ?_
  exact h1.putTo 9 (.bool false) rfl rfl rfl rfl rfl

set_option maxRecDepth 100000 in
set_option maxHeartbeats 2000000 in
theorem lanew_any (B : Nat) (col : Nat → Nat) (w : World) (a sg rg : Nat) (ov iv : Value) (t : Lk) (h : LkP B col w a sg rg ov iv t) (hme : t.me < 65536) (hm : t.out.length ≤ 100000) :
    Calls Tryz.prog 49 #[.pointer (some ⟨a, 0, none⟩)] w fun e w' => (∃ v, e = .returned v) ∧ LkTo B col w a sg rg t.anew w' := by
  have e0 := h.c0
  have e1 := h.c1
  have e2 := h.c2
  have z0 := h.frozen 0
  have z1 := h.frozen 1
  have z2 := h.frozen 2
  have m1 : (t.me : Int) < 65536 := by omega
  have H3 : LkTo B col w a sg rg { t with me := (t.me + 1) % 65536, up := false, peer := -1 } (((w.setCell ⟨a, 0, none⟩ (.int .i64 (((t.me : Int) + 1) % 65536))).setCell ⟨a, 2, none⟩ (.bool false)).setCell ⟨a, 1, none⟩ (.int .i64 (-1))) := by
    refine (h.putTo (t' := { t with me := (t.me + 1) % 65536 }) 0 (.int .i64 (((t.me : Int) + 1) % 65536)) ?_ rfl rfl rfl rfl).bind fun c1 o1 i1 h1 => ?_
    · rw [show ((t.me : Int) + 1) % 65536 = (((t.me + 1) % 65536 : Nat) : Int) by omega]; rfl
    refine (h1.putTo (t' := { t with me := (t.me + 1) % 65536, up := false }) 2 (.bool false) rfl rfl rfl rfl rfl).bind fun c1 o1 i1 h1 => ?_
    exact h1.putTo 1 (.int .i64 (-1)) rfl rfl rfl rfl rfl
  obtain ⟨c3, o3, i3, hp3, _, H3⟩ := H3.open_
  have HR := lreset_any B c3 _ a sg rg o3 i3 _ hp3
  clear h hp3
  go_enter Tryz.func49, Tryz.ntmps49
  go_wp2_with fail
  refine HR.mono ?_
  rintro e w4 ⟨⟨v, rfl⟩, h4⟩
  obtain ⟨c4, o4, i4, hp4, _, H4⟩ := h4.open_
  have HS := lsetup_any B c4 w4 a sg rg o4 i4 _ hp4 false hm
  clear hp4 h4 HR
  go_wp2_with fail
  refine HS.mono ?_
  rintro e w5 ⟨⟨v, rfl⟩, h5⟩
  have H5 := H3.out _ _ (H4.out _ _ h5)
  clear h5 HS
  go_wp2
  go_end0
  exact ⟨⟨_, rfl⟩, H5⟩

end Go.Proofs.YthmdibagcbbgoaaGreat
