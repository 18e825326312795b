/- portagelaw09's line: the first control on its way, held in a box. Conditions: as they stand. -/
import Derived.Test.YthmdibagcbbgoaaM43
namespace Go.Proofs.Ythmdibagcbbgoaa
open Go.RowKit

section
variable {B : Nat} {col : Nat → Nat → Nat} {cl : Nat → Nat} {w w' : World} {nb : Nat} {a s r : Nat → Nat} {ov iv wv uv : Nat → Value} {st : Nat → St} {ok : Bool} {L : Ln} {i : Nat} {c : Cn} {l : List Cn}
/-- The first control on its way. -/
theorem LineP.head (h : LineP B col cl w nb a s r ov iv wv uv st ok L) (hi : i < 2) (hw : L.way i = c :: l) :
    ∃ g off cap x, wv i = .slice (some ⟨g, off, none⟩) (l.length + 1) cap ∧ (∀ (j : Nat) (y : Value), (c.agg x)[j]? = some y → w.cell? ⟨g, off + j, none⟩ = some y) ∧ Byt (Free col cl w) w x c.data := by
  obtain ⟨cs, hR, hF, hC⟩ := h.way i hi
  rw [hw] at hR hC
  obtain ⟨x, hx, hb⟩ := hC 0 c rfl
  obtain ⟨ao, cap, hv, hle⟩ := hR.form
  rw [hv] at hR hF
  obtain ⟨g, off, rfl, _⟩ := hR.cell (j := 0) (u := .int .i64 c.kind) (by have h9 := hx 0 (.int .i64 c.kind) rfl; simpa using h9)
  refine ⟨g, off, cap, x, hv, fun j y hy => ?_, hb⟩
  have := hx j y hy
  rw [Nat.zero_mul, Nat.zero_add] at this
  obtain ⟨g', off', e, hc⟩ := hR.cell this
  simp only [Option.some.injEq, Addr.mk.injEq, and_true] at e
  obtain ⟨rfl, rfl⟩ := e
  exact hc
/-- It is cut off. -/
theorem LineP.cutw (h : LineP B col cl w nb a s r ov iv wv uv st ok L) (hi : i < 2) (hw : L.way i = c :: l) {ao : Option Addr} {cap : Nat} (hv : wv i = .slice ao (l.length + 1) cap) :
    LineP B col cl (w.setCell ⟨nb, 10 + i, none⟩ (.slice (if cap = 1 then ao else ao.map (·.add 7)) l.length (cap - 1))) nb a s r ov iv (upd wv i (.slice (if cap = 1 then ao else ao.map (·.add 7)) l.length (cap - 1))) uv st ok { L with way := upd L.way i l } ∧
      Below B w (w.setCell ⟨nb, 10 + i, none⟩ (.slice (if cap = 1 then ao else ao.map (·.add 7)) l.length (cap - 1))) := by
  obtain ⟨cs, hR, hF, hC⟩ := h.way i hi
  rw [hw] at hR hC
  rw [hv] at hR hF
  have hcut := hR.cut
  rw [Nat.one_mul] at hcut
  have hown : ∀ k, (Value.slice (if cap = 1 then ao else ao.map (·.add 7)) l.length (cap - 1)).ownBlock = some k → cl k = 2 + i := by
    intro k hk
    cases ao with
    | none => split at hk <;> cases hk
    | some q =>
      apply hF k
      split at hk
      · exact hk
      · exact hk
  generalize (Value.slice (if cap = 1 then ao else ao.map (·.add 7)) l.length (cap - 1)) = v at hcut hown
  have hf := fr_cell w nb (10 + i) v
  have hG : ∀ k, k = nb → cl k = 1 := fun k hk => by rw [hk]; exact h.own
  refine ⟨h.own_ (L' := { L with way := upd L.way i l }) hf (fun k hk => by rw [hG k hk]; omega) (h.cols.grow hf.size) (fun _ _ => rfl) rfl ?_ (fun q hq => ?_) (fun q hq => h.innK hf (fun _ _ => rfl) hq fun k hk => by rw [hG k hk]; omega), fr_bl hf (fun k hk => (h.cols.2 k (by rw [hG k hk]; omega)).1) h.cols.1⟩
  · show _ = some (Obj.cells (lineCells a st (upd wv i v) uv L.n ok) 60 (0, 0))
    rw [← line_set_way a st wv uv L.n ok i hi v]
    exact rc_set w nb (10 + i) _ _ v h.hb
  · by_cases e : q = i
    · subst e
      simp only [upd_same]
      refine ⟨cs.drop 7, hcut.fr hf (fun k hk e => by have := hown k hk; rw [hG k e] at this; omega), hown, fun m c' hc' => ?_⟩
      obtain ⟨x, x1, x2⟩ := hC (m + 1) c' hc'
      refine ⟨x, fun j y hy => ?_, (x2.fr hf fun k hk e => by have := hk.2.1; rw [hG k e] at this; omega).mono fun k hk => ⟨Nat.lt_of_lt_of_le hk.1 hf.size, hk.2⟩⟩
      have := x1 j y hy
      rw [List.getElem?_drop, show 7 + (m * 7 + j) = (m + 1) * 7 + j by omega]
      exact this
    · simp only [upd_ne e]
      exact h.wayK hf (fun _ _ => rfl) hq fun k hk => by rw [hG k hk]; omega
end

/-- What came, in a box; the line. -/
structure Held (B : Nat) (w : World) (nb g0 g1 : Nat) (K : Int) (st : Nat → St) (c : Cn) (L : Ln) : Prop where
  ex : ∃ col cl a s r ov iv wv uv x, LineP B col cl w nb a s r ov iv wv uv st true L ∧ w.heap[g0]? = some (.cells (c.agg x) 24 (0, 0)) ∧ cl g0 = 0 ∧ (∀ j, j < 2 → col j g0 = 0) ∧ Byt (Free col cl w) w x c.data ∧ (w.cell? ⟨g1, 0, none⟩ = some (.int .i64 K) ∧ g1 < w.heap.size ∧ cl g1 = 0 ∧ ∀ j, j < 2 → col j g1 = 0)
theorem Held.kind {B : Nat} {w : World} {nb g0 g1 : Nat} {K : Int} {st : Nat → St} {c : Cn} {L : Ln} (h : Held B w nb g0 g1 K st c L) : w.cell? ⟨g1, 0, none⟩ = some (.int .i64 K) := by
  obtain ⟨col, cl, a, s, r, ov, iv, wv, uv, x, h1, _, _, _, _, h2, _⟩ := h.ex
  exact h2
theorem Held.line {B : Nat} {w : World} {nb g0 g1 : Nat} {K : Int} {st : Nat → St} {c : Cn} {L : Ln} (h : Held B w nb g0 g1 K st c L) : LineAt B w nb st true L := by
  obtain ⟨col, cl, a, s, r, ov, iv, wv, uv, x, h1, _⟩ := h.ex
  exact ⟨_, _, _, _, _, _, _, _, _, h1⟩
/-- The box is made, the row cut off. -/
theorem LineP.held {B : Nat} {col : Nat → Nat → Nat} {cl : Nat → Nat} {w W W' : World} {nb g0 g1 : Nat} {K : Int} {a s r : Nat → Nat} {ov iv wv uv : Nat → Value} {st : Nat → St} {L : Ln} {i : Nat} {c : Cn} {l : List Cn} {x : Value} {ao : Option Addr} {cap : Nat}
    (h : LineP B col cl w nb a s r ov iv wv uv st true L) (hi : i < 2) (hw : L.way i = c :: l) (hx : Byt (Free col cl w) w x c.data) (hv : wv i = .slice ao (l.length + 1) cap) (hb : Below w.heap.size w W) (hg : w.heap.size ≤ g0) (hbox : W.heap[g0]? = some (.cells (c.agg x) 24 (0, 0))) (hb' : Below W.heap.size W W') (hk : w.cell? ⟨g1, 0, none⟩ = some (.int .i64 K)) (hl1 : g1 < w.heap.size) (hc1 : cl g1 = 0) (hj1 : ∀ j, j < 2 → col j g1 = 0) :
    Held B (W'.setCell ⟨nb, 10 + i, none⟩ (.slice (if cap = 1 then ao else ao.map (·.add 7)) l.length (cap - 1))) nb g0 g1 K st c { L with way := upd L.way i l } ∧ Below B w (W'.setCell ⟨nb, 10 + i, none⟩ (.slice (if cap = 1 then ao else ao.map (·.add 7)) l.length (cap - 1))) := by
  have hbb : Below w.heap.size w W' := hb.trans (hb'.mono hb.size)
  have h1 := h.below hbb
  have hf0 : Fr (fun _ => False) w W' := .of_below hbb
  have hcut := h1.cutw hi hw hv
  have hf := fr_cell W' nb (10 + i) (.slice (if cap = 1 then ao else ao.map (·.add 7)) l.length (cap - 1))
  have hne : nb ≠ g0 := fun e => by have := lt_of_get h.hb; omega
  refine ⟨⟨_, _, _, _, _, _, _, _, _, x, hcut.1, hf.get (bl_get hb' hbox) (fun e => hne e.symm), ?_, fun j hj => ?_, ?_, hf.cell (hf0.cell hk (fun h => h)) (fun e => by rw [e, h.own] at hc1; omega), Nat.lt_of_lt_of_le hl1 (Nat.le_trans hf0.size hf.size), hc1, hj1⟩, (hbb.mono h.cols.1).trans hcut.2⟩
  · apply Classical.byContradiction
    intro hn
    have := (h.cols.2 g0 hn).2
    omega
  · apply Classical.byContradiction
    intro hn
    have := ((h.lk j hj).cols.2 g0 hn).2
    omega
  · refine ((hx.fr hf0 fun _ _ h => h).fr hf fun k hk e => ?_).mono fun k hk => ⟨Nat.lt_of_lt_of_le hk.1 (Nat.le_trans hf0.size hf.size), hk.2⟩
    have := hk.2.1
    rw [e, h.own] at this
    omega
theorem Pl.of_free {col : Nat → Nat → Nat} {cl : Nat → Nat} {w W : World} {x : Value} {p : List Int} {i n : Nat} (h : Byt (Free col cl w) w x p) (hi : i < 2) (hb : Below w.heap.size w W) : Pl (paint (col i) w W n) W x p := by
  have h1 := h.below hb
  refine ⟨h1.1.1, h1.2, fun _ k hk => ?_⟩
  have := h1.1.2 k hk
  exact ⟨Nat.lt_of_lt_of_le this.1 hb.size, by rw [paint_old this.1]; exact this.2.2 i hi⟩
/-- It comes. -/
theorem Held.recv {B : Nat} {w : World} {nb g0 g1 : Nat} {K : Int} {st : Nat → St} {c : Cn} {L : Ln} {i : Nat} (h : Held B w nb g0 g1 K st c L) (hi : i < 2) (hk : LkOk (L.e i)) (ho : (L.e i).out.length ≤ 80000) (hn : (L.e i).inn.length ≤ 80000) :
    ∃ ai x, w.cell? ⟨nb, i, none⟩ = some (.pointer (some ⟨ai, 0, none⟩)) ∧ (∃ o n m, x = .slice o n m) ∧ w.heap[g0]? = some (.cells (c.agg x) 24 (0, 0)) ∧
      ∀ W, Below w.heap.size w W → Calls Try.prog 9 #[.pointer (some ⟨ai, 0, none⟩), .agg #[.int .i64 c.kind, .int .i64 c.ns, .int .i64 c.nr, .bool c.p, .int .i64 c.me, .int .i64 c.peer, x]] W fun e w' =>
        e = .returned (.int .i64 c.chk) ∧ (Held B w' nb g0 g1 K st c { L with e := upd L.e i ((L.e i).recv c) } ∧ Below B w w') ∧ ∀ j v, (w.cell? ⟨nb, j, none⟩ = some v → w'.cell? ⟨nb, j, none⟩ = some v) ∧ (w.cell? ⟨g0, j, none⟩ = some v → w'.cell? ⟨g0, j, none⟩ = some v) := by
  obtain ⟨col, cl, a, s, r, ov, iv, wv, uv, x, hL, hbx, hc0, hcj, hx, hk1, hl1, hc1, hj1⟩ := h.ex
  refine ⟨a i, x, ?_, ?_, hbx, fun W hb => ?_⟩
  · rcases (show i = 0 ∨ i = 1 by omega) with rfl | rfl
    · exact hL.cell 0 rfl
    · exact hL.cell 1 rfl
  · obtain ⟨⟨⟨_, ao, cap, e, _⟩, _⟩, _⟩ := hx
    exact ⟨_, _, _, e⟩
  · refine (lrecv_any B _ W _ _ _ _ _ _ ((hL.lk i hi).skip (n := 0) hb) hk.me hk.s hk.r c x (Pl.of_free hx hi hb) ho hn).mono ?_
    rintro e w' ⟨rfl, h2⟩
    have h3 := lk_at (hL.lk i hi) hb h2
    obtain ⟨⟨col', ov', iv', h4, h5⟩, h6⟩ := hL.acts hi h3
    have hnb : col i nb = 0 := hL.apart i nb hi (by rw [hL.own]; omega)
    have hg := hcj i hi
    refine ⟨rfl, ⟨⟨_, _, _, _, _, _, _, _, _, x, h4, h3.fr.get hbx (by omega), hc0, fun j hj => ?_, ?_, h3.fr.cell hk1 (by have := hj1 i hi; omega), Nat.lt_of_lt_of_le hl1 h3.fr.size, hc1, fun j hj => ?_⟩, h6⟩, fun j v => ⟨fun hv => h3.fr.cell hv (by omega), fun hv => h3.fr.cell hv (by omega)⟩⟩
    · apply Classical.byContradiction
      intro hne
      have := h5 j g0 hj (lt_of_get hbx) hne
      rw [hcj j hj] at this
      exact hne this
    · refine (hx.fr h3.fr fun k hk g => hk.2.2 i hi g).mono fun k hk => ⟨Nat.lt_of_lt_of_le hk.1 h3.fr.size, hk.2.1, fun j hj g => ?_⟩
      have := h5 j k hj hk.1 (by omega)
      exact hk.2.2 j hj (by omega)
    · apply Classical.byContradiction
      intro hne
      have := h5 j g1 hj hl1 hne
      rw [hj1 j hj] at this
      exact hne this

def recvs (c : Cn) : Nat → Lk → Lk
  | 0, t => t
  | n + 1, t => (recvs c n t).recv c
def Ln.come (L : Ln) (i : Nat) (c : Cn) (l : List Cn) (k : Nat) : Ln := { L with e := upd L.e i (recvs c k (L.e i)), way := upd L.way i l }
theorem come_zero (L : Ln) (i : Nat) (c : Cn) (l : List Cn) : L.come i c l 0 = { L with way := upd L.way i l } := by
  unfold Ln.come recvs
  rw [upd_self]
theorem come_succ (L : Ln) (i : Nat) (c : Cn) (l : List Cn) (k : Nat) : { L.come i c l k with e := upd (L.come i c l k).e i (((L.come i c l k).e i).recv c) } = L.come i c l (k + 1) := by
  unfold Ln.come
  simp only [upd_upd, upd_same]
  rfl
theorem Good.come {n : Nat} {L : Ln} (h : Good n L) (hn : n ≤ 300) {i : Nat} (hi : i < 2) {c : Cn} {l : List Cn} (hw : L.way i = c :: l) (k : Nat) (hk : k ≤ 2) : Mid n (L.come i c l k) := by
  rcases (show k = 0 ∨ k = 1 ∨ k = 2 by omega) with rfl | rfl | rfl
  · rw [come_zero]; exact h.lost hi hw
  · exact h.once hn hi hw
  · exact h.twice hn hi hw
theorem Good.comeOk {n : Nat} {L : Ln} (h : Good n L) {i : Nat} (hi : i < 2) (c : Cn) (l : List Cn) (k : Nat) (hk : k ≤ 1) : LkOk ((L.come i c l k).e i) ∧ ((L.come i c l k).e i).out.length ≤ 80000 ∧ ((L.come i c l k).e i).inn.length ≤ 80000 := by
  have h2 := h.out i hi
  have h4 := h.in_ i hi
  have h5 : (L.e i).inn.length = 0 := congrArg List.length h4
  have e : (L.come i c l k).e i = recvs c k (L.e i) := by
    unfold Ln.come
    exact upd_same _ _ _
  rw [e]
  rcases (show k = 0 ∨ k = 1 by omega) with rfl | rfl
  · exact ⟨h.ok i hi, by show (L.e i).out.length ≤ _; omega, by show (L.e i).inn.length ≤ _; omega⟩
  · have hg := recv_grow (L.e i) c (h.ok i hi)
    exact ⟨hg.1, by show ((L.e i).recv c).out.length ≤ _; omega, by show ((L.e i).recv c).inn.length ≤ _; omega⟩

end Go.Proofs.Ythmdibagcbbgoaa
