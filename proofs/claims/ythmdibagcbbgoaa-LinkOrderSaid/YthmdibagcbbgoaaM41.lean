/- The line's rows grow: what was sent is on its way; what came in is kept. Conditions: as they stand. -/
import Derived.Test.YthmdibagcbbgoaaM40
namespace Go.Proofs.Ythmdibagcbbgoaa
open Go.RowKit

theorem LkP.outTo {B : Nat} {col : Nat → Nat} {w : World} {a sg rg : Nat} {ov iv : Value} {t : Lk} (h : LkP B col w a sg rg ov iv t) : LkTo B col w a sg rg { t with out := [] } (w.setCell ⟨a, 13, none⟩ (.slice none 0 0)) :=
  ⟨⟨_, _, _, h.outed, fun k _ hk => by
    unfold freed at hk ⊢
    split at hk
    · exact absurd rfl hk
    · rw [if_neg ‹_›]⟩, (fr_cell w a 13 _).mono fun k hk => .inl (by subst hk; rw [h.own]; omega)⟩
theorem LkP.inTo {B : Nat} {col : Nat → Nat} {w : World} {a sg rg : Nat} {ov iv : Value} {t : Lk} (h : LkP B col w a sg rg ov iv t) : LkTo B col w a sg rg { t with inn := [] } (w.setCell ⟨a, 14, none⟩ (.slice none 0 0)) :=
  ⟨⟨_, _, _, h.inned, fun k _ hk => by
    unfold freed at hk ⊢
    split at hk
    · exact absurd rfl hk
    · rw [if_neg ‹_›]⟩, (fr_cell w a 14 _).mono fun k hk => .inl (by subst hk; rw [h.own]; omega)⟩
theorem line_set_way (a : Nat → Nat) (st : Nat → St) (wv uv : Nat → Value) (n : Nat → Nat) (ok : Bool) (j : Nat) (hj : j < 2) (v : Value) : (lineCells a st wv uv n ok).setIfInBounds (10 + j) v = lineCells a st (upd wv j v) uv n ok := by
  rcases (show j = 0 ∨ j = 1 by omega) with rfl | rfl <;> rfl
theorem line_set_inn (a : Nat → Nat) (st : Nat → St) (wv uv : Nat → Value) (n : Nat → Nat) (ok : Bool) (j : Nat) (hj : j < 2) (v : Value) : (lineCells a st wv uv n ok).setIfInBounds (14 + j) v = lineCells a st wv (upd uv j v) n ok := by
  rcases (show j = 0 ∨ j = 1 by omega) with rfl | rfl <;> rfl
section
variable {B : Nat} {col : Nat → Nat → Nat} {cl : Nat → Nat} {w : World} {nb : Nat} {a s r : Nat → Nat} {ov iv wv uv : Nat → Value} {st : Nat → St} {ok : Bool} {L : Ln} {i j : Nat}
/-- What append leaves, and the store behind it. -/
structure Stored (B : Nat) (w : World) (nb c : Nat) (row : Array Value) (st : Nat → St) (ok : Bool) (L : Ln) (v : Value) (w2 : World) : Prop where
  hb : w2.heap[nb]? = some (.cells row 60 (0, 0))
  form : ∃ o n c, v = .slice o n c
  done : LineAt B (w2.setCell ⟨nb, c, none⟩ v) nb st ok L
  bl : Below B w (w2.setCell ⟨nb, c, none⟩ v)
theorem LineP.ways {P : Program} (h : LineP B col cl w nb a s r ov iv wv uv st ok L) (hi : i < 2) (hj : j < 2) (hm : (L.way j).length + (L.e i).out.length ≤ 1000000)
    (t ty : TypeId) (inf : TypeInfo) (z : Value) (ht : P.underlying t = some (.slice 24)) (hinf : P.info? 24 = some inf) (hz : inf.zero = some z) (hzs : z.cells.size = 7) (hs7 : inf.size = 7) (hby : inf.bytes ≤ 100) :
    ∃ v' w2, (Builtin.append_ #[t, t] ty #[wv j, ov i]).run P (w.setCell ⟨a i, 13, none⟩ (.slice none 0 0)) = .ok v' w2 ∧
      Stored B w nb (10 + j) (lineCells a st wv uv L.n ok) st ok { L with e := upd L.e i { L.e i with out := [] }, way := upd L.way j (L.way j ++ (L.e i).out) } v' w2 := by
  have hA := h.lk i hi
  obtain ⟨⟨col', ov', iv', h1, hcc⟩, hb1⟩ := h.acts hi hA.outTo
  obtain ⟨W1, hW1⟩ : ∃ W1, w.setCell ⟨a i, 13, none⟩ (.slice none 0 0) = W1 := ⟨_, rfl⟩
  have hf1 : Fr (fun k => k = a i) w W1 := hW1 ▸ fr_cell w (a i) 13 _
  rw [hW1] at h1 hb1 ⊢
  obtain ⟨cs, u1, u2, u3⟩ := hA.out
  have hai : cl (a i) = 0 := by
    apply Classical.byContradiction
    intro hne
    have := h.apart i (a i) hi hne
    rw [hA.own] at this
    omega
  have U1 : W1.ownsRow B 24 7 (ov i) (L.e i).out.length cs := own_fr8 u1 hf1 fun k hk e => by
    have e2 := u2 k hk
    rw [e, hA.own] at e2
    omega
  obtain ⟨ds, g1, g2, g3⟩ := h1.way j hj
  have gl : ds.length = (L.way j).length * 7 := g1.1
  have hone : ∀ x ∈ cs, x.oneCell' = true := by
    intro x hx
    obtain ⟨q, hq⟩ := List.mem_iff_getElem?.1 hx
    have hql := (List.getElem?_eq_some_iff.1 hq).1
    rw [u1.1] at hql
    obtain ⟨c, hc⟩ := get_some (xs := (L.e i).out) (k := q / 7) (by omega)
    obtain ⟨y, y1, y2⟩ := u3 _ c hc
    obtain ⟨yo, yc, rfl⟩ : ∃ yo yc, y = .slice yo c.data.length yc := by
      obtain ⟨⟨⟨_, ao, cap, e, _⟩, _⟩, _⟩ := y2
      exact ⟨ao, cap, e⟩
    have hsz : (c.agg (.slice yo c.data.length yc)).size = 7 := rfl
    have hget : (c.agg (.slice yo c.data.length yc))[q % 7]? = some ((c.agg (.slice yo c.data.length yc))[q % 7]'(by omega)) := Array.getElem?_eq_getElem _
    have h9 := y1 (q % 7) _ hget
    rw [show q / 7 * 7 + q % 7 = q by omega, hq] at h9
    have hmem : x ∈ (c.agg (.slice yo c.data.length yc)).toList := by
      rw [Option.some.inj h9]
      exact Array.getElem_mem_toList _
    simp [Cn.agg] at hmem
    rcases hmem with rfl | rfl | rfl | rfl | rfl | rfl | rfl <;> rfl
  have hmul : ((L.way j).length + (L.e i).out.length) * inf.bytes ≤ 1000000 * 100 := Nat.mul_le_mul hm hby
  obtain ⟨v', w2, hrun, hR, hG, hN⟩ := run_append_from (P := P) W1 B B t ty 24 inf z 7 inf.bytes ht hinf hz hs7 rfl hzs (by omega) (wv j) (L.way j).length ds g1 (ov i) (L.e i).out.length cs U1 hone (by unfold maxLen; omega) (by omega) h1.cols.1
  refine ⟨v', w2, hrun, ?_⟩
  have hF2 : Fr (fun k => cl k = 2 + j) W1 w2 := (Fr.refl _ W1).grown hG fun k hk => .inl (g2 k hk)
  have hb2 : w2.heap[nb]? = some (.cells (lineCells a st wv uv L.n ok) 60 (0, 0)) := hF2.get h1.hb (fun e => by have := h.own; omega)
  have hf3 := fr_cell w2 nb (10 + j) v'
  have hF3 : Fr (fun k => cl k = 2 + j ∨ k = nb) W1 (w2.setCell ⟨nb, 10 + j, none⟩ v') := (hF2.mono fun k hk => .inl (.inl hk)).trans hf3 fun k hk => .inl (.inr hk)
  have hsz3 := hf3.size
  have hcl3 : Cols B (paint cl W1 w2 (2 + j)) (w2.setCell ⟨nb, 10 + j, none⟩ v') := (h1.cols.paint hF2.size).grow hsz3
  have hnb1 : nb < W1.heap.size := lt_of_get h1.hb
  have hold : ∀ k, k < W1.heap.size → paint cl W1 w2 (2 + j) k = cl k := fun k hk => paint_old hk
  have hD : ∀ k, Free col' cl W1 k → ¬ (cl k = 2 + j ∨ k = nb) ∧ Free col' (paint cl W1 w2 (2 + j)) (w2.setCell ⟨nb, 10 + j, none⟩ v') k := fun k hk => ⟨fun e => by
    rcases e with e | e
    · have := hk.2.1; omega
    · have := hk.2.1; rw [e, h.own] at this; omega, ⟨Nat.lt_of_lt_of_le hk.1 hF3.size, by rw [hold k hk.1]; exact hk.2.1, hk.2.2⟩⟩
  refine ⟨hb2, (by obtain ⟨p, q, e, _⟩ := hR.form; exact ⟨p, _, q, e⟩), ⟨⟨col', paint cl W1 w2 (2 + j), a, s, r, ov', iv', upd wv j v', uv, ?_⟩⟩, ?_⟩
  · refine h1.own_ (L' := { L with e := upd L.e i { L.e i with out := [] }, way := upd L.way j (L.way j ++ (L.e i).out) }) hF3 (fun k hk => ?_) hcl3 hold rfl ?_ (fun q hq => ?_) (fun q hq => ?_)
    · rcases hk with hk | hk
      · omega
      · rw [hk, h.own]; omega
    · show _ = some (Obj.cells (lineCells a st (upd wv j v') uv L.n ok) 60 (0, 0))
      rw [← line_set_way a st wv uv L.n ok j hj v']
      exact rc_set w2 nb (10 + j) _ _ v' hb2
    · by_cases e : q = j
      · subst e
        simp only [upd_same]
        refine ⟨ds ++ cs, ?_, fun k hk => ?_, fun x c hc => ?_⟩
        · rw [List.length_append]
          exact hR.fr hf3 fun k hk e => by
            rcases hN k hk with h9 | h9
            · have := g2 k h9
              rw [e, h.own] at this
              omega
            · omega
        · rcases hN k hk with h9 | h9
          · rw [hold k (h1.cols.2 k (by rw [g2 k h9]; omega)).2]; exact g2 k h9
          · exact paint_new h9.1 h9.2
        · by_cases hx : x < (L.way q).length
          · rw [List.getElem?_append_left hx] at hc
            obtain ⟨y, y1, y2⟩ := g3 x c hc
            refine ⟨y, fun m u hu => ?_, (y2.fr hF3 fun k hk => (hD k hk).1).mono fun k hk => (hD k hk).2⟩
            have hm7 : m < 7 := (Array.getElem?_eq_some_iff.1 hu).1
            rw [List.getElem?_append_left (by rw [gl]; omega)]
            exact y1 m u hu
          · rw [List.getElem?_append_right (by omega)] at hc
            obtain ⟨y, y1, y2⟩ := u3 _ c hc
            have y3 : Byt (Free col' cl W1) W1 y c.data := (y2.fr hf1 fun k hk e => by rw [e, hA.own] at hk; omega).mono fun k hk => by
              have hkl := (hA.cols.2 k (by omega)).2
              have hk0 : cl k = 0 := by
                apply Classical.byContradiction
                intro hne
                have := h.apart i k hi hne
                omega
              refine ⟨Nat.lt_of_lt_of_le hkl hf1.size, hk0, fun q2 hq2 => ?_⟩
              intro h9
              have h8 := hcc q2 k hq2 hkl (by omega)
              by_cases e9 : q2 = i
              · subst e9; omega
              · have := h.dis i q2 k hi hq2 (Ne.symm e9) (by omega)
                omega
            refine ⟨y, fun m u hu => ?_, (y3.fr hF3 fun k hk => (hD k hk).1).mono fun k hk => (hD k hk).2⟩
            have hm7 : m < 7 := (Array.getElem?_eq_some_iff.1 hu).1
            rw [List.getElem?_append_right (by rw [gl]; omega), gl, show x * 7 + m - (L.way q).length * 7 = (x - (L.way q).length) * 7 + m by omega]
            exact y1 m u hu
      · simp only [upd_ne e]
        exact (h1.way q hq).fr hF3 (fun k hk => ⟨fun e2 => by
          rcases e2 with e2 | e2
          · omega
          · rw [e2, h.own] at hk; omega, by rw [hold k (h1.cols.2 k (by omega)).2]; exact hk⟩) hD
    · exact h1.innK hF3 hold hq fun k hk => by
        rcases hk with hk | hk
        · omega
        · rw [hk, h.own]; omega
  · refine hb1.trans (fr_bl hF3 (fun k hk => ?_) h1.cols.1)
    rcases hk with hk | hk
    · exact (h1.cols.2 k (by omega)).1
    · exact (h1.cols.2 k (by rw [hk, h.own]; omega)).1
/-- A number is kept. -/
structure Kept (B : Nat) (col : Nat → Nat → Nat) (cl : Nat → Nat) (w : World) (nb c : Nat) (row : Array Value) (a s r : Nat → Nat) (ov iv wv : Nat → Value) (st : Nat → St) (ok : Bool) (L : Ln) (v : Value) (w2 : World) : Prop where
  hb : w2.heap[nb]? = some (.cells row 60 (0, 0))
  form : ∃ o n c, v = .slice o n c
  done : ∃ cl' uv, LineP B col cl' (w2.setCell ⟨nb, c, none⟩ v) nb a s r ov iv wv uv st ok L ∧ ∀ k, k < w.heap.size → cl' k = cl k
  fr : Fr (fun k => cl k ≠ 0) w (w2.setCell ⟨nb, c, none⟩ v)
theorem LineP.inns {P : Program} (h : LineP B col cl w nb a s r ov iv wv uv st ok L) (hj : j < 2) (hm : (L.inn j).length ≤ 1000000) (u : Value) (x : Nat) (hr : Reads (Value.int .i64) w u [(x : Int)])
    (t ty : TypeId) (inf : TypeInfo) (z : Value) (ht : P.underlying t = some (.slice 3)) (hinf : P.info? 3 = some inf) (hz : inf.zero = some z) (hzs : z.cells.size = 1) (hs7 : inf.size = 1) (hby : inf.bytes = 8) :
    ∃ v' w2, (Builtin.append_ #[t, t] ty #[uv j, u]).run P w = .ok v' w2 ∧
      Kept B col cl w nb (14 + j) (lineCells a st wv uv L.n ok) a s r ov iv wv st ok { L with inn := upd L.inn j (L.inn j ++ [x]) } v' w2 := by
  obtain ⟨h1, h2⟩ := h.inn j hj
  obtain ⟨v', w2, hrun, hO, hG, hN⟩ := run_append_r (P := P) w B t ty 3 inf z 8 ht hinf hz hs7 hby hzs (uv j) (L.inn j).length (ints (L.inn j)) h1 (Value.int .i64) u [(x : Int)] hr (by intro y hy; simp at hy; subst hy; rfl) (by unfold maxLen; simp; omega) (by simp; omega) h.cols.1
  refine ⟨v', w2, hrun, ?_⟩
  have hF2 : Fr (fun k => cl k = 4 + j) w w2 := (Fr.refl _ w).grown hG fun k hk => .inl (h2 k hk)
  have hb2 : w2.heap[nb]? = some (.cells (lineCells a st wv uv L.n ok) 60 (0, 0)) := hF2.get h.hb (fun e => by have := h.own; omega)
  have hf3 := fr_cell w2 nb (14 + j) v'
  have hF3 : Fr (fun k => cl k = 4 + j ∨ k = nb) w (w2.setCell ⟨nb, 14 + j, none⟩ v') := (hF2.mono fun k hk => .inl (.inl hk)).trans hf3 fun k hk => .inl (.inr hk)
  have hcl3 : Cols B (paint cl w w2 (4 + j)) (w2.setCell ⟨nb, 14 + j, none⟩ v') := (h.cols.paint hF2.size).grow hf3.size
  have hold : ∀ k, k < w.heap.size → paint cl w w2 (4 + j) k = cl k := fun k hk => paint_old hk
  have hG0 : ∀ k, (cl k = 4 + j ∨ k = nb) → cl k ≠ 0 := fun k hk => by
    rcases hk with hk | hk
    · omega
    · rw [hk, h.own]; omega
  have hints : (L.inn j ++ [x]).length = (L.inn j).length + [(x : Int)].length := by simp
  refine ⟨hb2, ?_, ⟨paint cl w w2 (4 + j), upd uv j v', ?_, hold⟩, hF3.mono fun k hk => .inl (hG0 k hk)⟩
  · obtain ⟨p, q, e⟩ := rc_form hO
    exact ⟨p, _, q, e⟩
  · refine h.own_ (L' := { L with inn := upd L.inn j (L.inn j ++ [x]) }) hF3 hG0 hcl3 hold rfl ?_ (fun q hq => ?_) (fun q hq => ?_)
    · show _ = some (Obj.cells (lineCells a st wv (upd uv j v') L.n ok) 60 (0, 0))
      rw [← line_set_inn a st wv uv L.n ok j hj v']
      exact rc_set w2 nb (14 + j) _ _ v' hb2
    · exact h.wayK hF3 hold hq fun k hk => ⟨hG0 k hk, by
        rcases hk with hk | hk
        · omega
        · rw [hk, h.own]; omega⟩
    · by_cases e : q = j
      · subst e
        simp only [upd_same]
        have hO2 : w2.ownsRow B 3 1 v' (L.inn q ++ [x]).length (ints (L.inn q ++ [x])) := by
          rw [hints]
          have : ints (L.inn q ++ [x]) = ints (L.inn q) ++ [(x : Int)].map (Value.int .i64) := by simp [ints]
          rw [this]
          exact hO
        have hblk : ∀ k, v'.ownBlock = some k → paint cl w w2 (4 + q) k = 4 + q := fun k hk => by
          by_cases hkl : k < w.heap.size
          · have h5 : (uv q).ownBlock = some k := by
              apply Classical.byContradiction
              intro hc
              exact hN k hkl (fun e => hc e.symm) hk.symm
            rw [hold k hkl]
            exact h2 k h5
          · exact paint_new (by omega) (hO2.lt k hk).2
        refine ⟨own_fr8 hO2 hf3 fun k hk e => ?_, hblk⟩
        have h6 := hblk k hk
        rw [e, hold nb (lt_of_get h.hb), h.own] at h6
        omega
      · simp only [upd_ne e]
        exact h.innK hF3 hold hq fun k hk => by
          rcases hk with hk | hk
          · omega
          · rw [hk, h.own]; omega
/-- What came in: a row that nobody turns any more. -/
structure Came9 (B : Nat) (cl : Nat → Nat) (w : World) (v : Value) (E : List Nat) : Prop where
  ex : ∃ vs : List Value, vs.length = E.length ∧ w.ownsRow B 22 1 v E.length vs ∧ (∀ k, v.ownBlock = some k → cl k = 0) ∧ ∀ (i : Nat) (x : Value) (y : Nat), vs[i]? = some x → E[i]? = some y → Byt (fun k => cl k = 0) w x (enc y)
theorem Came9.fr {w' : World} {v : Value} {E : List Nat} (h : Came9 B cl w v E) (hf : Fr (fun k => cl k ≠ 0) w w') : Came9 B cl w' v E := by
  obtain ⟨vs, h1, h2, h3, h4⟩ := h
  exact ⟨vs, h1, own_fr8 h2 hf (fun k hk g => g (h3 k hk)), h3, fun i x y hx hy => (h4 i x y hx hy).fr hf fun k hk g => g hk⟩
theorem Came9.form {v : Value} {E : List Nat} (h : Came9 B cl w v E) : ∃ o c, v = .slice o E.length c := by
  obtain ⟨vs, h1, h2, _⟩ := h
  obtain ⟨o, c, e⟩ := rc_form h2
  exact ⟨o, c, e⟩
theorem Came9.at_ {o : Option Addr} {c : Nat} {E : List Nat} (h : Came9 B cl w (.slice o E.length c) E) {k y : Nat} (hy : E[k]? = some y) : ∃ g b q d, o = some ⟨g, 0, none⟩ ∧ w.cell? ⟨g, k, none⟩ = some (.slice (some ⟨b, q, none⟩) 2 d) ∧ w.cell? ⟨b, q, none⟩ = some (.int .u8 ((y / 256 % 256 : Nat) : Int)) ∧ w.cell? ⟨b, q + 1, none⟩ = some (.int .u8 ((y % 256 : Nat) : Int)) := by
  obtain ⟨vs, h1, h2, h3, h4⟩ := h
  have hk := (List.getElem?_eq_some_iff.1 hy).1
  obtain ⟨x, hx⟩ := get_some (xs := vs) (k := k) (by omega)
  obtain ⟨g, rfl⟩ : ∃ g, o = some ⟨g, 0, none⟩ := by
    rcases h2.2 with ⟨e, h0⟩ | ⟨g, c', cur, e, _⟩
    · omega
    · simp only [Value.slice.injEq] at e; exact ⟨g, e.1⟩
  have hc := h2.cells (g := g) rfl k x hx
  rw [Addr.add_lit, Nat.zero_add] at hc
  obtain ⟨⟨⟨_, ao, cap, rfl, _, hcells⟩, _⟩, _⟩ := h4 k x y hx hy
  obtain ⟨b, q, e1, c1⟩ := hcells 0 _ rfl
  obtain ⟨b', q', e2, c2⟩ := hcells 1 _ rfl
  rw [e1] at e2
  cases e2
  exact ⟨g, b, q, cap, rfl, by rw [hc, e1]; rfl, c1, c2⟩
theorem LineP.tookIn (h : LineP B col cl w nb a s r ov iv wv uv st ok L) (hi : i < 2) {E : List Nat} (hE : (L.e i).inn = E.map enc) :
    (∃ col' ov' iv', LineP B col' cl (w.setCell ⟨a i, 14, none⟩ (.slice none 0 0)) nb a s r ov' iv' wv uv st ok { L with e := upd L.e i { L.e i with inn := [] } }) ∧ Came9 B cl (w.setCell ⟨a i, 14, none⟩ (.slice none 0 0)) (iv i) E ∧ Below B w (w.setCell ⟨a i, 14, none⟩ (.slice none 0 0)) := by
  have hA := h.lk i hi
  obtain ⟨h1, h2⟩ := h.act hi hA.inTo
  refine ⟨h1, ?_, h2⟩
  obtain ⟨vs, v1, v2, v3, v4⟩ := hA.inn
  rw [hE, List.length_map] at v1
  rw [v1] at v2
  have hf := fr_cell w (a i) 14 (.slice none 0 0)
  have hcl : ∀ k, col i k ≠ 0 → cl k = 0 := fun k hk => by
    apply Classical.byContradiction
    intro hne
    exact hk (h.apart i k hi hne)
  refine ⟨vs, v1, own_fr8 v2 hf fun k hk e => ?_, fun k hk => hcl k (by rw [v3 k hk]; omega), fun j x y hx hy => ((v4 j x (enc y) hx (by rw [hE, List.getElem?_map, hy]; rfl)).fr hf fun k hk e => ?_).mono fun k hk => hcl k (by omega)⟩
  · have := v3 k hk
    rw [e, hA.own] at this
    omega
  · rw [e, hA.own] at hk
    omega
end

end Go.Proofs.Ythmdibagcbbgoaa
