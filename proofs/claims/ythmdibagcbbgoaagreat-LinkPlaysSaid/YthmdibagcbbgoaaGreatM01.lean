/- The frame of a call that may write into blocks of a footprint; slices that read as lists inside a footprint. No program in sight. append(s[:len:len], ...): always a new row, whatever s reads as; and append(own, one) told by what the row is. No program in sight. Laws of append and clear at a step of a region that draws its order, and in a plain region. No program in sight. A region that draws its order, walked in one order that the prover names: what yields one value in every world that meets S is taken where it stands; what writes is carried out where it alone may come up; S must stand behind each but the last. No program in sight. Conditions: as they stand. -/
import Derived.Test.YthmdibagcbbgoaaGreatM00
import Derived.Laws.AppendOwn
import Derived.RegionTactic
import Derived.Laws.CopyRow
import Derived.StillTail
import Derived.OrdersHeld
namespace Go.Proofs.YthmdibagcbbgoaaGreat
open Go.RowKit

/-- Of what was there in w nothing but the blocks in F may have turned. -/
structure Fr (F : Nat → Prop) (w w' : World) : Prop where
  os : w'.os = w.os
  tape : w'.tape = w.tape
  output : w'.output = w.output
  size : w.heap.size ≤ w'.heap.size
  block : ∀ k, k < w.heap.size → ¬ F k → w'.heap[k]? = w.heap[k]?

theorem Fr.refl (F : Nat → Prop) (w : World) : Fr F w w := ⟨rfl, rfl, rfl, Nat.le_refl _, fun _ _ _ => rfl⟩
/-- One step behind the other: what the second one may turn is in the first one's footprint, or was made by then. -/
theorem Fr.trans {F G : Nat → Prop} {a b c : World} (h : Fr F a b) (k : Fr G b c) (hG : ∀ i, G i → F i ∨ a.heap.size ≤ i) : Fr F a c :=
  ⟨k.os.trans h.os, k.tape.trans h.tape, k.output.trans h.output, Nat.le_trans h.size k.size, fun i hi hn => (k.block i (Nat.lt_of_lt_of_le hi h.size) (fun hg => by rcases hG i hg with h1 | h1; exact hn h1; omega)).trans (h.block i hi hn)⟩
theorem Fr.mono {F G : Nat → Prop} {a b : World} (h : Fr F a b) (hG : ∀ i, F i → G i ∨ a.heap.size ≤ i) : Fr G a b :=
  ⟨h.os, h.tape, h.output, h.size, fun i hi hn => h.block i hi (fun hf => by rcases hG i hf with h1 | h1; exact hn h1; omega)⟩
theorem Fr.of_below {F : Nat → Prop} {a b : World} (h : Below a.heap.size a b) : Fr F a b := ⟨h.os, h.tape, h.output, h.size, fun k hk _ => h.block k hk⟩
theorem Fr.then_below {F : Nat → Prop} {a b c : World} (h : Fr F a b) (k : Below b.heap.size b c) : Fr F a c := h.trans (G := fun _ => False) (.of_below k) (fun _ h => h.elim)
theorem Fr.of_frm {ex : List Nat} {a b : World} (h : Frm ex a b) : Fr (· ∈ ex) a b := ⟨h.os, h.tape, h.output, h.size, h.block⟩
theorem Fr.below {F : Nat → Prop} {a b : World} (h : Fr F a b) (hs : ∀ k, F k → a.heap.size ≤ k) : Below a.heap.size a b :=
  ⟨h.os, h.tape, h.output, h.size, fun k hk => h.block k hk fun hm => by have := hs k hm; omega⟩
theorem bl_fr {F : Nat → Prop} {w a b : World} (h : Below w.heap.size w a) (k : Fr F a b) (hs : ∀ i, F i → w.heap.size ≤ i) : Below w.heap.size w b :=
  h.trans ⟨k.os, k.tape, k.output, k.size, fun i hi => k.block i (Nat.lt_of_lt_of_le hi h.size) fun hm => by have := hs i hm; omega⟩
theorem Fr.get {F : Nat → Prop} {a b : World} (h : Fr F a b) {k : Nat} {o : Obj} (hk : a.heap[k]? = some o) (hn : ¬ F k) : b.heap[k]? = some o := (h.block k (lt_of_get hk) hn).trans hk
theorem Fr.cell {F : Nat → Prop} {a b : World} (h : Fr F a b) {k o : Nat} {v : Value} (hk : a.cell? ⟨k, o, none⟩ = some v) (hn : ¬ F k) : b.cell? ⟨k, o, none⟩ = some v :=
  (World.cell?_of_block (a := ⟨k, o, none⟩) (h.block k (cell_lt hk) hn)).trans hk
theorem Fr.alloc {F : Nat → Prop} {a b : World} (h : Fr F a b) (o : Obj) : Fr F a (b.alloc o) := h.then_below (bl_alloc (bl_refl _) o)
theorem Fr.drew {F : Nat → Prop} {a b : World} (h : Fr F a b) : Fr F a b.drew := ⟨h.os, h.tape, h.output, h.size, h.block⟩
theorem Fr.setCell {F : Nat → Prop} {a b : World} (h : Fr F a b) {p : Addr} (hp : F p.block ∨ a.heap.size ≤ p.block) (v : Value) : Fr F a (b.setCell p v) :=
  ⟨h.os, h.tape, h.output, Nat.le_trans h.size (by simp [World.setCell]), fun k hk hn => (Below.heap_setCell _ _ _ _ (fun e => by subst e; rcases hp with hp | hp; exact hn hp; omega)).trans (h.block k hk hn)⟩
theorem Fr.setRow {F : Nat → Prop} {a b : World} (h : Fr F a b) {g : Nat} (hp : F g ∨ a.heap.size ≤ g) (cs : Array Value) : Fr F a (b.setRow g cs) :=
  ⟨h.os, h.tape, h.output, Nat.le_trans h.size (by simp), fun k hk hn => (setRow_other b g k cs (fun e => by subst e; rcases hp with hp | hp; exact hn hp; omega)).trans (h.block k hk hn)⟩
theorem Fr.grown {F : Nat → Prop} {a b c : World} {row : Option Nat} (h : Fr F a b) (hg : b.grownBy c row) (hr : ∀ k, row = some k → F k ∨ a.heap.size ≤ k) : Fr F a c :=
  ⟨hg.os.trans h.os, hg.tape.trans h.tape, hg.output.trans h.output, Nat.le_trans h.size hg.size, fun k hk hn =>
    (hg.block k (Nat.lt_of_lt_of_le hk h.size) (fun e => by rcases hr k e.symm with h | h; exact hn h; omega)).trans (h.block k hk hn)⟩

theorem fr_cell (w : World) (g i : Nat) (v : Value) : Fr (fun j => j = g) w (w.setCell ⟨g, i, none⟩ v) := (Fr.refl (fun j => j = g) _).setCell (p := ⟨g, i, none⟩) (.inl rfl) _
theorem fr_row (w : World) (g : Nat) (cs : Array Value) : Fr (fun j => j = g) w (w.setRow g cs) := (Fr.refl (fun j => j = g) _).setRow (.inl rfl) _

/-- The slice v reads as xs, and its block lies in F. -/
def Rd {α : Type} (F : Nat → Prop) (f : α → Value) (w : World) (v : Value) (xs : List α) : Prop := Reads f w v xs ∧ ∀ k, v.ownBlock = some k → F k
theorem Rd.fr {α : Type} {F G : Nat → Prop} {f : α → Value} {w w' : World} {v : Value} {xs : List α} (h : Rd F f w v xs) (hf : Fr G w w') (hd : ∀ k, F k → ¬ G k) : Rd F f w' v xs := by
  refine ⟨?_, h.2⟩
  obtain ⟨⟨hm, ao, cap, rfl, hnil, hc⟩, hF⟩ := h
  refine ⟨hm, ao, cap, rfl, hnil, fun i x hx => ?_⟩
  obtain ⟨k, o, rfl, hcell⟩ := hc i x hx
  exact ⟨k, o, rfl, hf.cell hcell (hd k (hF k rfl))⟩
theorem Rd.mono {α : Type} {F G : Nat → Prop} {f : α → Value} {w : World} {v : Value} {xs : List α} (h : Rd F f w v xs) (hs : ∀ k, F k → G k) : Rd G f w v xs := ⟨h.1, fun k hk => hs k (h.2 k hk)⟩
theorem Rd.below {α : Type} {F : Nat → Prop} {f : α → Value} {w w' : World} {v : Value} {xs : List α} (h : Rd F f w v xs) (hb : Below w.heap.size w w') : Rd F f w' v xs := ⟨h.1.below hb, h.2⟩
theorem Rd.of_owns {α : Type} {f : α → Value} {w : World} {base : Nat} {e : TypeId} {v : Value} {xs : List α} (h : w.ownsRow base e 1 v xs.length (xs.map f)) (hm : xs.length ≤ maxLen) : Rd (fun k => base ≤ k ∧ k < w.heap.size) f w v xs :=
  ⟨Reads.of_owns h hm, fun k hk => h.lt k hk⟩

/-- Bytes in a footprint. -/
def Byt (F : Nat → Prop) (w : World) (v : Value) (p : List Int) : Prop := Rd F (Value.int .u8) w v p ∧ ∀ n ∈ p, (Lit.int .u8 n).wf = true
theorem Byt.fr {F G : Nat → Prop} {w w' : World} {v : Value} {p : List Int} (h : Byt F w v p) (hf : Fr G w w') (hd : ∀ k, F k → ¬ G k) : Byt F w' v p := ⟨h.1.fr hf hd, h.2⟩
theorem Byt.mono {F G : Nat → Prop} {w : World} {v : Value} {p : List Int} (h : Byt F w v p) (hs : ∀ k, F k → G k) : Byt G w v p := ⟨h.1.mono hs, h.2⟩
theorem Byt.below {F : Nat → Prop} {w w' : World} {v : Value} {p : List Int} (h : Byt F w v p) (hb : Below w.heap.size w w') : Byt F w' v p := ⟨h.1.below hb, h.2⟩

/-- A slice of slices of bytes in a footprint reads as a list of lists. -/
def Pays (F : Nat → Prop) (w : World) (v : Value) (ps : List (List Int)) : Prop :=
  ∃ vs : List Value, vs.length = ps.length ∧ Rd F id w v vs ∧ ∀ (i : Nat) (x : Value) (p : List Int), vs[i]? = some x → ps[i]? = some p → Byt F w x p
theorem Pays.fr {F G : Nat → Prop} {w w' : World} {v : Value} {ps : List (List Int)} (h : Pays F w v ps) (hf : Fr G w w') (hd : ∀ k, F k → ¬ G k) : Pays F w' v ps := by
  obtain ⟨vs, h1, h2, h3⟩ := h
  exact ⟨vs, h1, h2.fr hf hd, fun i x p hx hp => (h3 i x p hx hp).fr hf hd⟩
theorem Pays.mono {F G : Nat → Prop} {w : World} {v : Value} {ps : List (List Int)} (h : Pays F w v ps) (hs : ∀ k, F k → G k) : Pays G w v ps := by
  obtain ⟨vs, h1, h2, h3⟩ := h
  exact ⟨vs, h1, h2.mono hs, fun i x p hx hp => (h3 i x p hx hp).mono hs⟩
theorem Pays.below {F : Nat → Prop} {w w' : World} {v : Value} {ps : List (List Int)} (h : Pays F w v ps) (hb : Below w.heap.size w w') : Pays F w' v ps := by
  obtain ⟨vs, h1, h2, h3⟩ := h
  exact ⟨vs, h1, h2.below hb, fun i x p hx hp => (h3 i x p hx hp).below hb⟩
theorem Pays.nil (F : Nat → Prop) (w : World) : Pays F w (.slice none 0 0) [] := ⟨[], rfl, ⟨Reads.nil _ _, fun k hk => by simp [Value.ownBlock] at hk⟩, fun i x p hx => by simp at hx⟩
theorem Pays.form {F : Nat → Prop} {w : World} {v : Value} {ps : List (List Int)} (h : Pays F w v ps) : ∃ ao cap, v = .slice ao ps.length cap ∧ ps.length ≤ cap ∧ ps.length ≤ maxLen := by
  obtain ⟨vs, h1, ⟨⟨hm, ao, cap, rfl, ⟨hc, _⟩, _⟩, _⟩, _⟩ := h
  exact ⟨ao, cap, by rw [h1], by omega, by omega⟩
/-- An element of it: its cell, and that it reads. -/
theorem Pays.at_ {F : Nat → Prop} {w : World} {ao : Option Addr} {n cap : Nat} {ps : List (List Int)} (h : Pays F w (.slice ao n cap) ps) {i : Nat} {p : List Int} (hp : ps[i]? = some p) :
    ∃ b o x, ao = some ⟨b, o, none⟩ ∧ F b ∧ w.cell? ⟨b, o + i, none⟩ = some x ∧ Byt F w x p := by
  obtain ⟨vs, h1, ⟨⟨hm, ao', cap', hv, _, hc⟩, hF⟩, h3⟩ := h
  cases hv
  have hi : i < ps.length := (List.getElem?_eq_some_iff.1 hp).1
  obtain ⟨x, hx⟩ := get_some (xs := vs) (k := i) (by omega)
  obtain ⟨b, o, rfl, hcell⟩ := hc i x hx
  exact ⟨b, o, x, rfl, hF b rfl, hcell, h3 i x p hx hp⟩

end Go.Proofs.YthmdibagcbbgoaaGreat

namespace Go.Proofs.YthmdibagcbbgoaaGreat
open Go.RowKit

theorem run_append_full {P : Program} (w : World) (t ty e : TypeId) (i : TypeInfo) (z : Value) (bytes : Nat) (ht : P.underlying t = some (.slice e)) (hi : P.info? e = some i) (hz : i.zero = some z)
    (hsize : i.size = 1) (hby : i.bytes = bytes) (hzs : z.cells.size = 1)
    (ao : Option Addr) (n : Nat) (vs : List Value) (hr : Reads id w (.slice ao n n) vs)
    (a : Addr) (m c : Nat) (news : List Value) (hl : news.length = m) (hm0 : 0 < m) (hnews : ∀ j u, news[j]? = some u → w.cell? (a.add j) = some u) (h1 : ∀ u ∈ news, u.oneCell' = true)
    (h63 : n + m ≤ maxLen) (hbytes : (n + m) * bytes ≤ 140737488355328) :
    ∃ v' w', (Builtin.append_ #[t, t] ty #[.slice ao n n, .slice (some a) m c]).run P w = .ok v' w' ∧ w'.ownsRow w.heap.size e 1 v' (n + m) (vs ++ news) ∧ Below w.heap.size w w' := by
  have hsmall : n + m ≤ 9223372036854775807 := by simp only [maxLen] at h63; omega
  obtain ⟨hm, ao', cap, hv, ⟨hc1, hc2⟩, hc⟩ := hr
  cases hv
  cases ao with
  | none =>
    have h0 := hc2 rfl
    have hvs : vs = [] := List.eq_nil_of_length_eq_zero h0
    subst hvs
    obtain ⟨v', w', r1, r2, r3, _⟩ := run_append_own (P := P) w w.heap.size t ty e i z 1 bytes ht hi hz hsize hby hzs (by decide) (.slice none 0 0) 0 [] (World.ownsRow_nil _ _ _ _) a m c news (by omega) hnews h1 (by simpa using h63) (by simpa using hbytes) (Nat.le_refl _)
    exact ⟨v', w', r1, by simpa using r2, bl_grown (bl_refl w) r3 (by simp [Value.ownBlock])⟩
  | some b =>
    have holds : ∀ j u, vs[j]? = some u → w.cell? (b.add j) = some u := by
      intro j u hu
      obtain ⟨k, o, ha, hcell⟩ := hc j u hu
      cases ha
      rw [Addr.add_lit]; exact hcell
    have q1 := run_append_grow (P := P) w t ty e i z ht hi hz b vs.length vs.length vs (by rw [hsize]; omega) holds a m c news (by rw [hsize]; omega) hnews (by omega) (by omega) (growslice_fits (by omega) (by rw [hby]; exact hbytes))
    refine ⟨_, _, q1, ⟨by simp; omega, .inr ⟨w.heap.size, _, _, rfl, Nat.le_refl _, heap_alloc_new w.drew _, grownCap_ge w _ _ e, grownCap_le_maxLen w _ _ e h63, ?_, ?_⟩⟩, bl_alloc (bl_drew (bl_refl w)) _⟩
    · have hge := grownCap_ge w (vs.length + m) vs.length e
      simp only [Array.size_append, List.size_toArray, size_zeroCells, hzs, hl]
      omega
    · simp only [Array.toList_append, List.append_assoc]
      rw [← List.append_assoc, show (vs.length + m) * 1 = (vs ++ news).length by simp; omega]
      exact List.take_left

theorem wpList_append_full {P : Program} (w : World) {ops : Array Oper} {rest : List Oper} {o : Oper} {a : Act} {Q : Exit → Act → World → Prop} (hgd : o.guard = none) (s x : Operand) (t : TypeId)
    (ho : o.op = .call { callee := .builtin .append, args := #[s, x], argTypes := #[t, t] })
    (e : TypeId) (i : TypeInfo) (z : Value) (bytes : Nat) (ht : P.underlying t = some (.slice e)) (hi : P.info? e = some i) (hz : i.zero = some z)
    (hsize : i.size = 1) (hby : i.bytes = bytes) (hzs : z.cells.size = 1)
    (ao : Option Addr) (n : Nat) (vs : List Value) (hs : a.eval s = .slice ao n n) (hr : Reads id w (.slice ao n n) vs)
    (ad : Addr) (m c : Nat) (news : List Value) (hx : a.eval x = .slice (some ad) m c) (hl : news.length = m) (hm0 : 0 < m) (hnews : ∀ j u, news[j]? = some u → w.cell? (ad.add j) = some u) (h1 : ∀ u ∈ news, u.oneCell' = true)
    (h63 : n + m ≤ maxLen) (hbytes : (n + m) * bytes ≤ 140737488355328)
    (h : ∀ v' w', w'.ownsRow w.heap.size e 1 v' (n + m) (vs ++ news) → Below w.heap.size w w' → wpList P ops Q rest (a.put o.dst v') w') : wpList P ops Q (o :: rest) a w := by
  refine wpList_plain hgd fun K hK => ?_
  obtain ⟨v', w', hrun, h2, h3⟩ := run_append_full (P := P) w t o.type e i z bytes ht hi hz hsize hby hzs ao n vs hr ad m c news hl hm0 hnews h1 h63 hbytes
  unfold Oper.wp execOp
  simp only [ho, resolve, invoke, builtin, Sem.run_bind, Sem.run_pure, Result.andThen_ok, List.map_toArray, List.map_cons, List.map_nil, hs, hx, hrun]
  exact hK _ _ (h v' w' h2 h3)

end Go.Proofs.YthmdibagcbbgoaaGreat

namespace Go.Proofs.YthmdibagcbbgoaaGreat
open Go.RowKit

section
variable {P : Program} {ops : Array Oper} {o : Oper} {a : Act} {K : Act → World → Prop} {Q : Exit → Act → World → Prop} {E : Prop}

theorem step_of_wp {w : World} (hgd : o.guard = none) (h : o.wp P a w K Q) : if Region.wanted o (yielded ops a.tmps) = true then o.wp P a w K Q else E := by
  rw [if_pos (by simp [Region.wanted, hgd])]; exact h

theorem wp_append_r (w : World) (s x : Operand) (t : TypeId)
    (ho : o.op = .call { callee := .builtin .append, args := #[s, x], argTypes := #[t, t] })
    (base : Nat) (e : TypeId) (i : TypeInfo) (z : Value) (bytes : Nat) (ht : P.underlying t = some (.slice e)) (hi : P.info? e = some i) (hz : i.zero = some z)
    (hsize : i.size = 1) (hby : i.bytes = bytes) (hzs : z.cells.size = 1)
    (v : Value) (n : Nat) (xs : List Value) (hs : a.eval s = v) (hown : w.ownsRow base e 1 v n xs)
    {α : Type} (f : α → Value) (u : Value) (ys : List α) (hx : a.eval x = u) (hr : Reads f w u ys) (h1 : ∀ y ∈ ys, (f y).oneCell' = true)
    (h63 : n + ys.length ≤ maxLen) (hbytes : (n + ys.length) * bytes ≤ 140737488355328) (hbase : base ≤ w.heap.size)
    (h : ∀ v' w', w'.ownsRow base e 1 v' (n + ys.length) (xs ++ ys.map f) → w.grownBy w' v.ownBlock → K (a.put o.dst v') w') : o.wp P a w K Q := by
  obtain ⟨v', w', hr, h2, h3, h4⟩ := run_append_r (P := P) w base t o.type e i z bytes ht hi hz hsize hby hzs v n xs hown f u ys hr h1 h63 hbytes hbase
  unfold Oper.wp execOp
  simp only [ho, resolve, invoke, builtin, Sem.run_bind, Sem.run_pure, Result.andThen_ok, List.map_toArray, List.map_cons, List.map_nil, hs, hx, hr]
  exact h v' w' h2 h3

theorem wp_append_full (w : World) (s x : Operand) (t : TypeId)
    (ho : o.op = .call { callee := .builtin .append, args := #[s, x], argTypes := #[t, t] })
    (e : TypeId) (i : TypeInfo) (z : Value) (bytes : Nat) (ht : P.underlying t = some (.slice e)) (hi : P.info? e = some i) (hz : i.zero = some z)
    (hsize : i.size = 1) (hby : i.bytes = bytes) (hzs : z.cells.size = 1)
    (ao : Option Addr) (n : Nat) (vs : List Value) (hs : a.eval s = .slice ao n n) (hr : Reads id w (.slice ao n n) vs)
    (ad : Addr) (m c : Nat) (news : List Value) (hx : a.eval x = .slice (some ad) m c) (hl : news.length = m) (hm0 : 0 < m) (hnews : ∀ j u, news[j]? = some u → w.cell? (ad.add j) = some u) (h1 : ∀ u ∈ news, u.oneCell' = true)
    (h63 : n + m ≤ maxLen) (hbytes : (n + m) * bytes ≤ 140737488355328)
    (h : ∀ v' w', w'.ownsRow w.heap.size e 1 v' (n + m) (vs ++ news) → Below w.heap.size w w' → K (a.put o.dst v') w') : o.wp P a w K Q := by
  obtain ⟨v', w', hrun, h2, h3⟩ := run_append_full (P := P) w t o.type e i z bytes ht hi hz hsize hby hzs ao n vs hr ad m c news hl hm0 hnews h1 h63 hbytes
  unfold Oper.wp execOp
  simp only [ho, resolve, invoke, builtin, Sem.run_bind, Sem.run_pure, Result.andThen_ok, List.map_toArray, List.map_cons, List.map_nil, hs, hx, hrun]
  exact h v' w' h2 h3
end

/-- The slice v is a row of one-cell elements of type e: its block is known whole. -/
def ArrAt (w : World) (e : TypeId) (v : Value) (vs : List Value) : Prop :=
  (v = .slice none 0 0 ∧ vs = []) ∨ ∃ g off cap cur, v = .slice (some ⟨g, off, none⟩) vs.length cap ∧ w.heap[g]? = some (.cells cur e (0, 0)) ∧ off + cap ≤ cur.size ∧ vs.length ≤ cap ∧ cap ≤ maxLen ∧ ∀ (i : Nat) x, vs[i]? = some x → cur[off + i]? = some x
theorem ArrAt.nil (w : World) (e : TypeId) : ArrAt w e (.slice none 0 0) [] := .inl ⟨rfl, rfl⟩
theorem ArrAt.of_owns {w : World} {base : Nat} {e : TypeId} {v : Value} {vs : List Value} (h : w.ownsRow base e 1 v vs.length vs) : ArrAt w e v vs := by
  rcases h.2 with ⟨h1, h0⟩ | ⟨g, cap, cur, rfl, hb, hg, hle, hcap, hsz, htake⟩
  · exact .inl ⟨h1, List.eq_nil_of_length_eq_zero h0⟩
  · refine .inr ⟨g, 0, cap, cur, rfl, hg, by omega, hle, hcap, fun i x hx => ?_⟩
    have hi : i < vs.length := (List.getElem?_eq_some_iff.1 hx).1
    rw [← htake, List.getElem?_take, if_pos (by omega)] at hx
    simpa using hx
theorem ArrAt.form {w : World} {e : TypeId} {v : Value} {vs : List Value} (h : ArrAt w e v vs) : ∃ ao cap, v = .slice ao vs.length cap ∧ vs.length ≤ cap ∧ cap ≤ maxLen ∧ (ao = none → cap = 0) := by
  rcases h with ⟨rfl, rfl⟩ | ⟨g, off, cap, cur, rfl, _, _, h1, h2, _⟩
  · exact ⟨none, 0, rfl, by simp, by simp, fun _ => rfl⟩
  · exact ⟨_, _, rfl, h1, h2, fun h => by cases h⟩
theorem ArrAt.reads {w : World} {e : TypeId} {v : Value} {vs : List Value} (h : ArrAt w e v vs) : Reads id w v vs := by
  rcases h with ⟨rfl, rfl⟩ | ⟨g, off, cap, cur, rfl, hg, _, h1, h2, hc⟩
  · exact Reads.nil _ _
  · refine ⟨by omega, _, _, rfl, ⟨h1, fun h => by cases h⟩, fun i x hx => ⟨g, off, rfl, ?_⟩⟩
    rw [cell_of_row w g (off + i) cur e (0, 0) hg]
    exact hc i x hx
/-- The row cut to its own length. -/
theorem ArrAt.full {w : World} {e : TypeId} {ao : Option Addr} {n cap : Nat} {vs : List Value} (h : ArrAt w e (.slice ao n cap) vs) : Reads id w (.slice ao n n) vs := by
  obtain ⟨hm, ao', cap', hv, ⟨h1, h2⟩, hc⟩ := h.reads
  cases hv
  refine ⟨hm, _, _, rfl, ⟨Nat.le_refl _, fun h => ?_⟩, hc⟩
  have := h2 h
  omega
theorem ArrAt.fr {F : Nat → Prop} {w w' : World} {e : TypeId} {v : Value} {vs : List Value} (h : ArrAt w e v vs) (hf : Fr F w w') (hn : ∀ k, v.ownBlock = some k → ¬ F k) : ArrAt w' e v vs := by
  rcases h with h | ⟨g, off, cap, cur, rfl, hg, r⟩
  · exact .inl h
  · exact .inr ⟨g, off, cap, cur, rfl, hf.get hg (hn g rfl), r⟩
/-- An element's cell. -/
theorem ArrAt.at_ {w : World} {e : TypeId} {ao : Option Addr} {n cap : Nat} {vs : List Value} (h : ArrAt w e (.slice ao n cap) vs) {i : Nat} {x : Value} (hx : vs[i]? = some x) : ∃ g off, ao = some ⟨g, off, none⟩ ∧ w.cell? ⟨g, off + i, none⟩ = some x := by
  rcases h with ⟨_, rfl⟩ | ⟨g, off, cap, cur, hv, hg, _, h1, h2, hc⟩
  · simp at hx
  · cases hv
    exact ⟨g, off, rfl, by rw [cell_of_row w g (off + i) cur e (0, 0) hg]; exact hc i x hx⟩
theorem ArrAt.lt {w : World} {e : TypeId} {v : Value} {vs : List Value} (h : ArrAt w e v vs) : ∀ k, v.ownBlock = some k → k < w.heap.size := by
  intro k hk
  rcases h with ⟨rfl, _⟩ | ⟨g, off, cap, cur, rfl, hg, _⟩
  · simp [Value.ownBlock] at hk
  · simp [Value.ownBlock] at hk; subst hk; exact lt_of_get hg

/-- s[:n:n], s[k:], s[:k] of whatever slice with one-cell elements. -/
theorem run_cut_full {P : Program} {t e : TypeId} {i : TypeInfo} (ht : P.underlying t = some (.slice e)) (hi : P.info? e = some i) (hs : i.size = 1) (W : World) (ao : Option Addr) (n cap : Nat) (h : n ≤ cap) :
    (Instr.sliceAt t (.slice ao n cap) none (some (.int .i64 n)) (some (.int .i64 n))).run P W = .ok (.slice ao n n) W := by
  have he : P.elem t = e := by simp [Program.elem, ht]
  have ht' : P.underlying t = some (.slice (P.elem t)) := by rw [he, ht]
  rw [run_sliceAt_slice W t _ _ _ _ ht', run_slice_hm W t ao n cap ht' .i64 .i64 n n (by omega) (by omega) (by omega)]
  simp [sizeOf, typeInfo, he, hi, hs, sliced, Addr.add]
theorem run_cut_to {P : Program} {t e : TypeId} {i : TypeInfo} (ht : P.underlying t = some (.slice e)) (hi : P.info? e = some i) (hs : i.size = 1) (W : World) (ao : Option Addr) (n cap k : Nat) (h : k ≤ cap) :
    (Instr.sliceAt t (.slice ao n cap) none (some (.int .i64 k)) none).run P W = .ok (.slice ao k cap) W := by
  have he : P.elem t = e := by simp [Program.elem, ht]
  have ht' : P.underlying t = some (.slice (P.elem t)) := by rw [he, ht]
  rw [run_sliceAt_slice W t _ _ _ _ ht', run_slice_h W t ao n cap ht' .i64 k (by omega) (by omega)]
  simp [sizeOf, typeInfo, he, hi, hs, sliced, Addr.add]
theorem run_cut_from {P : Program} {t e : TypeId} {i : TypeInfo} (ht : P.underlying t = some (.slice e)) (hi : P.info? e = some i) (hs : i.size = 1) (W : World) (ao : Option Addr) (n cap k : Nat) (h : k ≤ n) :
    (Instr.sliceAt t (.slice ao n cap) (some (.int .i64 k)) none none).run P W = .ok (.slice (if cap = k then ao else ao.map (·.add k)) (n - k) (cap - k)) W := by
  have he : P.elem t = e := by simp [Program.elem, ht]
  have ht' : P.underlying t = some (.slice (P.elem t)) := by rw [he, ht]
  rw [run_sliceAt_slice W t _ _ _ _ ht', run_slice_l W t ao n cap ht' .i64 k (by omega) (by omega)]
  simp [sizeOf, typeInfo, he, hi, hs, sliced]

/-- clear(s[:n]): the row's other cells are as they were. -/
theorem run_clear {P : Program} (w : World) (t ty e : TypeId) (i : TypeInfo) (z : Value) (ht : P.underlying t = some (.slice e)) (hi : P.info? e = some i) (hz : i.zero = some z) (hzs : z.cells.size = 1) (hz1 : ∀ x ∈ z.cells.toList, x.oneCell' = true)
    (ao : Option Addr) (n m cap cap' : Nat) (vs : List Value) (h : ArrAt w e (.slice ao n cap) vs) (hm : m ≤ n) :
    ∃ w', (Builtin.clear_ #[t] ty #[.slice ao m cap']).run P w = .ok (.tuple #[]) w' ∧ Fr (fun k => (Value.slice ao n cap).ownBlock = some k) w w' ∧
      ArrAt w' e (.slice (if cap = m then ao else ao.map (·.add m)) (n - m) (cap - m)) (vs.drop m) := by
  rcases h with ⟨hv, rfl⟩ | ⟨g, off, cap, cur, hv, hg, h0, h1, h2, hc⟩
  · cases hv
    obtain rfl : m = 0 := by omega
    refine ⟨w, ?_, Fr.refl _ _, .inl ⟨by simp, by simp⟩⟩
    simp [Builtin.clear_, run_underlying ht]
  · cases hv
    have hadd : (⟨g, off, none⟩ : Addr).add m = ⟨g, off + m, none⟩ := Addr.add_lit g off m
    by_cases hm0 : m = 0
    · subst hm0
      refine ⟨w, ?_, Fr.refl _ _, .inr ⟨g, off, cap, cur, ?_, hg, h0, by simpa using h1, h2, by simpa using hc⟩⟩
      · simp [Builtin.clear_, run_underlying ht]
      · simp [Addr.add]
    · have hzl : (Builtin.zeroCells z.cells m).toList.length = m := by rw [Array.length_toList, size_zeroCells, hzs]; omega
      have hz1' : ∀ x ∈ (Builtin.zeroCells z.cells m).toList, x.oneCell' = true := by
        intro x hx
        simp only [Builtin.zeroCells, Array.toList_map, List.mem_map] at hx
        obtain ⟨i, _, rfl⟩ := hx
        rw [hzs, Nat.mod_one, getElem!_pos z.cells 0 (by omega)]
        exact hz1 _ (by simp)
      have hst := run_storeCells_at (P := P) g off e (Builtin.zeroCells z.cells m).toList 0 cur w hg (by rw [hzl]; omega) hz1'
      rw [hzl, Nat.add_zero] at hst
      obtain ⟨cs, hcs⟩ : ∃ cs, (cur.toList.take off ++ (Builtin.zeroCells z.cells m).toList ++ cur.toList.drop (off + m)).toArray = cs := ⟨_, rfl⟩
      rw [hcs] at hst
      have hq : Fr (fun k => (Value.slice (some ⟨g, off, none⟩) vs.length cap).ownBlock = some k) w (w.setRow g cs) := (fr_row w g cs).mono (fun k hk => .inl (by simp [Value.ownBlock, hk]))
      refine ⟨w.setRow g cs, ?_, hq, .inr ⟨g, (if cap = m then off else off + m), cap - m, cs, ?_, setRow_heap w g cur cs e _ hg, ?_, ?_, by omega, ?_⟩⟩
      · simp [Builtin.clear_, run_underlying ht, zeroValue, typeInfo, hi, hz, hst]
      · by_cases hcm : cap = m
        · simp [hcm]
        · simp [hcm, hadd]
      · rw [← hcs]
        simp only [List.size_toArray, List.length_append, List.length_take, List.length_drop, hzl, Array.length_toList]
        split <;> omega
      · simp; omega
      · intro i x hx
        rw [List.getElem?_drop] at hx
        have hlt : m + i < vs.length := (List.getElem?_eq_some_iff.1 hx).1
        have hcx := hc (m + i) x hx
        rw [if_neg (by omega), ← hcs]
        rw [List.getElem?_toArray, List.append_assoc, List.getElem?_append_right (by simp; omega), List.getElem?_append_right (by simp [hzl]; omega), List.getElem?_drop, hzl, List.length_take, Array.length_toList]
        rw [Array.getElem?_toList, ← hcx]
        congr 1
        omega

theorem wpList_clear {P : Program} (w : World) {ops : Array Oper} {rest : List Oper} {o : Oper} {a : Act} {Q : Exit → Act → World → Prop} (hgd : o.guard = none) (s : Operand) (t : TypeId)
    (ho : o.op = .call { callee := .builtin .clear, args := #[s], argTypes := #[t] })
    (e : TypeId) (i : TypeInfo) (z : Value) (ht : P.underlying t = some (.slice e)) (hi : P.info? e = some i) (hz : i.zero = some z) (hzs : z.cells.size = 1) (hz1 : ∀ x ∈ z.cells.toList, x.oneCell' = true)
    (ao : Option Addr) (n m cap cap' : Nat) (vs : List Value) (h : ArrAt w e (.slice ao n cap) vs) (hm : m ≤ n) (hs : a.eval s = .slice ao m cap')
    (hk : ∀ w', Fr (fun k => (Value.slice ao n cap).ownBlock = some k) w w' → ArrAt w' e (.slice (if cap = m then ao else ao.map (·.add m)) (n - m) (cap - m)) (vs.drop m) → wpList P ops Q rest (a.put o.dst (.tuple #[])) w') : wpList P ops Q (o :: rest) a w := by
  refine wpList_plain hgd fun K hK => ?_
  obtain ⟨w', hrun, h2, h3⟩ := run_clear (P := P) w t o.type e i z ht hi hz hzs hz1 ao n m cap cap' vs h hm
  unfold Oper.wp execOp
  simp only [ho, resolve, invoke, builtin, Sem.run_bind, Sem.run_pure, Result.andThen_ok, List.map_toArray, List.map_cons, List.map_nil, hs, hrun]
  exact hK _ _ (hk w' h2 h3)

end Go.Proofs.YthmdibagcbbgoaaGreat

namespace Go.Proofs.YthmdibagcbbgoaaGreat
open Go.RowKit

section
variable {P : Program} {ops : Array Oper} {Q : Exit → Act → World → Prop} {md : Region.Mode} {S : World → Prop} {n : Nat}

/-- Whatever order is picked from here on; S holds behind every operation but number n. -/
def wpAnyR (P : Program) (md : Region.Mode) (ops : Array Oper) (Q : Exit → Act → World → Prop) (S : World → Prop) (n : Nat) : Nat → Array Bool → Act → World → Prop
  | 0, listed, a, w => Region.ready md ops listed = [] ∧ Q .normal a w
  | fuel + 1, listed, a, w =>
    (Region.ready md ops listed = [] → Q .normal a w) ∧
    ∀ i ∈ Region.ready md ops listed, wpOp P ops Q i (fun a' w' => (i = n ∨ S w') ∧ wpAnyR P md ops Q S n fuel (listed.setIfInBounds i true) a' w') a w
theorem wpAny_of_R : ∀ (fuel : Nat) (listed : Array Bool) (a : Act) (w : World), wpAnyR P md ops Q S n fuel listed a w → wpAny P md ops Q fuel listed a w
  | 0, _, _, _, h => h
  | fuel + 1, _, _, _, h => ⟨h.1, fun i hi => wpOp_mono (fun a' w' h' => wpAny_of_R fuel _ a' w' h'.2) (h.2 i hi)⟩

theorem wpAnyR_first {i : Nat} {oi : Oper} {v : Value} (hi : ops[i]? = some oi) (hsel : Region.noSelect ops = true)
    (hs : Region.sinkB md ops n = true) (hc : Region.chainB md ops n = true) (hn : n < ops.size) (hin : i < n)
    (hQ : ∀ c a d v w, Q (.panic c) (a.put d v) w → Q (.panic c) a w) :
    ∀ (fuel : Nat) (listed : Array Bool) (a : Act) (w : World), HeadInv md ops n listed →
      (∀ j oj, ops[j]? = some oj → j ≠ i → listed.getD j true = false → (∀ e ∈ oj.after, Region.binds md e = true → e.on ≠ i) → oi.apart ops oj = true) →
      i ∈ Region.ready md ops listed → YieldsIf P ops S oi v a → S w →
      wpAnyR P md ops Q S n fuel (listed.setIfInBounds i true) (a.put oi.dst v) w → wpAnyR P md ops Q S n (fuel + 1) listed a w := by
  intro fuel
  induction fuel with
  | zero =>
    intro listed a w _ _ hr hy hS H
    refine ⟨fun h => (by rw [h] at hr; cases hr), fun j hj => ?_⟩
    by_cases hji : j = i
    · subst hji; exact hy.wpOp hi hS ⟨.inr hS, H⟩
    · have := ready_mono hj hji
      rw [H.1] at this
      cases this
  | succ fuel ih =>
    intro listed a w inv hfree hr hy hS H
    have hun := (mem_ready.1 hr).1
    refine ⟨fun h => (by rw [h] at hr; cases hr), fun j hj => ?_⟩
    have hjn : j < n := by
      rcases Nat.lt_or_ge j n with h | h
      · exact h
      · exact absurd hj (tail_waits hs hc hn inv _ i rfl hin hun j h)
    by_cases hji : j = i
    · subst hji; exact hy.wpOp hi hS ⟨.inr hS, H⟩
    · have h1 := H.2 j (ready_mono hj hji)
      obtain ⟨hjun, oj, hoj, hall⟩ := mem_ready.1 hj
      have hnot : ∀ e ∈ oj.after, Region.binds md e = true → e.on ≠ i := fun e he hb heq => by
        have h1 := hall e he hb
        rw [heq, getD_both hun] at h1
        cases h1
      have h2 := wpOp_putIf hoj (hfree j oj hoj hji hjun hnot) (fun cs b => Region.noSelect_spec hsel i oi cs b hi) (fun cs b => Region.noSelect_spec hsel j oj cs b hoj) (fun c a w => hQ c a _ _ w) hy h1
      have hfree' : ∀ k ok, ops[k]? = some ok → k ≠ i → (listed.setIfInBounds j true).getD k true = false →
          (∀ e ∈ ok.after, Region.binds md e = true → e.on ≠ i) → oi.apart ops ok = true := fun k ok hk hki hun hno => by
        refine hfree k ok hk hki ?_ hno
        by_cases hjk : j = k
        · subst hjk; exact hjun
        · rw [getD_set_ne true hjk] at hun; exact hun
      refine wpOp_mono (fun a' w' h3 => ?_) h2
      have hS' : S w' := by
        rcases h3.2.1 with h4 | h4
        · omega
        · exact h4
      refine ⟨.inr hS', ih (listed.setIfInBounds j true) a' w' (inv.set hj hjn) hfree' (ready_mono hr (Ne.symm hji)) h3.1 hS' ?_⟩
      rw [Array.setIfInBounds_comm _ _ hji]
      exact h3.2.2

/-- The order named: number and 'is it taken?'. -/
def ordB (md : Region.Mode) (ops : Array Oper) (n : Nat) : List (Nat × Bool) → Array Bool → Bool
  | [], listed => (Region.ready md ops listed).isEmpty
  | (i, true) :: r, listed => (Region.ready md ops listed).contains i && Region.free md ops listed i && decide (i < n) && ordB md ops n r (listed.setIfInBounds i true)
  | (i, false) :: r, listed => decide (Region.ready md ops listed = [i]) && (decide (i < n) || (decide (i = n) && r.isEmpty)) && ordB md ops n r (listed.setIfInBounds i true)

/-- The walk along the named order. -/
def wpOrd (P : Program) (ops : Array Oper) (n : Nat) (S : World → Prop) (Q : Exit → Act → World → Prop) : List (Nat × Bool) → Act → World → Prop
  | [], a, w => Q .normal a w
  | (i, true) :: r, a, w => ∃ o v, ops[i]? = some o ∧ YieldsIf P ops S o v a ∧ wpOrd P ops n S Q r (a.put o.dst v) w
  | (i, false) :: r, a, w => ∃ o, ops[i]? = some o ∧ Region.wanted o (yielded ops a.tmps) = true ∧ o.wp P a w (fun a' w' => (i = n ∨ S w') ∧ wpOrd P ops n S Q r a' w') Q

theorem wpAnyR_of_ord (hsel : Region.noSelect ops = true) (hs : Region.sinkB md ops n = true) (hc : Region.chainB md ops n = true) (hn : n < ops.size)
    (hQ : ∀ c a d v w, Q (.panic c) (a.put d v) w → Q (.panic c) a w) :
    ∀ (l : List (Nat × Bool)) (listed : Array Bool) (a : Act) (w : World), (l = [] ∨ HeadInv md ops n listed) → (l = [] ∨ S w) → ordB md ops n l listed = true → wpOrd P ops n S Q l a w →
      wpAnyR P md ops Q S n l.length listed a w
  | [], listed, a, w, _, _, hB, h => ⟨by simpa [ordB] using hB, h⟩
  | (i, true) :: r, listed, a, w, inv, hS, hB, h => by
    have inv := inv.resolve_left (by simp)
    have hS := hS.resolve_left (by simp)
    simp only [ordB, Bool.and_eq_true, decide_eq_true_eq] at hB
    obtain ⟨⟨⟨hr, hf⟩, hin⟩, hB'⟩ := hB
    obtain ⟨o, v, ho, hy, hh⟩ := h
    have hr' : i ∈ Region.ready md ops listed := by simpa using hr
    exact wpAnyR_first ho hsel hs hc hn hin hQ r.length listed a w inv (Region.free_spec ho hf) hr' hy hS
      (wpAnyR_of_ord hsel hs hc hn hQ r _ _ _ (.inr (inv.set hr' hin)) (.inr hS) hB' hh)
  | (i, false) :: r, listed, a, w, inv, hS, hB, h => by
    have inv0 := inv.resolve_left (by simp)
    simp only [ordB, Bool.and_eq_true, decide_eq_true_eq, Bool.or_eq_true, List.isEmpty_iff] at hB
    obtain ⟨⟨hr, hin⟩, hB'⟩ := hB
    obtain ⟨o, ho, hw, hh⟩ := h
    refine ⟨fun h0 => (by rw [h0] at hr; cases hr), fun j hj => ?_⟩
    rw [hr] at hj
    have hji : j = i := by simpa using hj
    rw [hji]
    unfold wpOp
    simp only [ho, hw, if_true]
    refine .inl (Oper.wp_mono (fun a' w' h3 => ⟨h3.1, ?_⟩) hh)
    refine wpAnyR_of_ord hsel hs hc hn hQ r _ a' w' ?_ ?_ hB' h3.2
    · rcases hin with h4 | h4
      · exact .inr (inv0.set (by rw [hr]; simp) h4)
      · exact .inl h4.2
    · rcases hin with h4 | h4
      · exact .inr (h3.1.resolve_left (by omega))
      · exact .inl h4.2

theorem headInv_start (md : Region.Mode) (ops : Array Oper) (n : Nat) : HeadInv md ops n (Array.replicate ops.size false) :=
  ⟨by simp, fun j oj _ hl => (by rw [getD_replicate_false] at hl; cases hl), fun t _ ht' => by simp [ht']⟩

theorem wp_region_ord {id : Nat} {a : Act} {w : World} (order : List (Nat × Bool)) (hm : P.follows .mixedOrders = true) (hQ : ∀ c a d v w, Q (.panic c) (a.put d v) w → Q (.panic c) a w)
    (hB : (Region.noSelect ops && (Region.sinkB .any ops n && (Region.chainB .any ops n && (decide (n < ops.size) && (decide (order.length = ops.size) && ordB .any ops n order (Array.replicate ops.size false)))))) = true)
    (hS : S w.drew) (h : wpOrd P ops n S Q order a w.drew) : (Code.region id ops true).wp P Q a w := by
  simp only [Bool.and_eq_true, decide_eq_true_eq] at hB
  obtain ⟨h1, h2, h3, h4, h5, h6⟩ := hB
  refine wp_region_any hm (wpAny_of_R (S := S) (n := n) _ _ _ _ ?_)
  have := wpAnyR_of_ord (P := P) (Q := Q) (S := S) h1 h2 h3 h4 hQ order (Array.replicate ops.size false) a w.drew (.inr (headInv_start _ _ _)) (.inr hS) h6 h
  rw [h5] at this
  exact this

theorem wpOrd_take {i : Nat} {r : List (Nat × Bool)} {a : Act} {w : World} {o : Oper} {v : Value} (ho : ops[i]? = some o) (hw : Region.wanted o (yielded ops a.tmps) = true)
    (hy : ∀ w', S w' → (execOp a.eval o).run P w' = .ok (.value v) w') (h : wpOrd P ops n S Q r (a.put o.dst v) w) : wpOrd P ops n S Q ((i, true) :: r) a w := ⟨o, v, ho, .inl ⟨hw, hy⟩, h⟩
theorem wpOrd_miss {i : Nat} {r : List (Nat × Bool)} {a : Act} {w : World} {o : Oper} (ho : ops[i]? = some o) (hw : Region.wanted o (yielded ops a.tmps) = false)
    (h : wpOrd P ops n S Q r (a.put o.dst undef) w) : wpOrd P ops n S Q ((i, true) :: r) a w := ⟨o, undef, ho, .inr ⟨hw, rfl⟩, h⟩
theorem wpOrd_step {i : Nat} {r : List (Nat × Bool)} {a : Act} {w : World} {o : Oper} (ho : ops[i]? = some o) (hw : Region.wanted o (yielded ops a.tmps) = true)
    (h : ∀ K, Hid (∀ a' w', S w' → wpOrd P ops n S Q r a' w' → K a' w') → o.wp P a w K Q) : wpOrd P ops n S Q ((i, false) :: r) a w :=
  ⟨o, ho, hw, h _ fun _ _ h1 h2 => ⟨.inr h1, h2⟩⟩
theorem wpOrd_last {r : List (Nat × Bool)} {a : Act} {w : World} {o : Oper} (ho : ops[n]? = some o) (hw : Region.wanted o (yielded ops a.tmps) = true)
    (h : ∀ K, Hid (∀ a' w', wpOrd P ops n S Q r a' w' → K a' w') → o.wp P a w K Q) : wpOrd P ops n S Q ((n, false) :: r) a w :=
  ⟨o, ho, hw, h _ fun _ _ h2 => ⟨.inl rfl, h2⟩⟩
theorem wpOrd_nil {a : Act} {w : World} (h : Q .normal a w) : wpOrd P ops n S Q [] a w := h
end

end Go.Proofs.YthmdibagcbbgoaaGreat
