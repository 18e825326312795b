/- All blocks that were there but some few are as they were: the frame of a call that writes. No program in sight. The frame of a call that may write into blocks of a footprint; slices that read as lists inside a footprint. No program in sight. append(s[:len:len], ...): always a new row, whatever s reads as; and append(own, one) told by what the row is. No program in sight. Conditions: as they stand. -/
import Derived.RangeFuncNested
import Derived.Test.YthmdibagcbbgoaaM00
import Derived.Laws.AppendOwn
namespace Go.Proofs.Ythmdibagcbbgoaa
open Go.RowKit

/-- Of what was there in w nothing but the blocks in ex may have turned. -/
structure Frm (ex : List Nat) (w w' : World) : Prop where
  os : w'.os = w.os
  tape : w'.tape = w.tape
  output : w'.output = w.output
  size : w.heap.size ≤ w'.heap.size
  block : ∀ k, k < w.heap.size → k ∉ ex → w'.heap[k]? = w.heap[k]?

theorem Frm.refl (ex : List Nat) (w : World) : Frm ex w w := ⟨rfl, rfl, rfl, Nat.le_refl _, fun _ _ _ => rfl⟩
theorem Frm.trans {ex : List Nat} {a b c : World} (h : Frm ex a b) (k : Frm ex b c) : Frm ex a c :=
  ⟨k.os.trans h.os, k.tape.trans h.tape, k.output.trans h.output, Nat.le_trans h.size k.size, fun i hi hn => (k.block i (Nat.lt_of_lt_of_le hi h.size) hn).trans (h.block i hi hn)⟩
theorem Frm.mono {ex ex' : List Nat} {a b : World} (h : Frm ex a b) (hs : ∀ k ∈ ex, k ∈ ex' ∨ a.heap.size ≤ k) : Frm ex' a b :=
  ⟨h.os, h.tape, h.output, h.size, fun i hi hn => h.block i hi fun hm => by rcases hs i hm with h | h; exact hn h; omega⟩
theorem Frm.of_below {ex : List Nat} {a b : World} (h : Below a.heap.size a b) : Frm ex a b := ⟨h.os, h.tape, h.output, h.size, fun k hk _ => h.block k hk⟩
theorem Frm.then_below {ex : List Nat} {a b c : World} (h : Frm ex a b) (k : Below b.heap.size b c) : Frm ex a c := h.trans (.of_below k)
theorem Frm.below {ex : List Nat} {a b : World} (h : Frm ex a b) (hs : ∀ k ∈ ex, a.heap.size ≤ k) : Below a.heap.size a b :=
  ⟨h.os, h.tape, h.output, h.size, fun k hk => h.block k hk fun hm => by have := hs k hm; omega⟩
/-- Blocks that were made behind w do not count for w. -/
theorem bl_frm {w a b : World} {ex : List Nat} (h : Below w.heap.size w a) (k : Frm ex a b) (hs : ∀ i ∈ ex, w.heap.size ≤ i) : Below w.heap.size w b :=
  h.trans ⟨k.os, k.tape, k.output, k.size, fun i hi => k.block i (Nat.lt_of_lt_of_le hi h.size) fun hm => by have := hs i hm; omega⟩
theorem Frm.get {ex : List Nat} {a b : World} (h : Frm ex a b) {k : Nat} {o : Obj} (hk : a.heap[k]? = some o) (hn : k ∉ ex) : b.heap[k]? = some o := (h.block k (lt_of_get hk) hn).trans hk
theorem Frm.cell {ex : List Nat} {a b : World} (h : Frm ex a b) {k o : Nat} {v : Value} (hk : a.cell? ⟨k, o, none⟩ = some v) (hn : k ∉ ex) : b.cell? ⟨k, o, none⟩ = some v :=
  (World.cell?_of_block (a := ⟨k, o, none⟩) (h.block k (cell_lt hk) hn)).trans hk
theorem Frm.alloc {ex : List Nat} {a b : World} (h : Frm ex a b) (o : Obj) : Frm ex a (b.alloc o) := h.then_below (bl_alloc (bl_refl _) o)
theorem Frm.setCell {ex : List Nat} {a b : World} (h : Frm ex a b) {p : Addr} (hp : p.block ∈ ex) (v : Value) : Frm ex a (b.setCell p v) :=
  h.trans ⟨rfl, rfl, rfl, by simp [World.setCell], fun k _ hn => Below.heap_setCell _ _ _ _ (fun e => hn (by rw [e]; exact hp))⟩
theorem Frm.setCell' {ex : List Nat} {a b : World} (h : Frm ex a b) {p : Addr} (hp : a.heap.size ≤ p.block) (v : Value) : Frm ex a (b.setCell p v) :=
  ⟨h.os, h.tape, h.output, Nat.le_trans h.size (by simp [World.setCell]), fun k hk hn => (Below.heap_setCell _ _ _ _ (by omega)).trans (h.block k hk hn)⟩
theorem Frm.grown {ex : List Nat} {a b c : World} {row : Option Nat} (h : Frm ex a b) (hg : b.grownBy c row) (hr : ∀ k, row = some k → k ∈ ex ∨ a.heap.size ≤ k) : Frm ex a c :=
  ⟨hg.os.trans h.os, hg.tape.trans h.tape, hg.output.trans h.output, Nat.le_trans h.size hg.size, fun k hk hn =>
    (hg.block k (Nat.lt_of_lt_of_le hk h.size) (fun e => by rcases hr k e.symm with h | h; exact hn h; omega)).trans (h.block k hk hn)⟩
theorem Frm.reads {ex : List Nat} {a b : World} (h : Frm ex a b) {α : Type} {f : α → Value} {v : Value} {xs : List α} (hr : Reads f a v xs) (hn : v.ownBlock = none ∨ ∃ k, v.ownBlock = some k ∧ k ∉ ex) : Reads f b v xs := by
  obtain ⟨hm, ao, cap, rfl, hnil, hc⟩ := hr
  refine ⟨hm, ao, cap, rfl, hnil, fun i x hx => ?_⟩
  obtain ⟨k, o, rfl, hcell⟩ := hc i x hx
  refine ⟨k, o, rfl, h.cell hcell ?_⟩
  rcases hn with hn | ⟨k', hk', hn⟩
  · simp [Value.ownBlock] at hn
  · simp [Value.ownBlock] at hk'; rw [hk']; exact hn

theorem ownFrom_frm {β : Type} {B : Nat} {ex : List Nat} {w0 : World} (hB : w0.heap.size ≤ B) : OwnFrom B (fun (_ : β) W => Frm ex w0 W) :=
  fun _ _ _ _ hs hg hr => hs.grown hg fun k hk => .inr (Nat.le_trans hB (hr k hk).1)
theorem frm_put {ex : List Nat} {a b : World} (h : Frm ex a b) {l : Nat} {o : Obj} (o' : Obj) (hl : a.heap.size ≤ l) (_ : b.heap[l]? = some o) : Frm ex a (b.putObj l o') :=
  ⟨h.os, h.tape, h.output, by simpa using h.size, fun k hk hn => (World.putObj_heap_other (by omega)).trans (h.block k hk hn)⟩
theorem Frm.drew {ex : List Nat} {a b : World} (h : Frm ex a b) : Frm ex a b.drew := ⟨h.os, h.tape, h.output, h.size, h.block⟩

theorem two_blocks (w : World) (A B : Obj) : ((w.alloc A).alloc B).heap[w.heap.size]? = some A ∧ ((w.alloc A).alloc B).heap[w.heap.size + 1]? = some B ∧ ((w.alloc A).alloc B).heap.size = w.heap.size + 2 ∧ Below w.heap.size w ((w.alloc A).alloc B) :=
  ⟨heap_alloc2_old _ _ _, heap_alloc2_new _ _ _, by simp, bl_alloc (bl_alloc (bl_refl w) _) _⟩
theorem four_blocks (w : World) (A B C D : Obj) : ∃ V, (((w.alloc A).alloc B).alloc C).alloc D = V ∧ V.heap[w.heap.size]? = some A ∧ V.heap[w.heap.size + 1]? = some B ∧ V.heap[w.heap.size + 2]? = some C ∧ V.heap[w.heap.size + 3]? = some D ∧ V.heap.size = w.heap.size + 4 ∧ Below w.heap.size w V := by
  obtain ⟨a, b, c, d⟩ := two_blocks w A B
  obtain ⟨a', b', c', d'⟩ := two_blocks ((w.alloc A).alloc B) C D
  rw [c] at a' b' c'
  exact ⟨_, rfl, kept_alloc (kept_alloc a _) _, kept_alloc (kept_alloc b _) _, a', b', c', bl_trans d d'⟩
theorem bl_get {a b : World} (h : Below a.heap.size a b) {k : Nat} {o : Obj} (hk : a.heap[k]? = some o) : b.heap[k]? = some o := (h.block k (lt_of_get hk)).trans hk

end Go.Proofs.Ythmdibagcbbgoaa

namespace Go.Proofs.Ythmdibagcbbgoaa
open Go.RowKit

/-- Of what was there in w nothing but the blocks in F may have turned. -/
structure Fr (F : Nat → Prop) (w w' : World) : Prop where
  os : w'.os = w.os
  tape : w'.tape = w.tape
  output : w'.output = w.output
  size : w.heap.size ≤ w'.heap.size
  block : ∀ k, k < w.heap.size → ¬ F k → w'.heap[k]? = w.heap[k]?

theorem Fr.refl (F : Nat → Prop) (w : World) : Fr F w w := ⟨rfl, rfl, rfl, Nat.le_refl _, fun _ _ _ => rfl⟩
/-- One step behind the other: what the second one may turn is in the first one's footprint, or was made by then. -/
theorem Fr.trans {F G : Nat → Prop} {a b c : World} (h : Fr F a b) (k : Fr G b c) (hG : ∀ i, G i → F i ∨ a.heap.size ≤ i) : Fr F a c :=
  ⟨k.os.trans h.os, k.tape.trans h.tape, k.output.trans h.output, Nat.le_trans h.size k.size, fun i hi hn => (k.block i (Nat.lt_of_lt_of_le hi h.size) (fun hg => by rcases hG i hg with h1 | h1; exact hn h1; omega)).trans (h.block i hi hn)⟩
theorem Fr.mono {F G : Nat → Prop} {a b : World} (h : Fr F a b) (hG : ∀ i, F i → G i ∨ a.heap.size ≤ i) : Fr G a b :=
  ⟨h.os, h.tape, h.output, h.size, fun i hi hn => h.block i hi (fun hf => by rcases hG i hf with h1 | h1; exact hn h1; omega)⟩
theorem Fr.of_below {F : Nat → Prop} {a b : World} (h : Below a.heap.size a b) : Fr F a b := ⟨h.os, h.tape, h.output, h.size, fun k hk _ => h.block k hk⟩
theorem Fr.then_below {F : Nat → Prop} {a b c : World} (h : Fr F a b) (k : Below b.heap.size b c) : Fr F a c := h.trans (G := fun _ => False) (.of_below k) (fun _ h => h.elim)
theorem Fr.of_frm {ex : List Nat} {a b : World} (h : Frm ex a b) : Fr (· ∈ ex) a b := ⟨h.os, h.tape, h.output, h.size, h.block⟩
theorem Fr.below {F : Nat → Prop} {a b : World} (h : Fr F a b) (hs : ∀ k, F k → a.heap.size ≤ k) : Below a.heap.size a b :=
  ⟨h.os, h.tape, h.output, h.size, fun k hk => h.block k hk fun hm => by have := hs k hm; omega⟩
theorem bl_fr {F : Nat → Prop} {w a b : World} (h : Below w.heap.size w a) (k : Fr F a b) (hs : ∀ i, F i → w.heap.size ≤ i) : Below w.heap.size w b :=
  h.trans ⟨k.os, k.tape, k.output, k.size, fun i hi => k.block i (Nat.lt_of_lt_of_le hi h.size) fun hm => by have := hs i hm; omega⟩
theorem Fr.get {F : Nat → Prop} {a b : World} (h : Fr F a b) {k : Nat} {o : Obj} (hk : a.heap[k]? = some o) (hn : ¬ F k) : b.heap[k]? = some o := (h.block k (lt_of_get hk) hn).trans hk
theorem Fr.cell {F : Nat → Prop} {a b : World} (h : Fr F a b) {k o : Nat} {v : Value} (hk : a.cell? ⟨k, o, none⟩ = some v) (hn : ¬ F k) : b.cell? ⟨k, o, none⟩ = some v :=
  (World.cell?_of_block (a := ⟨k, o, none⟩) (h.block k (cell_lt hk) hn)).trans hk
theorem Fr.alloc {F : Nat → Prop} {a b : World} (h : Fr F a b) (o : Obj) : Fr F a (b.alloc o) := h.then_below (bl_alloc (bl_refl _) o)
theorem Fr.drew {F : Nat → Prop} {a b : World} (h : Fr F a b) : Fr F a b.drew := ⟨h.os, h.tape, h.output, h.size, h.block⟩
theorem Fr.setCell {F : Nat → Prop} {a b : World} (h : Fr F a b) {p : Addr} (hp : F p.block ∨ a.heap.size ≤ p.block) (v : Value) : Fr F a (b.setCell p v) :=
  ⟨h.os, h.tape, h.output, Nat.le_trans h.size (by simp [World.setCell]), fun k hk hn => (Below.heap_setCell _ _ _ _ (fun e => by subst e; rcases hp with hp | hp; exact hn hp; omega)).trans (h.block k hk hn)⟩
theorem Fr.setRow {F : Nat → Prop} {a b : World} (h : Fr F a b) {g : Nat} (hp : F g ∨ a.heap.size ≤ g) (cs : Array Value) : Fr F a (b.setRow g cs) :=
  ⟨h.os, h.tape, h.output, Nat.le_trans h.size (by simp), fun k hk hn => (setRow_other b g k cs (fun e => by subst e; rcases hp with hp | hp; exact hn hp; omega)).trans (h.block k hk hn)⟩
theorem Fr.grown {F : Nat → Prop} {a b c : World} {row : Option Nat} (h : Fr F a b) (hg : b.grownBy c row) (hr : ∀ k, row = some k → F k ∨ a.heap.size ≤ k) : Fr F a c :=
  ⟨hg.os.trans h.os, hg.tape.trans h.tape, hg.output.trans h.output, Nat.le_trans h.size hg.size, fun k hk hn =>
    (hg.block k (Nat.lt_of_lt_of_le hk h.size) (fun e => by rcases hr k e.symm with h | h; exact hn h; omega)).trans (h.block k hk hn)⟩

theorem fr_cell (w : World) (g i : Nat) (v : Value) : Fr (fun j => j = g) w (w.setCell ⟨g, i, none⟩ v) := (Fr.refl (fun j => j = g) _).setCell (p := ⟨g, i, none⟩) (.inl rfl) _
theorem fr_row (w : World) (g : Nat) (cs : Array Value) : Fr (fun j => j = g) w (w.setRow g cs) := (Fr.refl (fun j => j = g) _).setRow (.inl rfl) _

/-- The slice v reads as xs, and its block lies in F. -/
def Rd {α : Type} (F : Nat → Prop) (f : α → Value) (w : World) (v : Value) (xs : List α) : Prop := Reads f w v xs ∧ ∀ k, v.ownBlock = some k → F k
theorem Rd.fr {α : Type} {F G : Nat → Prop} {f : α → Value} {w w' : World} {v : Value} {xs : List α} (h : Rd F f w v xs) (hf : Fr G w w') (hd : ∀ k, F k → ¬ G k) : Rd F f w' v xs := by
  refine ⟨?_, h.2⟩
  obtain ⟨⟨hm, ao, cap, rfl, hnil, hc⟩, hF⟩ := h
  refine ⟨hm, ao, cap, rfl, hnil, fun i x hx => ?_⟩
  obtain ⟨k, o, rfl, hcell⟩ := hc i x hx
  exact ⟨k, o, rfl, hf.cell hcell (hd k (hF k rfl))⟩
theorem Rd.mono {α : Type} {F G : Nat → Prop} {f : α → Value} {w : World} {v : Value} {xs : List α} (h : Rd F f w v xs) (hs : ∀ k, F k → G k) : Rd G f w v xs := ⟨h.1, fun k hk => hs k (h.2 k hk)⟩
theorem Rd.below {α : Type} {F : Nat → Prop} {f : α → Value} {w w' : World} {v : Value} {xs : List α} (h : Rd F f w v xs) (hb : Below w.heap.size w w') : Rd F f w' v xs := ⟨h.1.below hb, h.2⟩
theorem Rd.of_owns {α : Type} {f : α → Value} {w : World} {base : Nat} {e : TypeId} {v : Value} {xs : List α} (h : w.ownsRow base e 1 v xs.length (xs.map f)) (hm : xs.length ≤ maxLen) : Rd (fun k => base ≤ k ∧ k < w.heap.size) f w v xs :=
  ⟨Reads.of_owns h hm, fun k hk => h.lt k hk⟩

/-- Bytes in a footprint. -/
def Byt (F : Nat → Prop) (w : World) (v : Value) (p : List Int) : Prop := Rd F (Value.int .u8) w v p ∧ ∀ n ∈ p, (Lit.int .u8 n).wf = true
theorem Byt.fr {F G : Nat → Prop} {w w' : World} {v : Value} {p : List Int} (h : Byt F w v p) (hf : Fr G w w') (hd : ∀ k, F k → ¬ G k) : Byt F w' v p := ⟨h.1.fr hf hd, h.2⟩
theorem Byt.mono {F G : Nat → Prop} {w : World} {v : Value} {p : List Int} (h : Byt F w v p) (hs : ∀ k, F k → G k) : Byt G w v p := ⟨h.1.mono hs, h.2⟩
theorem Byt.below {F : Nat → Prop} {w w' : World} {v : Value} {p : List Int} (h : Byt F w v p) (hb : Below w.heap.size w w') : Byt F w' v p := ⟨h.1.below hb, h.2⟩

/-- A slice of slices of bytes in a footprint reads as a list of lists. -/
def Pays (F : Nat → Prop) (w : World) (v : Value) (ps : List (List Int)) : Prop :=
  ∃ vs : List Value, vs.length = ps.length ∧ Rd F id w v vs ∧ ∀ (i : Nat) (x : Value) (p : List Int), vs[i]? = some x → ps[i]? = some p → Byt F w x p
theorem Pays.fr {F G : Nat → Prop} {w w' : World} {v : Value} {ps : List (List Int)} (h : Pays F w v ps) (hf : Fr G w w') (hd : ∀ k, F k → ¬ G k) : Pays F w' v ps := by
  obtain ⟨vs, h1, h2, h3⟩ := h
  exact ⟨vs, h1, h2.fr hf hd, fun i x p hx hp => (h3 i x p hx hp).fr hf hd⟩
theorem Pays.mono {F G : Nat → Prop} {w : World} {v : Value} {ps : List (List Int)} (h : Pays F w v ps) (hs : ∀ k, F k → G k) : Pays G w v ps := by
  obtain ⟨vs, h1, h2, h3⟩ := h
  exact ⟨vs, h1, h2.mono hs, fun i x p hx hp => (h3 i x p hx hp).mono hs⟩
theorem Pays.below {F : Nat → Prop} {w w' : World} {v : Value} {ps : List (List Int)} (h : Pays F w v ps) (hb : Below w.heap.size w w') : Pays F w' v ps := by
  obtain ⟨vs, h1, h2, h3⟩ := h
  exact ⟨vs, h1, h2.below hb, fun i x p hx hp => (h3 i x p hx hp).below hb⟩
theorem Pays.nil (F : Nat → Prop) (w : World) : Pays F w (.slice none 0 0) [] := ⟨[], rfl, ⟨Reads.nil _ _, fun k hk => by simp [Value.ownBlock] at hk⟩, fun i x p hx => by simp at hx⟩
theorem Pays.form {F : Nat → Prop} {w : World} {v : Value} {ps : List (List Int)} (h : Pays F w v ps) : ∃ ao cap, v = .slice ao ps.length cap ∧ ps.length ≤ cap ∧ ps.length ≤ maxLen := by
  obtain ⟨vs, h1, ⟨⟨hm, ao, cap, rfl, ⟨hc, _⟩, _⟩, _⟩, _⟩ := h
  exact ⟨ao, cap, by rw [h1], by omega, by omega⟩
/-- An element of it: its cell, and that it reads. -/
theorem Pays.at_ {F : Nat → Prop} {w : World} {ao : Option Addr} {n cap : Nat} {ps : List (List Int)} (h : Pays F w (.slice ao n cap) ps) {i : Nat} {p : List Int} (hp : ps[i]? = some p) :
    ∃ b o x, ao = some ⟨b, o, none⟩ ∧ F b ∧ w.cell? ⟨b, o + i, none⟩ = some x ∧ Byt F w x p := by
  obtain ⟨vs, h1, ⟨⟨hm, ao', cap', hv, _, hc⟩, hF⟩, h3⟩ := h
  cases hv
  have hi : i < ps.length := (List.getElem?_eq_some_iff.1 hp).1
  obtain ⟨x, hx⟩ := get_some (xs := vs) (k := i) (by omega)
  obtain ⟨b, o, rfl, hcell⟩ := hc i x hx
  exact ⟨b, o, x, rfl, hF b rfl, hcell, h3 i x p hx hp⟩

end Go.Proofs.Ythmdibagcbbgoaa

namespace Go.Proofs.Ythmdibagcbbgoaa
open Go.RowKit

theorem run_append_full {P : Program} (w : World) (t ty e : TypeId) (i : TypeInfo) (z : Value) (bytes : Nat) (ht : P.underlying t = some (.slice e)) (hi : P.info? e = some i) (hz : i.zero = some z)
    (hsize : i.size = 1) (hby : i.bytes = bytes) (hzs : z.cells.size = 1)
    (ao : Option Addr) (n : Nat) (vs : List Value) (hr : Reads id w (.slice ao n n) vs)
    (a : Addr) (m c : Nat) (news : List Value) (hl : news.length = m) (hm0 : 0 < m) (hnews : ∀ j u, news[j]? = some u → w.cell? (a.add j) = some u) (h1 : ∀ u ∈ news, u.oneCell' = true)
    (h63 : n + m ≤ maxLen) (hbytes : (n + m) * bytes ≤ 140737488355328) :
    ∃ v' w', (Builtin.append_ #[t, t] ty #[.slice ao n n, .slice (some a) m c]).run P w = .ok v' w' ∧ w'.ownsRow w.heap.size e 1 v' (n + m) (vs ++ news) ∧ Below w.heap.size w w' := by
  have hsmall : n + m ≤ 9223372036854775807 := by simp only [maxLen] at h63; omega
  obtain ⟨hm, ao', cap, hv, ⟨hc1, hc2⟩, hc⟩ := hr
  cases hv
  cases ao with
  | none =>
    have h0 := hc2 rfl
    have hvs : vs = [] := List.eq_nil_of_length_eq_zero h0
    subst hvs
    obtain ⟨v', w', r1, r2, r3, _⟩ := run_append_own (P := P) w w.heap.size t ty e i z 1 bytes ht hi hz hsize hby hzs (by decide) (.slice none 0 0) 0 [] (World.ownsRow_nil _ _ _ _) a m c news (by omega) hnews h1 (by simpa using h63) (by simpa using hbytes) (Nat.le_refl _)
    exact ⟨v', w', r1, by simpa using r2, bl_grown (bl_refl w) r3 (by simp [Value.ownBlock])⟩
  | some b =>
    have holds : ∀ j u, vs[j]? = some u → w.cell? (b.add j) = some u := by
      intro j u hu
      obtain ⟨k, o, ha, hcell⟩ := hc j u hu
      cases ha
      rw [Addr.add_lit]; exact hcell
    have q1 := run_append_grow (P := P) w t ty e i z ht hi hz b vs.length vs.length vs (by rw [hsize]; omega) holds a m c news (by rw [hsize]; omega) hnews (by omega) (by omega) (growslice_fits (by omega) (by rw [hby]; exact hbytes))
    refine ⟨_, _, q1, ⟨by simp; omega, .inr ⟨w.heap.size, _, _, rfl, Nat.le_refl _, heap_alloc_new w.drew _, grownCap_ge w _ _ e, grownCap_le_maxLen w _ _ e h63, ?_, ?_⟩⟩, bl_alloc (bl_drew (bl_refl w)) _⟩
    · have hge := grownCap_ge w (vs.length + m) vs.length e
      simp only [Array.size_append, List.size_toArray, size_zeroCells, hzs, hl]
      omega
    · simp only [Array.toList_append, List.append_assoc]
      rw [← List.append_assoc, show (vs.length + m) * 1 = (vs ++ news).length by simp; omega]
      exact List.take_left

theorem wpList_append_full {P : Program} (w : World) {ops : Array Oper} {rest : List Oper} {o : Oper} {a : Act} {Q : Exit → Act → World → Prop} (hgd : o.guard = none) (s x : Operand) (t : TypeId)
    (ho : o.op = .call { callee := .builtin .append, args := #[s, x], argTypes := #[t, t] })
    (e : TypeId) (i : TypeInfo) (z : Value) (bytes : Nat) (ht : P.underlying t = some (.slice e)) (hi : P.info? e = some i) (hz : i.zero = some z)
    (hsize : i.size = 1) (hby : i.bytes = bytes) (hzs : z.cells.size = 1)
    (ao : Option Addr) (n : Nat) (vs : List Value) (hs : a.eval s = .slice ao n n) (hr : Reads id w (.slice ao n n) vs)
    (ad : Addr) (m c : Nat) (news : List Value) (hx : a.eval x = .slice (some ad) m c) (hl : news.length = m) (hm0 : 0 < m) (hnews : ∀ j u, news[j]? = some u → w.cell? (ad.add j) = some u) (h1 : ∀ u ∈ news, u.oneCell' = true)
    (h63 : n + m ≤ maxLen) (hbytes : (n + m) * bytes ≤ 140737488355328)
    (h : ∀ v' w', w'.ownsRow w.heap.size e 1 v' (n + m) (vs ++ news) → Below w.heap.size w w' → wpList P ops Q rest (a.put o.dst v') w') : wpList P ops Q (o :: rest) a w := by
  refine wpList_plain hgd fun K hK => ?_
  obtain ⟨v', w', hrun, h2, h3⟩ := run_append_full (P := P) w t o.type e i z bytes ht hi hz hsize hby hzs ao n vs hr ad m c news hl hm0 hnews h1 h63 hbytes
  unfold Oper.wp execOp
  simp only [ho, resolve, invoke, builtin, Sem.run_bind, Sem.run_pure, Result.andThen_ok, List.map_toArray, List.map_cons, List.map_nil, hs, hx, hrun]
  exact hK _ _ (h v' w' h2 h3)

end Go.Proofs.Ythmdibagcbbgoaa
