/- The frame of a call that may write into blocks of a footprint; slices that read as lists inside a footprint. No program in sight. Conditions: none. -/
import Derived.Test.YtagbaoakablfpaaFrm
namespace Go.Proofs.Ytagbaoakablfpaa
open Go.RowKit

/-- Of what was there in w nothing but the blocks in F may have turned. -/
structure Fr (F : Nat → Prop) (w w' : World) : Prop where
  os : w'.os = w.os
  tape : w'.tape = w.tape
  output : w'.output = w.output
  size : w.heap.size ≤ w'.heap.size
  block : ∀ k, k < w.heap.size → ¬ F k → w'.heap[k]? = w.heap[k]?

theorem Fr.refl (F : Nat → Prop) (w : World) : Fr F w w := ⟨rfl, rfl, rfl, Nat.le_refl _, fun _ _ _ => rfl⟩
/-- One step behind the other: what the second one may turn is in the first one's footprint, or was made by then. -/
theorem Fr.trans {F G : Nat → Prop} {a b c : World} (h : Fr F a b) (k : Fr G b c) (hG : ∀ i, G i → F i ∨ a.heap.size ≤ i) : Fr F a c :=
  ⟨k.os.trans h.os, k.tape.trans h.tape, k.output.trans h.output, Nat.le_trans h.size k.size, fun i hi hn => (k.block i (Nat.lt_of_lt_of_le hi h.size) (fun hg => by rcases hG i hg with h1 | h1; exact hn h1; omega)).trans (h.block i hi hn)⟩
theorem Fr.mono {F G : Nat → Prop} {a b : World} (h : Fr F a b) (hG : ∀ i, F i → G i ∨ a.heap.size ≤ i) : Fr G a b :=
  ⟨h.os, h.tape, h.output, h.size, fun i hi hn => h.block i hi (fun hf => by rcases hG i hf with h1 | h1; exact hn h1; omega)⟩
theorem Fr.of_below {F : Nat → Prop} {a b : World} (h : Below a.heap.size a b) : Fr F a b := ⟨h.os, h.tape, h.output, h.size, fun k hk _ => h.block k hk⟩
theorem Fr.then_below {F : Nat → Prop} {a b c : World} (h : Fr F a b) (k : Below b.heap.size b c) : Fr F a c := h.trans (G := fun _ => False) (.of_below k) (fun _ h => h.elim)
theorem Fr.of_frm {ex : List Nat} {a b : World} (h : Frm ex a b) : Fr (· ∈ ex) a b := ⟨h.os, h.tape, h.output, h.size, h.block⟩
theorem Fr.below {F : Nat → Prop} {a b : World} (h : Fr F a b) (hs : ∀ k, F k → a.heap.size ≤ k) : Below a.heap.size a b :=
  ⟨h.os, h.tape, h.output, h.size, fun k hk => h.block k hk fun hm => by have := hs k hm; omega⟩
theorem bl_fr {F : Nat → Prop} {w a b : World} (h : Below w.heap.size w a) (k : Fr F a b) (hs : ∀ i, F i → w.heap.size ≤ i) : Below w.heap.size w b :=
  h.trans ⟨k.os, k.tape, k.output, k.size, fun i hi => k.block i (Nat.lt_of_lt_of_le hi h.size) fun hm => by have := hs i hm; omega⟩
theorem Fr.get {F : Nat → Prop} {a b : World} (h : Fr F a b) {k : Nat} {o : Obj} (hk : a.heap[k]? = some o) (hn : ¬ F k) : b.heap[k]? = some o := (h.block k (lt_of_get hk) hn).trans hk
theorem Fr.cell {F : Nat → Prop} {a b : World} (h : Fr F a b) {k o : Nat} {v : Value} (hk : a.cell? ⟨k, o, none⟩ = some v) (hn : ¬ F k) : b.cell? ⟨k, o, none⟩ = some v :=
  (World.cell?_of_block (a := ⟨k, o, none⟩) (h.block k (cell_lt hk) hn)).trans hk
theorem Fr.alloc {F : Nat → Prop} {a b : World} (h : Fr F a b) (o : Obj) : Fr F a (b.alloc o) := h.then_below (bl_alloc (bl_refl _) o)
theorem Fr.drew {F : Nat → Prop} {a b : World} (h : Fr F a b) : Fr F a b.drew := ⟨h.os, h.tape, h.output, h.size, h.block⟩
theorem Fr.setCell {F : Nat → Prop} {a b : World} (h : Fr F a b) {p : Addr} (hp : F p.block ∨ a.heap.size ≤ p.block) (v : Value) : Fr F a (b.setCell p v) :=
  ⟨h.os, h.tape, h.output, Nat.le_trans h.size (by simp [World.setCell]), fun k hk hn => (Below.heap_setCell _ _ _ _ (fun e => by subst e; rcases hp with hp | hp; exact hn hp; omega)).trans (h.block k hk hn)⟩
theorem Fr.setRow {F : Nat → Prop} {a b : World} (h : Fr F a b) {g : Nat} (hp : F g ∨ a.heap.size ≤ g) (cs : Array Value) : Fr F a (b.setRow g cs) :=
  ⟨h.os, h.tape, h.output, Nat.le_trans h.size (by simp), fun k hk hn => (setRow_other b g k cs (fun e => by subst e; rcases hp with hp | hp; exact hn hp; omega)).trans (h.block k hk hn)⟩
theorem Fr.grown {F : Nat → Prop} {a b c : World} {row : Option Nat} (h : Fr F a b) (hg : b.grownBy c row) (hr : ∀ k, row = some k → F k ∨ a.heap.size ≤ k) : Fr F a c :=
  ⟨hg.os.trans h.os, hg.tape.trans h.tape, hg.output.trans h.output, Nat.le_trans h.size hg.size, fun k hk hn =>
    (hg.block k (Nat.lt_of_lt_of_le hk h.size) (fun e => by rcases hr k e.symm with h | h; exact hn h; omega)).trans (h.block k hk hn)⟩

theorem fr_cell (w : World) (g i : Nat) (v : Value) : Fr (fun j => j = g) w (w.setCell ⟨g, i, none⟩ v) := (Fr.refl (fun j => j = g) _).setCell (p := ⟨g, i, none⟩) (.inl rfl) _
theorem fr_row (w : World) (g : Nat) (cs : Array Value) : Fr (fun j => j = g) w (w.setRow g cs) := (Fr.refl (fun j => j = g) _).setRow (.inl rfl) _

/-- The slice v reads as xs, and its block lies in F. -/
def Rd {α : Type} (F : Nat → Prop) (f : α → Value) (w : World) (v : Value) (xs : List α) : Prop := Reads f w v xs ∧ ∀ k, v.ownBlock = some k → F k
theorem Rd.fr {α : Type} {F G : Nat → Prop} {f : α → Value} {w w' : World} {v : Value} {xs : List α} (h : Rd F f w v xs) (hf : Fr G w w') (hd : ∀ k, F k → ¬ G k) : Rd F f w' v xs := by
  refine ⟨?_, h.2⟩
  obtain ⟨⟨hm, ao, cap, rfl, hnil, hc⟩, hF⟩ := h
  refine ⟨hm, ao, cap, rfl, hnil, fun i x hx => ?_⟩
  obtain ⟨k, o, rfl, hcell⟩ := hc i x hx
  exact ⟨k, o, rfl, hf.cell hcell (hd k (hF k rfl))⟩
theorem Rd.mono {α : Type} {F G : Nat → Prop} {f : α → Value} {w : World} {v : Value} {xs : List α} (h : Rd F f w v xs) (hs : ∀ k, F k → G k) : Rd G f w v xs := ⟨h.1, fun k hk => hs k (h.2 k hk)⟩
theorem Rd.below {α : Type} {F : Nat → Prop} {f : α → Value} {w w' : World} {v : Value} {xs : List α} (h : Rd F f w v xs) (hb : Below w.heap.size w w') : Rd F f w' v xs := ⟨h.1.below hb, h.2⟩
theorem Rd.of_owns {α : Type} {f : α → Value} {w : World} {base : Nat} {e : TypeId} {v : Value} {xs : List α} (h : w.ownsRow base e 1 v xs.length (xs.map f)) (hm : xs.length ≤ maxLen) : Rd (fun k => base ≤ k ∧ k < w.heap.size) f w v xs :=
  ⟨Reads.of_owns h hm, fun k hk => h.lt k hk⟩

/-- Bytes in a footprint. -/
def Byt (F : Nat → Prop) (w : World) (v : Value) (p : List Int) : Prop := Rd F (Value.int .u8) w v p ∧ ∀ n ∈ p, (Lit.int .u8 n).wf = true
theorem Byt.fr {F G : Nat → Prop} {w w' : World} {v : Value} {p : List Int} (h : Byt F w v p) (hf : Fr G w w') (hd : ∀ k, F k → ¬ G k) : Byt F w' v p := ⟨h.1.fr hf hd, h.2⟩
theorem Byt.mono {F G : Nat → Prop} {w : World} {v : Value} {p : List Int} (h : Byt F w v p) (hs : ∀ k, F k → G k) : Byt G w v p := ⟨h.1.mono hs, h.2⟩
theorem Byt.below {F : Nat → Prop} {w w' : World} {v : Value} {p : List Int} (h : Byt F w v p) (hb : Below w.heap.size w w') : Byt F w' v p := ⟨h.1.below hb, h.2⟩

/-- A slice of slices of bytes in a footprint reads as a list of lists. -/
def Pays (F : Nat → Prop) (w : World) (v : Value) (ps : List (List Int)) : Prop :=
  ∃ vs : List Value, vs.length = ps.length ∧ Rd F id w v vs ∧ ∀ (i : Nat) (x : Value) (p : List Int), vs[i]? = some x → ps[i]? = some p → Byt F w x p
theorem Pays.fr {F G : Nat → Prop} {w w' : World} {v : Value} {ps : List (List Int)} (h : Pays F w v ps) (hf : Fr G w w') (hd : ∀ k, F k → ¬ G k) : Pays F w' v ps := by
  obtain ⟨vs, h1, h2, h3⟩ := h
  exact ⟨vs, h1, h2.fr hf hd, fun i x p hx hp => (h3 i x p hx hp).fr hf hd⟩
theorem Pays.mono {F G : Nat → Prop} {w : World} {v : Value} {ps : List (List Int)} (h : Pays F w v ps) (hs : ∀ k, F k → G k) : Pays G w v ps := by
  obtain ⟨vs, h1, h2, h3⟩ := h
  exact ⟨vs, h1, h2.mono hs, fun i x p hx hp => (h3 i x p hx hp).mono hs⟩
theorem Pays.below {F : Nat → Prop} {w w' : World} {v : Value} {ps : List (List Int)} (h : Pays F w v ps) (hb : Below w.heap.size w w') : Pays F w' v ps := by
  obtain ⟨vs, h1, h2, h3⟩ := h
  exact ⟨vs, h1, h2.below hb, fun i x p hx hp => (h3 i x p hx hp).below hb⟩
theorem Pays.nil (F : Nat → Prop) (w : World) : Pays F w (.slice none 0 0) [] := ⟨[], rfl, ⟨Reads.nil _ _, fun k hk => by simp [Value.ownBlock] at hk⟩, fun i x p hx => by simp at hx⟩
theorem Pays.form {F : Nat → Prop} {w : World} {v : Value} {ps : List (List Int)} (h : Pays F w v ps) : ∃ ao cap, v = .slice ao ps.length cap ∧ ps.length ≤ cap ∧ ps.length ≤ maxLen := by
  obtain ⟨vs, h1, ⟨⟨hm, ao, cap, rfl, ⟨hc, _⟩, _⟩, _⟩, _⟩ := h
  exact ⟨ao, cap, by rw [h1], by omega, by omega⟩
/-- An element of it: its cell, and that it reads. -/
theorem Pays.at_ {F : Nat → Prop} {w : World} {ao : Option Addr} {n cap : Nat} {ps : List (List Int)} (h : Pays F w (.slice ao n cap) ps) {i : Nat} {p : List Int} (hp : ps[i]? = some p) :
    ∃ b o x, ao = some ⟨b, o, none⟩ ∧ F b ∧ w.cell? ⟨b, o + i, none⟩ = some x ∧ Byt F w x p := by
  obtain ⟨vs, h1, ⟨⟨hm, ao', cap', hv, _, hc⟩, hF⟩, h3⟩ := h
  cases hv
  have hi : i < ps.length := (List.getElem?_eq_some_iff.1 hp).1
  obtain ⟨x, hx⟩ := get_some (xs := vs) (k := i) (by omega)
  obtain ⟨b, o, rfl, hcell⟩ := hc i x hx
  exact ⟨b, o, x, rfl, hF b rfl, hcell, h3 i x p hx hp⟩

end Go.Proofs.Ytagbaoakablfpaa
