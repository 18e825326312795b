/- All blocks that were there but some few are as they were: the frame of a call that writes. No program in sight. Conditions: none. -/
import Derived.RangeFuncNested
import Derived.Test.YtagbaoakablfpaaApp
namespace Go.Proofs.Ytagbaoakablfpaa
open Go.RowKit

/-- Of what was there in w nothing but the blocks in ex may have turned. -/
structure Frm (ex : List Nat) (w w' : World) : Prop where
  os : w'.os = w.os
  tape : w'.tape = w.tape
  output : w'.output = w.output
  size : w.heap.size ≤ w'.heap.size
  block : ∀ k, k < w.heap.size → k ∉ ex → w'.heap[k]? = w.heap[k]?

theorem Frm.refl (ex : List Nat) (w : World) : Frm ex w w := ⟨rfl, rfl, rfl, Nat.le_refl _, fun _ _ _ => rfl⟩
theorem Frm.trans {ex : List Nat} {a b c : World} (h : Frm ex a b) (k : Frm ex b c) : Frm ex a c :=
  ⟨k.os.trans h.os, k.tape.trans h.tape, k.output.trans h.output, Nat.le_trans h.size k.size, fun i hi hn => (k.block i (Nat.lt_of_lt_of_le hi h.size) hn).trans (h.block i hi hn)⟩
theorem Frm.mono {ex ex' : List Nat} {a b : World} (h : Frm ex a b) (hs : ∀ k ∈ ex, k ∈ ex' ∨ a.heap.size ≤ k) : Frm ex' a b :=
  ⟨h.os, h.tape, h.output, h.size, fun i hi hn => h.block i hi fun hm => by rcases hs i hm with h | h; exact hn h; omega⟩
theorem Frm.of_below {ex : List Nat} {a b : World} (h : Below a.heap.size a b) : Frm ex a b := ⟨h.os, h.tape, h.output, h.size, fun k hk _ => h.block k hk⟩
theorem Frm.then_below {ex : List Nat} {a b c : World} (h : Frm ex a b) (k : Below b.heap.size b c) : Frm ex a c := h.trans (.of_below k)
theorem Frm.below {ex : List Nat} {a b : World} (h : Frm ex a b) (hs : ∀ k ∈ ex, a.heap.size ≤ k) : Below a.heap.size a b :=
  ⟨h.os, h.tape, h.output, h.size, fun k hk => h.block k hk fun hm => by have := hs k hm; omega⟩
/-- Blocks that were made behind w do not count for w. -/
theorem bl_frm {w a b : World} {ex : List Nat} (h : Below w.heap.size w a) (k : Frm ex a b) (hs : ∀ i ∈ ex, w.heap.size ≤ i) : Below w.heap.size w b :=
  h.trans ⟨k.os, k.tape, k.output, k.size, fun i hi => k.block i (Nat.lt_of_lt_of_le hi h.size) fun hm => by have := hs i hm; omega⟩
theorem Frm.get {ex : List Nat} {a b : World} (h : Frm ex a b) {k : Nat} {o : Obj} (hk : a.heap[k]? = some o) (hn : k ∉ ex) : b.heap[k]? = some o := (h.block k (lt_of_get hk) hn).trans hk
theorem Frm.cell {ex : List Nat} {a b : World} (h : Frm ex a b) {k o : Nat} {v : Value} (hk : a.cell? ⟨k, o, none⟩ = some v) (hn : k ∉ ex) : b.cell? ⟨k, o, none⟩ = some v :=
  (World.cell?_of_block (a := ⟨k, o, none⟩) (h.block k (cell_lt hk) hn)).trans hk
theorem Frm.alloc {ex : List Nat} {a b : World} (h : Frm ex a b) (o : Obj) : Frm ex a (b.alloc o) := h.then_below (bl_alloc (bl_refl _) o)
theorem Frm.setCell {ex : List Nat} {a b : World} (h : Frm ex a b) {p : Addr} (hp : p.block ∈ ex) (v : Value) : Frm ex a (b.setCell p v) :=
  h.trans ⟨rfl, rfl, rfl, by simp [World.setCell], fun k _ hn => Below.heap_setCell _ _ _ _ (fun e => hn (by rw [e]; exact hp))⟩
theorem Frm.setCell' {ex : List Nat} {a b : World} (h : Frm ex a b) {p : Addr} (hp : a.heap.size ≤ p.block) (v : Value) : Frm ex a (b.setCell p v) :=
  ⟨h.os, h.tape, h.output, Nat.le_trans h.size (by simp [World.setCell]), fun k hk hn => (Below.heap_setCell _ _ _ _ (by omega)).trans (h.block k hk hn)⟩
theorem Frm.grown {ex : List Nat} {a b c : World} {row : Option Nat} (h : Frm ex a b) (hg : b.grownBy c row) (hr : ∀ k, row = some k → k ∈ ex ∨ a.heap.size ≤ k) : Frm ex a c :=
  ⟨hg.os.trans h.os, hg.tape.trans h.tape, hg.output.trans h.output, Nat.le_trans h.size hg.size, fun k hk hn =>
    (hg.block k (Nat.lt_of_lt_of_le hk h.size) (fun e => by rcases hr k e.symm with h | h; exact hn h; omega)).trans (h.block k hk hn)⟩
theorem Frm.reads {ex : List Nat} {a b : World} (h : Frm ex a b) {α : Type} {f : α → Value} {v : Value} {xs : List α} (hr : Reads f a v xs) (hn : v.ownBlock = none ∨ ∃ k, v.ownBlock = some k ∧ k ∉ ex) : Reads f b v xs := by
  obtain ⟨hm, ao, cap, rfl, hnil, hc⟩ := hr
  refine ⟨hm, ao, cap, rfl, hnil, fun i x hx => ?_⟩
  obtain ⟨k, o, rfl, hcell⟩ := hc i x hx
  refine ⟨k, o, rfl, h.cell hcell ?_⟩
  rcases hn with hn | ⟨k', hk', hn⟩
  · simp [Value.ownBlock] at hn
  · simp [Value.ownBlock] at hk'; rw [hk']; exact hn

theorem ownFrom_frm {β : Type} {B : Nat} {ex : List Nat} {w0 : World} (hB : w0.heap.size ≤ B) : OwnFrom B (fun (_ : β) W => Frm ex w0 W) :=
  fun _ _ _ _ hs hg hr => hs.grown hg fun k hk => .inr (Nat.le_trans hB (hr k hk).1)
theorem frm_put {ex : List Nat} {a b : World} (h : Frm ex a b) {l : Nat} {o : Obj} (o' : Obj) (hl : a.heap.size ≤ l) (_ : b.heap[l]? = some o) : Frm ex a (b.putObj l o') :=
  ⟨h.os, h.tape, h.output, by simpa using h.size, fun k hk hn => (World.putObj_heap_other (by omega)).trans (h.block k hk hn)⟩
theorem Frm.drew {ex : List Nat} {a b : World} (h : Frm ex a b) : Frm ex a b.drew := ⟨h.os, h.tape, h.output, h.size, h.block⟩

theorem two_blocks (w : World) (A B : Obj) : ((w.alloc A).alloc B).heap[w.heap.size]? = some A ∧ ((w.alloc A).alloc B).heap[w.heap.size + 1]? = some B ∧ ((w.alloc A).alloc B).heap.size = w.heap.size + 2 ∧ Below w.heap.size w ((w.alloc A).alloc B) :=
  ⟨heap_alloc2_old _ _ _, heap_alloc2_new _ _ _, by simp, bl_alloc (bl_alloc (bl_refl w) _) _⟩
theorem four_blocks (w : World) (A B C D : Obj) : ∃ V, (((w.alloc A).alloc B).alloc C).alloc D = V ∧ V.heap[w.heap.size]? = some A ∧ V.heap[w.heap.size + 1]? = some B ∧ V.heap[w.heap.size + 2]? = some C ∧ V.heap[w.heap.size + 3]? = some D ∧ V.heap.size = w.heap.size + 4 ∧ Below w.heap.size w V := by
  obtain ⟨a, b, c, d⟩ := two_blocks w A B
  obtain ⟨a', b', c', d'⟩ := two_blocks ((w.alloc A).alloc B) C D
  rw [c] at a' b' c'
  exact ⟨_, rfl, kept_alloc (kept_alloc a _) _, kept_alloc (kept_alloc b _) _, a', b', c', bl_trans d d'⟩
theorem bl_get {a b : World} (h : Below a.heap.size a b) {k : Nat} {o : Obj} (hk : a.heap[k]? = some o) : b.heap[k]? = some o := (h.block k (lt_of_get hk)).trans hk

end Go.Proofs.Ytagbaoakablfpaa
