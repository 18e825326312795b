/- A receiver: what it is in memory; recv.New, Reset, Waits, Forget. Conditions: as they stand. -/
import Derived.WalkKit
import Derived.Lib.Hide
import Derived.Handy
import Derived.Test.YtagbaoakablfpaaMap
import Derived.Test.YtagbaoakablfpaaFr
import Derived.Test.YtagbaoakablfpaaProg
namespace Go.Proofs.Ytagbaoakablfpaa
open Go.RowKit

/-- A receiver: its size, the number it waits for, what it keeps, what it asked for and how often. -/
structure Rcv where
  size : Nat
  waits : Nat
  kept : List (Int × List Int)
  asked : List (Int × Int)

theorem rc_cells {W : World} {g : Nat} {a b c d : Value} {t : TypeId} (hb : W.heap[g]? = some (.cells #[a, b, c, d] t (0, 0))) :
    W.cell? ⟨g, 0, none⟩ = some a ∧ W.cell? ⟨g, 1, none⟩ = some b ∧ W.cell? ⟨g, 2, none⟩ = some c ∧ W.cell? ⟨g, 3, none⟩ = some d := by
  refine ⟨?_, ?_, ?_, ?_⟩ <;> (rw [cell_of_row _ _ _ _ _ _ hb]; rfl)
theorem rc_frozen {W : World} {g j : Nat} {cs : Array Value} {t : TypeId} (h : W.heap[g]? = some (.cells cs t (0, 0))) : W.frozen? ⟨g, j, none⟩ = false := by
  simp [World.frozen?, h]
theorem rc_set (W : World) (g j : Nat) (cs : Array Value) (t : TypeId) (v : Value) (h : W.heap[g]? = some (.cells cs t (0, 0))) : (W.setCell ⟨g, j, none⟩ v).heap[g]? = some (.cells (cs.setIfInBounds j v) t (0, 0)) := by
  simp [World.setCell, Array.getElem?_modify, h]

theorem rcset_fr (W : World) (g : Nat) (x y z : Value) : Fr (fun k => k = g) W (((W.setCell ⟨g, 1, none⟩ x).setCell ⟨g, 2, none⟩ y).setCell ⟨g, 3, none⟩ z) :=
  ((fr_cell W g 1 x).trans (fr_cell _ g 2 y) (fun _ h => .inl h)).trans (fr_cell _ g 3 z) (fun _ h => .inl h)

theorem MapIs.fr {F : Nat → Prop} {w w' : World} {b : Nat} {f : List (Int × Value)} (h : MapIs w b f) (hf : Fr F w w') (hn : ¬ F b) : MapIs w' b f := by
  obtain ⟨es, c, hb, he⟩ := h
  exact ⟨es, c, hf.get hb hn, he⟩
theorem MapIs.below {w w' : World} {b : Nat} {f : List (Int × Value)} (h : MapIs w b f) (hb : Below w.heap.size w w') : MapIs w' b f := by
  obtain ⟨es, c, h1, he⟩ := h
  exact ⟨es, c, bl_get hb h1, he⟩
theorem MapIs.made (w : World) : MapIs (w.alloc (.map #[] 0)) w.heap.size [] := ⟨#[], 0, heap_alloc_new _ _, ⟨rfl, by simp, by simp, fun e he => by simp at he⟩⟩

def cnts (l : List (Int × Int)) : List (Int × Value) := l.map fun x => (x.1, .int .i64 x.2)
/-- The receiver at a, its two maps at mb and ab: what it turns lies in C, the payloads that it keeps in D. -/
structure RcP (C D : Nat → Prop) (w : World) (a mb ab : Nat) (fk : List (Int × Value)) (r : Rcv) : Prop where
  ca : C a
  cm : C mb
  cb : C ab
  ne : mb ≠ ab
  hb : w.heap[a]? = some (.cells #[.int .i64 r.size, .int .i64 r.waits, .map (some mb), .map (some ab)] 57 (0, 0))
  hM : MapIs w mb fk
  hA : MapIs w ab (cnts r.asked)
  keys : fk.map (·.1) = r.kept.map (·.1)
  rows : ∀ (i : Nat) (x : Int × Value) (p : Int × List Int), fk[i]? = some x → r.kept[i]? = some p → Byt D w x.2 p.2
  dis : ∀ k, D k → ¬ C k
theorem RcP.fr {C D G : Nat → Prop} {w w' : World} {a mb ab : Nat} {fk : List (Int × Value)} {r : Rcv} (h : RcP C D w a mb ab fk r) (hf : Fr G w w') (hd : ∀ k, C k ∨ D k → ¬ G k) : RcP C D w' a mb ab fk r :=
  ⟨h.ca, h.cm, h.cb, h.ne, hf.get h.hb (hd _ (.inl h.ca)), h.hM.fr hf (hd _ (.inl h.cm)), h.hA.fr hf (hd _ (.inl h.cb)), h.keys, fun i x p hx hp => (h.rows i x p hx hp).fr hf fun k hk => hd k (.inr hk), h.dis⟩
theorem RcP.below {C D : Nat → Prop} {w w' : World} {a mb ab : Nat} {fk : List (Int × Value)} {r : Rcv} (h : RcP C D w a mb ab fk r) (hb : Below w.heap.size w w') : RcP C D w' a mb ab fk r :=
  ⟨h.ca, h.cm, h.cb, h.ne, bl_get hb h.hb, h.hM.below hb, h.hA.below hb, h.keys, fun i x p hx hp => (h.rows i x p hx hp).below hb, h.dis⟩
theorem RcP.mono {C D C' D' : Nat → Prop} {w : World} {a mb ab : Nat} {fk : List (Int × Value)} {r : Rcv} (h : RcP C D w a mb ab fk r) (hc : ∀ k, C k → C' k) (hd : ∀ k, D k → D' k) (hn : ∀ k, D' k → ¬ C' k) : RcP C' D' w a mb ab fk r :=
  ⟨hc _ h.ca, hc _ h.cm, hc _ h.cb, h.ne, h.hb, h.hM, h.hA, h.keys, fun i x p hx hp => (h.rows i x p hx hp).mono hd, hn⟩
def RcvAt (C D : Nat → Prop) (w : World) (a : Nat) (r : Rcv) : Prop := ∃ mb ab fk, RcP C D w a mb ab fk r
theorem RcvAt.fr {C D G : Nat → Prop} {w w' : World} {a : Nat} {r : Rcv} (h : RcvAt C D w a r) (hf : Fr G w w') (hd : ∀ k, C k ∨ D k → ¬ G k) : RcvAt C D w' a r := by
  obtain ⟨mb, ab, fk, h⟩ := h; exact ⟨mb, ab, fk, h.fr hf hd⟩
theorem RcvAt.below {C D : Nat → Prop} {w w' : World} {a : Nat} {r : Rcv} (h : RcvAt C D w a r) (hb : Below w.heap.size w w') : RcvAt C D w' a r := by
  obtain ⟨mb, ab, fk, h⟩ := h; exact ⟨mb, ab, fk, h.below hb⟩
theorem RcvAt.mono {C D C' D' : Nat → Prop} {w : World} {a : Nat} {r : Rcv} (h : RcvAt C D w a r) (hc : ∀ k, C k → C' k) (hd : ∀ k, D k → D' k) (hn : ∀ k, D' k → ¬ C' k) : RcvAt C' D' w a r := by
  obtain ⟨mb, ab, fk, h⟩ := h; exact ⟨mb, ab, fk, h.mono hc hd hn⟩
theorem RcvAt.dis {C D : Nat → Prop} {w : World} {a : Nat} {r : Rcv} (h : RcvAt C D w a r) : ∀ k, D k → ¬ C k := by
  obtain ⟨mb, ab, fk, h⟩ := h; exact h.dis

set_option maxRecDepth 100000 in
set_option maxHeartbeats 1000000 in
theorem rcreset_any (a n : Nat) (x1 x2 x3 : Value) (w : World) (hb : w.heap[a]? = some (.cells #[.int .i64 n, x1, x2, x3] 57 (0, 0))) :
    Calls Try.prog 13 #[.pointer (some ⟨a, 0, none⟩)] w fun e w' => (∃ v, e = .returned v) ∧ RcvAt (fun k => k = a ∨ (w.heap.size ≤ k ∧ k < w'.heap.size)) (fun _ => False) w' a ⟨n, 0, [], []⟩ ∧ Fr (fun k => k = a) w w' := by
  have hlt := lt_of_get hb
  have hmk : ∀ (t : TypeId) (W : World), (Instr.makeMap t none).run Try.prog W = .ok (.map (some W.heap.size)) (W.alloc (.map #[] 0)) := fun t W => run_makeMap t W
  have hB := bl_alloc (bl_alloc (bl_refl w) (.map #[] 0)) (.map #[] 0)
  have m1 := (MapIs.made w).below (bl_alloc (bl_refl _) (.map #[] 0))
  have m2 := MapIs.made (w.alloc (.map #[] 0))
  have hb2 := bl_get hB hb
  obtain ⟨c0, c1, c2, c3⟩ := rc_cells hb2
  have z1 := rc_frozen (j := 1) hb2
  have z2 := rc_frozen (j := 2) hb2
  have z3 := rc_frozen (j := 3) hb2
  rw [World.size_alloc] at m2
  have hsz : ((w.alloc (.map #[] 0)).alloc (.map #[] 0)).heap.size = w.heap.size + 2 := by simp
  obtain ⟨W0, hW0⟩ : ∃ W0, (w.alloc (.map #[] 0)).alloc (.map #[] 0) = W0 := ⟨_, rfl⟩
  rw [hW0] at hB m1 m2 hb2 c0 c1 c2 c3 z1 z2 z3 hsz
  have HF := Lib.hid (rcset_fr W0 a (.int .i64 0) (.map (some w.heap.size)) (.map (some (w.heap.size + 1))))
  have HB2 := Lib.hid (rc_set _ a 3 _ _ (.map (some (w.heap.size + 1))) (rc_set _ a 2 _ _ (.map (some w.heap.size)) (rc_set _ a 1 _ _ (.int .i64 0) hb2)))
  have HM1 := Lib.hid m1
  have HM2 := Lib.hid m2
  have HB := Lib.hid hB
  have HSZ := Lib.hid hsz
  clear m1 m2 hB hb2 hsz hb
  go_enter Try.func13, Try.ntmps13
  go_wp2
  go_end0
  have hs := HF.out.size
  have hz := HSZ.out
  refine ⟨⟨_, rfl⟩, ⟨w.heap.size, w.heap.size + 1, [], .inl rfl, .inr ⟨Nat.le_refl _, by omega⟩, .inr ⟨by omega, by omega⟩, by omega, HB2.out, HM1.out.fr HF.out (by omega), HM2.out.fr HF.out (by omega), rfl, fun i x p hx => by simp at hx, fun k hk => hk.elim⟩, (Fr.of_below HB.out).trans HF.out (fun _ h => .inl h)⟩

set_option maxRecDepth 100000 in
set_option maxHeartbeats 1000000 in
theorem rcnew_ok (n : Nat) (h1 : 1 ≤ n) (h2 : n ≤ 63) (w : World) :
    Calls Try.prog 7 #[.int .i64 n] w fun e w' => e = .returned (.tuple #[.pointer (some ⟨w.heap.size, 0, none⟩), .int .i64 0]) ∧ RcvAt (fun k => w.heap.size ≤ k ∧ k < w'.heap.size) (fun _ => False) w' w.heap.size ⟨n, 0, [], []⟩ ∧ Below w.heap.size w w' := by
  have hb := heap_alloc_new w (.cells #[.int .i64 n, .int .i64 0, .map none, .map none] 57)
  have hB := bl_alloc (bl_refl w) (.cells #[.int .i64 n, .int .i64 0, .map none, .map none] 57)
  have HR := Lib.hid (rcreset_any w.heap.size n _ _ _ _ hb)
  have HB := Lib.hid hB
  clear hb hB
  go_enter Try.func7, Try.ntmps7
  go_wp2_with fail
  refine HR.out.mono ?_
  rintro e w2 ⟨⟨v, rfl⟩, hr, hf⟩
  have HRC := Lib.hid hr
  have HF := Lib.hid hf
  clear hr hf
  go_wp2
  go_ret2
  have hs := HF.out.size
  rw [World.size_alloc] at hs
  refine ⟨rfl, HRC.out.mono (fun k hk => ?_) (fun _ h => h) (fun _ h => h.elim), bl_fr HB.out HF.out (by intro i hi; omega)⟩
  rcases hk with rfl | hk
  · omega
  · rw [World.size_alloc] at hk; omega
theorem rcnew_bad (n : Int) (h : n < 1 ∨ 63 < n) (w : World) :
    Calls Try.prog 7 #[.int .i64 n] w fun e w' => e = .returned (.tuple #[.pointer none, .int .i64 1]) ∧ w = w' := by
  rcases h with h | h
  · go_enter Try.func7, Try.ntmps7
    go_wp2
    go_ret2
    exact ⟨rfl, rfl⟩
  · have h1 : ¬ n < 1 := by omega
    go_enter Try.func7, Try.ntmps7
    go_wp2
    go_ret2
    exact ⟨rfl, rfl⟩
theorem rcwaits_any (C D : Nat → Prop) (a : Nat) (r : Rcv) (w : World) (hs : RcvAt C D w a r) :
    Calls Try.prog 14 #[.pointer (some ⟨a, 0, none⟩)] w fun e w' => e = .returned (.int .i64 r.waits) ∧ w = w' := by
  obtain ⟨mb, ab, fk, _, _, _, _, hb, _⟩ := hs
  obtain ⟨c0, c1, c2, c3⟩ := rc_cells hb
  go_enter Try.func14, Try.ntmps14
  go_wp2
  go_ret
  exact ⟨rfl, rfl⟩

end Go.Proofs.Ytagbaoakablfpaa
