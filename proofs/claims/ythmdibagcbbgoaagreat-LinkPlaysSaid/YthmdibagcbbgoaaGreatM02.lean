/- A map keyed by ints, as a list of keys and elements: look-up, store, delete. No program in sight. A receiver: what it is in memory; recv.New, Reset, Waits, Forget. Plain facts about numbers that go round (mod 128); no program in sight. Contracts of the functions of package window that only compute: Reduce, Way, In, Next, for every int. Conditions: as they stand. -/
import Derived.WalkKit
import Derived.Maps.Keyed
import Derived.Maps.RangeRun
import Derived.RangeFuncRecord
import Derived.Lib.Hide
import Derived.Handy
import Derived.Test.YthmdibagcbbgoaaGreatM01
import Derived.Test.YthmdibagcbbgoaaGreatProg
import Derived.Laws.BitsAllLaws
import Derived.IntWalk
namespace Go.Proofs.YthmdibagcbbgoaaGreat
open Go.RowKit

/-- The entries of a map, as a list: keys all apart; each entry was born at a time of its own. -/
structure Ents (es : Array MapEntry) (clock : Nat) (f : List (Int × Value)) : Prop where
  same : es.toList.map (fun e => (e.key, e.val)) = f.map fun x => (Value.int .i64 x.1, x.2)
  keys : (f.map (·.1)).Nodup
  born : (es.toList.map (·.born)).Nodup
  old : ∀ e ∈ es.toList, e.born < clock
/-- Block b is a map that holds these. -/
def MapIs (w : World) (b : Nat) (f : List (Int × Value)) : Prop := ∃ es clock, w.heap[b]? = some (.map es clock) ∧ Ents es clock f
/-- Where a key stands, and its element. -/
def pos {α : Type} : List (Int × α) → Int → Option (Nat × α)
  | [], _ => none
  | x :: f, k => if k = x.1 then some (0, x.2) else (pos f k).map fun y => (y.1 + 1, y.2)

theorem set_same {α : Type} {l : List α} {j : Nat} {x : α} (h : l[j]? = some x) : l.set j x = l := by
  obtain ⟨hj, rfl⟩ := List.getElem?_eq_some_iff.1 h
  exact List.set_getElem_self hj

theorem findNow_int {q : IntKind} (k : Int) : ∀ (l : List MapEntry) (f : List (Int × Value)) (i : Nat), l.map (fun e => (e.key, e.val)) = f.map (fun x => (Value.int .i64 x.1, x.2)) →
    Instr.findNow (.int q) (.int .i64 k) l i = some ((pos f k).map fun y => (i + y.1, y.2))
  | [], f, i, h => by
    have : f = [] := by simpa using h.symm
    subst this
    simp [Instr.findNow, pos]
  | e :: l, [], i, h => by simp at h
  | e :: l, x :: f, i, h => by
    rw [List.map_cons, List.map_cons] at h
    injection h with h1 h2
    injection h1 with h3 h4
    rw [Instr.findNow, h3]
    have ih := findNow_int (q := q) k l f (i + 1) h2
    by_cases hk : k = x.1
    · simp [Instr.sameNow, pos, hk, h4]
    · simp only [Instr.sameNow, if_true, show (k == x.1) = false by simpa using hk, ih, pos, if_neg hk, Option.map_map]
      congr 2
      funext y
      simp only [Function.comp]
      rw [show i + 1 + y.1 = i + (y.1 + 1) by omega]

section
variable {P : Program} {w : World} {t K E : TypeId} {q : IntKind} {b : Nat} {es : Array MapEntry} {clock : Nat} {f : List (Int × Value)}
theorem run_findKey (hK : P.underlying K = some (.int q)) (h : Ents es clock f) (k : Int) : (Instr.findKey K (.int .i64 k) es.toList).run P w = .ok (pos f k) w := by
  have := findNow_int (q := q) k es.toList f 0 h.same
  simp only [Nat.zero_add] at this
  have e : (Option.map (fun y : Nat × Value => (y.1, y.2)) (pos f k)) = pos f k := by cases pos f k <;> rfl
  rw [e] at this
  simp [Instr.findKey, run_underlying hK, this, Result.andThen]
theorem run_checkKey (hK : P.underlying K = some (.int q)) (x : Bool) (k : Int) : (Instr.checkKey x 10000 K (.int .i64 k)).run P w = .ok () w := by
  unfold Instr.checkKey
  simp [run_underlying hK, Result.andThen]
theorem run_lookup_map (ht : P.underlying t = some (.map K E)) (hK : P.underlying K = some (.int q)) {z : Value} (hz : (zeroValue E).run P w = .ok z w) (hb : w.heap[b]? = some (.map es clock)) (h : Ents es clock f) (k : Int) (c : Bool) :
    (Instr.lookup t (.map (some b)) (.int .i64 k) c).run P w = .ok (match pos f k with | some y => if c then .tuple #[y.2, .bool true] else y.2 | none => if c then .tuple #[z, .bool false] else z) w := by
  cases hp : pos f k with
  | none => simp [Instr.lookup, run_underlying ht, MapKept.run_getObj_map hb, run_checkKey hK, run_findKey hK h, hp, hz, Result.andThen]
  | some y => simp [Instr.lookup, run_underlying ht, MapKept.run_getObj_map hb, run_checkKey hK, run_findKey hK h, hp, Result.andThen]
theorem pos_none {α : Type} {f : List (Int × α)} {k : Int} (h : pos f k = none) : k ∉ f.map (·.1) := by
  induction f with
  | nil => simp
  | cons x f ih =>
    unfold pos at h
    split at h
    · cases h
    · rename_i hne
      have h2 : pos f k = none := by cases hp : pos f k with
        | none => rfl
        | some y => rw [hp] at h; cases h
      simp only [List.map_cons, List.mem_cons, not_or]
      exact ⟨hne, ih h2⟩
theorem pos_some {α : Type} {f : List (Int × α)} {k : Int} {j : Nat} {v : α} (h : pos f k = some (j, v)) : f[j]? = some (k, v) := by
  induction f generalizing j with
  | nil => cases h
  | cons x f ih =>
    unfold pos at h
    split at h
    · rename_i he
      cases h
      rw [he]; rfl
    · cases hp : pos f k with
      | none => rw [hp] at h; cases h
      | some y =>
        rw [hp] at h
        cases h
        rw [List.getElem?_cons_succ]
        exact ih hp
theorem pos_mem {α : Type} {f : List (Int × α)} {k : Int} (h : k ∈ f.map (·.1)) : ∃ j v, pos f k = some (j, v) := by
  cases hp : pos f k with
  | none => exact absurd h (pos_none hp)
  | some y => exact ⟨y.1, y.2, rfl⟩
theorem Ents.len (h : Ents es clock f) : es.toList.length = f.length := by
  have := congrArg List.length h.same
  simpa using this
theorem Ents.push (h : Ents es clock f) {k : Int} (hp : pos f k = none) (v : Value) : Ents (es.push ⟨.int .i64 k, v, clock⟩) (clock + 1) (f ++ [(k, v)]) := by
  refine ⟨by rw [Array.toList_push, List.map_append, List.map_append, h.same]; rfl, ?_, ?_, ?_⟩
  · rw [List.map_append, List.nodup_append]
    refine ⟨h.keys, by simp, fun a ha b hb => ?_⟩
    simp at hb
    subst hb
    exact fun e => pos_none hp (e ▸ ha)
  · rw [Array.toList_push, List.map_append, List.nodup_append]
    refine ⟨h.born, by simp, fun a ha b hb => ?_⟩
    obtain ⟨e, he, rfl⟩ := List.mem_map.1 ha
    simp at hb
    subst hb
    exact Nat.ne_of_lt (h.old e he)
  · intro e he
    rw [Array.toList_push] at he
    rcases List.mem_append.1 he with he | he
    · have := h.old e he; omega
    · simp at he; subst he; simp
theorem Ents.at_ (h : Ents es clock f) {j : Nat} {x : Int × Value} (hj : f[j]? = some x) : ∃ e, es.toList[j]? = some e ∧ e.key = .int .i64 x.1 ∧ e.val = x.2 := by
  have h1 : (es.toList.map (fun e => (e.key, e.val)))[j]? = some (Value.int .i64 x.1, x.2) := by rw [h.same, List.getElem?_map, hj]; rfl
  rw [List.getElem?_map] at h1
  cases he : es.toList[j]? with
  | none => rw [he] at h1; cases h1
  | some e =>
    rw [he] at h1
    simp only [Option.map_some, Option.some.injEq, Prod.mk.injEq] at h1
    exact ⟨e, rfl, h1.1, h1.2⟩
theorem Ents.change (h : Ents es clock f) {k : Int} {j : Nat} {v0 : Value} (hp : pos f k = some (j, v0)) (v : Value) : Ents (es.modify j fun e => { e with key := .int .i64 k, val := v }) clock (f.set j (k, v)) := by
  have hj := pos_some hp
  obtain ⟨e0, he0, hk0, hv0⟩ := h.at_ hj
  have hl : (es.modify j fun e => { e with key := .int .i64 k, val := v }).toList = es.toList.set j { e0 with key := .int .i64 k, val := v } := by rw [Array.toList_modify, Go.ChangeMaps.modify_eq_set _ _ _ _ he0]
  refine ⟨?_, ?_, ?_, ?_⟩
  · rw [hl, List.map_set, List.map_set, h.same]
  · rw [List.map_set]
    have : (f.map (·.1)).set j k = f.map (·.1) := set_same (by rw [List.getElem?_map, hj]; rfl)
    rw [this]; exact h.keys
  · rw [hl, List.map_set]
    have : (es.toList.map (·.born)).set j e0.born = es.toList.map (·.born) := set_same (by rw [List.getElem?_map, he0]; rfl)
    rw [this]; exact h.born
  · intro e he
    rw [hl] at he
    rcases List.mem_or_eq_of_mem_set he with he | he
    · exact h.old e he
    · subst he; exact h.old e0 (List.mem_of_getElem? he0)
theorem Ents.drop (h : Ents es clock f) (j : Nat) : Ents (es.eraseIdxIfInBounds j) clock (f.eraseIdx j) := by
  have hsub : (es.eraseIdxIfInBounds j).toList = es.toList.eraseIdx j := by
    unfold Array.eraseIdxIfInBounds
    split
    · simp
    · rename_i hn
      rw [List.eraseIdx_of_length_le (by simpa using hn)]
  refine ⟨by rw [hsub, Go.ChangeMaps.map_eraseIdx, Go.ChangeMaps.map_eraseIdx, h.same], ?_, ?_, fun e he => h.old e ?_⟩
  · rw [Go.ChangeMaps.map_eraseIdx]; exact h.keys.sublist (List.eraseIdx_sublist _ _)
  · rw [hsub, Go.ChangeMaps.map_eraseIdx]; exact h.born.sublist (List.eraseIdx_sublist _ _)
  · rw [hsub] at he
    exact (List.eraseIdx_sublist _ _).subset he
theorem run_update_new (ht : P.underlying t = some (.map K E)) (hK : P.underlying K = some (.int q)) (hb : w.heap[b]? = some (.map es clock)) (h : Ents es clock f) {k : Int} (hp : pos f k = none) (v : Value) :
    (Instr.mapUpdate t (.map (some b)) (.int .i64 k) v).run P w = .ok () (w.putObj b (.map (es.push ⟨.int .i64 k, v, clock⟩) (clock + 1))) := by
  simp [Instr.mapUpdate, run_underlying ht, MapKept.run_getObj_map hb, run_checkKey hK, run_findKey hK h, hp, MapKept.run_setObj_map _ hb, Result.andThen, World.putObj]
theorem run_update_old (ht : P.underlying t = some (.map K E)) (hK : P.underlying K = some (.int q)) (hb : w.heap[b]? = some (.map es clock)) (h : Ents es clock f) {k : Int} {j : Nat} {v0 : Value} (hp : pos f k = some (j, v0)) (v : Value) :
    (Instr.mapUpdate t (.map (some b)) (.int .i64 k) v).run P w = .ok () (w.putObj b (.map (es.modify j fun e => { e with key := .int .i64 k, val := v }) clock)) := by
  obtain ⟨e0, he0, hk0, hv0⟩ := h.at_ (pos_some hp)
  have he1 : es[j]? = some e0 := by simpa using he0
  have hst : (Instr.keyThatStays (.int .i64 k) (.int .i64 k)).run P w = .ok (.int .i64 k) w := by
    unfold Instr.keyThatStays Instr.sameBits
    simp
  simp [Instr.mapUpdate, run_underlying ht, MapKept.run_getObj_map hb, run_checkKey hK, run_findKey hK h, hp, he1, hk0, hst, MapKept.run_setObj_map _ hb, Result.andThen, World.putObj]
theorem run_delete (ht : P.underlying t = some (.map K E)) (hK : P.underlying K = some (.int q)) (hb : w.heap[b]? = some (.map es clock)) (h : Ents es clock f) (k : Int) (ty : TypeId) :
    (Builtin.delete_ #[t, K] ty #[.map (some b), .int .i64 k]).run P w = .ok (.tuple #[]) (w.putObj b (match pos f k with | some y => .map (es.eraseIdxIfInBounds y.1) clock | none => .map es clock)) := by
  cases hp : pos f k with
  | none => simp [Builtin.delete_, run_underlying ht, MapKept.run_getObj_map hb, run_checkKey hK, run_findKey hK h, hp, MapKept.run_setObj_map _ hb, Result.andThen, World.putObj]
  | some y => simp [Builtin.delete_, run_underlying ht, MapKept.run_getObj_map hb, run_checkKey hK, run_findKey hK h, hp, MapKept.run_setObj_map _ hb, Result.andThen, World.putObj]
end

/-- What is left behind a delete. -/
def dropK {α : Type} (f : List (Int × α)) (k : Int) : List (Int × α) := match pos f k with | some y => f.eraseIdx y.1 | none => f

/-- Two lists of the same keys find a key at the same place. -/
theorem pos_same {α β : Type} {f : List (Int × α)} {g : List (Int × β)} (h : f.map (·.1) = g.map (·.1)) (k : Int) : (pos f k).map (·.1) = (pos g k).map (·.1) := by
  induction f generalizing g with
  | nil => have : g = [] := by simpa using h.symm
           subst this; rfl
  | cons x f ih => cases g with
    | nil => simp at h
    | cons y g =>
      simp only [List.map_cons, List.cons.injEq] at h
      unfold pos
      rw [h.1]
      split
      · rfl
      · have := ih h.2
        simp only [Option.map_map]
        cases hp : pos f k <;> cases hq : pos g k <;> rw [hp, hq] at this <;> simp_all
theorem pos_lt {α : Type} {f : List (Int × α)} {k : Int} {j : Nat} {v : α} (h : pos f k = some (j, v)) : j < f.length := (List.getElem?_eq_some_iff.1 (pos_some h)).1
theorem dropK_none {α : Type} {f : List (Int × α)} {k : Int} (h : pos f k = none) : dropK f k = f := by unfold dropK; rw [h]
theorem dropK_some {α : Type} {f : List (Int × α)} {k : Int} {j : Nat} {v : α} (h : pos f k = some (j, v)) : dropK f k = f.eraseIdx j := by unfold dropK; rw [h]
theorem dropK_keys {α β : Type} {f : List (Int × α)} {g : List (Int × β)} (h : f.map (·.1) = g.map (·.1)) (k : Int) : (dropK f k).map (·.1) = (dropK g k).map (·.1) := by
  have hs := pos_same h k
  cases hp : pos f k with
  | none =>
    rw [hp] at hs
    cases hq : pos g k with
    | none => rw [dropK_none hp, dropK_none hq, h]
    | some y => rw [hq] at hs; cases hs
  | some x =>
    rw [hp] at hs
    cases hq : pos g k with
    | none => rw [hq] at hs; cases hs
    | some y =>
      rw [hq] at hs
      have e : x.1 = y.1 := by simpa using hs
      rw [dropK_some (j := x.1) (v := x.2) hp, dropK_some (j := y.1) (v := y.2) hq, Go.ChangeMaps.map_eraseIdx, Go.ChangeMaps.map_eraseIdx, h, e]

end Go.Proofs.YthmdibagcbbgoaaGreat

namespace Go.Proofs.YthmdibagcbbgoaaGreat
open Go.RowKit

/-- A receiver: its size, the number it waits for, what it keeps, what it asked for and how often. -/
structure Rcv where
  size : Nat
  waits : Nat
  kept : List (Int × List Int)
  asked : List (Int × Int)

theorem rc_cells {W : World} {g : Nat} {a b c d : Value} {t : TypeId} (hb : W.heap[g]? = some (.cells #[a, b, c, d] t (0, 0))) :
    W.cell? ⟨g, 0, none⟩ = some a ∧ W.cell? ⟨g, 1, none⟩ = some b ∧ W.cell? ⟨g, 2, none⟩ = some c ∧ W.cell? ⟨g, 3, none⟩ = some d := by
  refine ⟨?_, ?_, ?_, ?_⟩ <;> (rw [cell_of_row _ _ _ _ _ _ hb]; rfl)
theorem rc_frozen {W : World} {g j : Nat} {cs : Array Value} {t : TypeId} (h : W.heap[g]? = some (.cells cs t (0, 0))) : W.frozen? ⟨g, j, none⟩ = false := by
  simp [World.frozen?, h]
theorem rc_set (W : World) (g j : Nat) (cs : Array Value) (t : TypeId) (v : Value) (h : W.heap[g]? = some (.cells cs t (0, 0))) : (W.setCell ⟨g, j, none⟩ v).heap[g]? = some (.cells (cs.setIfInBounds j v) t (0, 0)) := by
  simp [World.setCell, Array.getElem?_modify, h]

theorem rcset_fr (W : World) (g : Nat) (x y z : Value) : Fr (fun k => k = g) W (((W.setCell ⟨g, 1, none⟩ x).setCell ⟨g, 2, none⟩ y).setCell ⟨g, 3, none⟩ z) :=
  ((fr_cell W g 1 x).trans (fr_cell _ g 2 y) (fun _ h => .inl h)).trans (fr_cell _ g 3 z) (fun _ h => .inl h)

theorem MapIs.fr {F : Nat → Prop} {w w' : World} {b : Nat} {f : List (Int × Value)} (h : MapIs w b f) (hf : Fr F w w') (hn : ¬ F b) : MapIs w' b f := by
  obtain ⟨es, c, hb, he⟩ := h
  exact ⟨es, c, hf.get hb hn, he⟩
theorem MapIs.below {w w' : World} {b : Nat} {f : List (Int × Value)} (h : MapIs w b f) (hb : Below w.heap.size w w') : MapIs w' b f := by
  obtain ⟨es, c, h1, he⟩ := h
  exact ⟨es, c, bl_get hb h1, he⟩
theorem MapIs.made (w : World) : MapIs (w.alloc (.map #[] 0)) w.heap.size [] := ⟨#[], 0, heap_alloc_new _ _, ⟨rfl, by simp, by simp, fun e he => by simp at he⟩⟩

def cnts (l : List (Int × Int)) : List (Int × Value) := l.map fun x => (x.1, .int .i64 x.2)
/-- The receiver at a, its two maps at mb and ab: what it turns lies in C, the payloads that it keeps in D. -/
structure RcP (C D : Nat → Prop) (w : World) (a mb ab : Nat) (fk : List (Int × Value)) (r : Rcv) : Prop where
  ca : C a
  cm : C mb
  cb : C ab
  ne : mb ≠ ab
  hb : w.heap[a]? = some (.cells #[.int .i64 r.size, .int .i64 r.waits, .map (some mb), .map (some ab)] 90 (0, 0))
  hM : MapIs w mb fk
  hA : MapIs w ab (cnts r.asked)
  keys : fk.map (·.1) = r.kept.map (·.1)
  rows : ∀ (i : Nat) (x : Int × Value) (p : Int × List Int), fk[i]? = some x → r.kept[i]? = some p → Byt D w x.2 p.2
  dis : ∀ k, D k → ¬ C k
theorem RcP.fr {C D G : Nat → Prop} {w w' : World} {a mb ab : Nat} {fk : List (Int × Value)} {r : Rcv} (h : RcP C D w a mb ab fk r) (hf : Fr G w w') (hd : ∀ k, C k ∨ D k → ¬ G k) : RcP C D w' a mb ab fk r :=
  ⟨h.ca, h.cm, h.cb, h.ne, hf.get h.hb (hd _ (.inl h.ca)), h.hM.fr hf (hd _ (.inl h.cm)), h.hA.fr hf (hd _ (.inl h.cb)), h.keys, fun i x p hx hp => (h.rows i x p hx hp).fr hf fun k hk => hd k (.inr hk), h.dis⟩
theorem RcP.below {C D : Nat → Prop} {w w' : World} {a mb ab : Nat} {fk : List (Int × Value)} {r : Rcv} (h : RcP C D w a mb ab fk r) (hb : Below w.heap.size w w') : RcP C D w' a mb ab fk r :=
  ⟨h.ca, h.cm, h.cb, h.ne, bl_get hb h.hb, h.hM.below hb, h.hA.below hb, h.keys, fun i x p hx hp => (h.rows i x p hx hp).below hb, h.dis⟩
theorem RcP.mono {C D C' D' : Nat → Prop} {w : World} {a mb ab : Nat} {fk : List (Int × Value)} {r : Rcv} (h : RcP C D w a mb ab fk r) (hc : ∀ k, C k → C' k) (hd : ∀ k, D k → D' k) (hn : ∀ k, D' k → ¬ C' k) : RcP C' D' w a mb ab fk r :=
  ⟨hc _ h.ca, hc _ h.cm, hc _ h.cb, h.ne, h.hb, h.hM, h.hA, h.keys, fun i x p hx hp => (h.rows i x p hx hp).mono hd, hn⟩
def RcvAt (C D : Nat → Prop) (w : World) (a : Nat) (r : Rcv) : Prop := ∃ mb ab fk, RcP C D w a mb ab fk r
theorem RcvAt.fr {C D G : Nat → Prop} {w w' : World} {a : Nat} {r : Rcv} (h : RcvAt C D w a r) (hf : Fr G w w') (hd : ∀ k, C k ∨ D k → ¬ G k) : RcvAt C D w' a r := by
  obtain ⟨mb, ab, fk, h⟩ := h; exact ⟨mb, ab, fk, h.fr hf hd⟩
theorem RcvAt.below {C D : Nat → Prop} {w w' : World} {a : Nat} {r : Rcv} (h : RcvAt C D w a r) (hb : Below w.heap.size w w') : RcvAt C D w' a r := by
  obtain ⟨mb, ab, fk, h⟩ := h; exact ⟨mb, ab, fk, h.below hb⟩
theorem RcvAt.mono {C D C' D' : Nat → Prop} {w : World} {a : Nat} {r : Rcv} (h : RcvAt C D w a r) (hc : ∀ k, C k → C' k) (hd : ∀ k, D k → D' k) (hn : ∀ k, D' k → ¬ C' k) : RcvAt C' D' w a r := by
  obtain ⟨mb, ab, fk, h⟩ := h; exact ⟨mb, ab, fk, h.mono hc hd hn⟩
theorem RcvAt.dis {C D : Nat → Prop} {w : World} {a : Nat} {r : Rcv} (h : RcvAt C D w a r) : ∀ k, D k → ¬ C k := by
  obtain ⟨mb, ab, fk, h⟩ := h; exact h.dis

set_option maxRecDepth 100000 in
set_option maxHeartbeats 1000000 in
theorem rcreset_any (a n : Nat) (x1 x2 x3 : Value) (w : World) (hb : w.heap[a]? = some (.cells #[.int .i64 n, x1, x2, x3] 90 (0, 0))) :
    Calls Tryz.prog 38 #[.pointer (some ⟨a, 0, none⟩)] w fun e w' => (∃ v, e = .returned v) ∧ RcvAt (fun k => k = a ∨ (w.heap.size ≤ k ∧ k < w'.heap.size)) (fun _ => False) w' a ⟨n, 0, [], []⟩ ∧ Fr (fun k => k = a) w w' := by
  have hlt := lt_of_get hb
  have hmk : ∀ (t : TypeId) (W : World), (Instr.makeMap t none).run Tryz.prog W = .ok (.map (some W.heap.size)) (W.alloc (.map #[] 0)) := fun t W => run_makeMap t W
  have hB := bl_alloc (bl_alloc (bl_refl w) (.map #[] 0)) (.map #[] 0)
  have m1 := (MapIs.made w).below (bl_alloc (bl_refl _) (.map #[] 0))
  have m2 := MapIs.made (w.alloc (.map #[] 0))
  have hb2 := bl_get hB hb
  obtain ⟨c0, c1, c2, c3⟩ := rc_cells hb2
  have z1 := rc_frozen (j := 1) hb2
  have z2 := rc_frozen (j := 2) hb2
  have z3 := rc_frozen (j := 3) hb2
  rw [World.size_alloc] at m2
  have hsz : ((w.alloc (.map #[] 0)).alloc (.map #[] 0)).heap.size = w.heap.size + 2 := by simp
  obtain ⟨W0, hW0⟩ : ∃ W0, (w.alloc (.map #[] 0)).alloc (.map #[] 0) = W0 := ⟨_, rfl⟩
  rw [hW0] at hB m1 m2 hb2 c0 c1 c2 c3 z1 z2 z3 hsz
  have HF := Lib.hid (rcset_fr W0 a (.int .i64 0) (.map (some w.heap.size)) (.map (some (w.heap.size + 1))))
  have HB2 := Lib.hid (rc_set _ a 3 _ _ (.map (some (w.heap.size + 1))) (rc_set _ a 2 _ _ (.map (some w.heap.size)) (rc_set _ a 1 _ _ (.int .i64 0) hb2)))
  have HM1 := Lib.hid m1
  have HM2 := Lib.hid m2
  have HB := Lib.hid hB
  have HSZ := Lib.hid hsz
  clear m1 m2 hB hb2 hsz hb
  go_enter Tryz.func38, Tryz.ntmps38
  go_wp2
  go_end0
  have hs := HF.out.size
  have hz := HSZ.out
  refine ⟨⟨_, rfl⟩, ⟨w.heap.size, w.heap.size + 1, [], .inl rfl, .inr ⟨Nat.le_refl _, by omega⟩, .inr ⟨by omega, by omega⟩, by omega, HB2.out, HM1.out.fr HF.out (by omega), HM2.out.fr HF.out (by omega), rfl, fun i x p hx => by simp at hx, fun k hk => hk.elim⟩, (Fr.of_below HB.out).trans HF.out (fun _ h => .inl h)⟩

set_option maxRecDepth 100000 in
set_option maxHeartbeats 1000000 in
theorem rcnew_ok (n : Nat) (h1 : 1 ≤ n) (h2 : n ≤ 63) (w : World) :
    Calls Tryz.prog 20 #[.int .i64 n] w fun e w' => e = .returned (.tuple #[.pointer (some ⟨w.heap.size, 0, none⟩), .int .i64 0]) ∧ RcvAt (fun k => w.heap.size ≤ k ∧ k < w'.heap.size) (fun _ => False) w' w.heap.size ⟨n, 0, [], []⟩ ∧ Below w.heap.size w w' := by
  have hb := heap_alloc_new w (.cells #[.int .i64 n, .int .i64 0, .map none, .map none] 90)
  have hB := bl_alloc (bl_refl w) (.cells #[.int .i64 n, .int .i64 0, .map none, .map none] 90)
  have HR := Lib.hid (rcreset_any w.heap.size n _ _ _ _ hb)
  have HB := Lib.hid hB
  clear hb hB
  go_enter Tryz.func20, Tryz.ntmps20
  go_wp2_with fail
  refine HR.out.mono ?_
  rintro e w2 ⟨⟨v, rfl⟩, hr, hf⟩
  have HRC := Lib.hid hr
  have HF := Lib.hid hf
  clear hr hf
  go_wp2
  go_ret2
  have hs := HF.out.size
  rw [World.size_alloc] at hs
  refine ⟨rfl, HRC.out.mono (fun k hk => ?_) (fun _ h => h) (fun _ h => h.elim), bl_fr HB.out HF.out (by intro i hi; omega)⟩
  rcases hk with rfl | hk
  · omega
  · rw [World.size_alloc] at hk; omega
theorem rcnew_bad (n : Int) (h : n < 1 ∨ 63 < n) (w : World) :
    Calls Tryz.prog 20 #[.int .i64 n] w fun e w' => e = .returned (.tuple #[.pointer none, .int .i64 1]) ∧ w = w' := by
  rcases h with h | h
  · go_enter Tryz.func20, Tryz.ntmps20
    go_wp2
    go_ret2
    exact ⟨rfl, rfl⟩
  · have h1 : ¬ n < 1 := by omega
    go_enter Tryz.func20, Tryz.ntmps20
    go_wp2
    go_ret2
    exact ⟨rfl, rfl⟩
theorem rcwaits_any (C D : Nat → Prop) (a : Nat) (r : Rcv) (w : World) (hs : RcvAt C D w a r) :
    Calls Tryz.prog 52 #[.pointer (some ⟨a, 0, none⟩)] w fun e w' => e = .returned (.int .i64 r.waits) ∧ w = w' := by
  obtain ⟨mb, ab, fk, _, _, _, _, hb, _⟩ := hs
  obtain ⟨c0, c1, c2, c3⟩ := rc_cells hb
  go_enter Tryz.func52, Tryz.ntmps52
  go_wp2
  go_ret
  exact ⟨rfl, rfl⟩

end Go.Proofs.YthmdibagcbbgoaaGreat

namespace Go.Proofs.YthmdibagcbbgoaaGreat
open Go

/-- The lowest seven bits of any int are its rest by 128. -/
theorem and127 (n : Int) : bits .and .i64 n 127 = n % 128 := by
  show IntKind.i64.wrap ((BitVec.ofInt 64 n &&& BitVec.ofInt 64 127).toNat : Int) = _
  rw [BitVec.toNat_and]
  have h : (BitVec.ofInt 64 127).toNat = 127 := by decide
  rw [h, nat_mask7, BitVec.toNat_ofInt]
  have e : ((((n % ((2^64 : Nat) : Int)).toNat % 128 : Nat)) : Int) = n % 128 := by omega
  rw [e, IntWalk.i64_in _ (by omega)]

end Go.Proofs.YthmdibagcbbgoaaGreat

namespace Go.Proofs.YthmdibagcbbgoaaGreat
open Go.RowKit

theorem reduce_any (n : Int) (w : World) :
    Calls Tryz.prog 84 #[.int .i64 n] w fun e w' => e = .returned (.int .i64 (n % 128)) ∧ w = w' := by
  have h := and127 n
  go_enter Tryz.func84, Tryz.ntmps84
  go_wp2
  go_ret
  exact ⟨rfl, rfl⟩

theorem way_any (a b : Int) (w : World) :
    Calls Tryz.prog 71 #[.int .i64 a, .int .i64 b] w fun e w' => e = .returned (.int .i64 ((b - a) % 128)) ∧ w = w' := by
  have h1 : 0 ≤ a % 128 := by omega
  have h2 : a % 128 ≤ 127 := by omega
  have h3 : 0 ≤ b % 128 := by omega
  have h4 : b % 128 ≤ 127 := by omega
  go_enter Tryz.func71, Tryz.ntmps71
  go_wp2_with fail
  refine (reduce_any _ _).mono ?_
  rintro e w' ⟨rfl, rfl⟩
  go_wp2_with fail
  refine (reduce_any _ _).mono ?_
  rintro e w' ⟨rfl, rfl⟩
  go_wp2_with fail
  refine (reduce_any _ _).mono ?_
  rintro e w' ⟨rfl, rfl⟩
  go_wp2
  go_ret
  exact ⟨rfl, rfl⟩

theorem next_any (a : Int) (w : World) :
    Calls Tryz.prog 104 #[.int .i64 a] w fun e w' => e = .returned (.int .i64 ((a + 1) % 128)) ∧ w = w' := by
  have h1 : 0 ≤ a % 128 := by omega
  have h2 : a % 128 ≤ 127 := by omega
  go_enter Tryz.func104, Tryz.ntmps104
  go_wp2_with fail
  refine (reduce_any _ _).mono ?_
  rintro e w' ⟨rfl, rfl⟩
  go_wp2_with fail
  refine (reduce_any _ _).mono ?_
  rintro e w' ⟨rfl, rfl⟩
  go_wp2
  go_ret
  exact ⟨rfl, rfl⟩

theorem in_any (base size n : Int) (w : World) :
    Calls Tryz.prog 70 #[.int .i64 base, .int .i64 size, .int .i64 n] w fun e w' => e = .returned (.bool (decide ((n - base) % 128 < size))) ∧ w = w' := by
  go_enter Tryz.func70, Tryz.ntmps70
  go_wp2_with fail
  refine (way_any _ _ _).mono ?_
  rintro e w' ⟨rfl, rfl⟩
  go_wp2
  go_ret
  exact ⟨rfl, rfl⟩

end Go.Proofs.YthmdibagcbbgoaaGreat
