/- What it is for a slice value to read as a list in a world; and small facts on worlds. No program in sight. How an argument that is a slice of integers reads: as a list. No program in sight. append(own, src...), own nil or a row of the call's own, src whatever reads as a list: a law for the walk. No program in sight. All blocks that were there but some few are as they were: the frame of a call that writes. No program in sight. Conditions: as they stand. -/
import Derived.WalkKit
import Derived.Lib.Hide
import Derived.WalkSmall
import Derived.ProofKit
import Derived.OpenShut
import Derived.SizedLaws
import Derived.Laws.OwnMore
import Derived.OwnWalkIn
import Derived.RangeFuncNested
namespace Go.Proofs.YthmdibagcbbgoaaGreat
open Go.RowKit

theorem ret_i64 {a b : Int} (h : a = b) : Ending.returned (.int .i64 a) = .returned (.int .i64 b) := by rw [h]
theorem ret_bool {a b : Bool} (h : a = b) : Ending.returned (.bool a) = .returned (.bool b) := by rw [h]

/-- The slice value v reads in the world w as the list xs, each element one cell, by f. -/
def Reads {α : Type} (f : α → Value) (w : World) (v : Value) (xs : List α) : Prop :=
  xs.length ≤ maxLen ∧ ∃ ao cap, v = .slice ao xs.length cap ∧ (xs.length ≤ cap ∧ (ao = none → cap = 0)) ∧ ∀ i x, xs[i]? = some x → ∃ b o, ao = some ⟨b, o, none⟩ ∧ w.cell? ⟨b, o + i, none⟩ = some (f x)

theorem cell_lt {w : World} {b o : Nat} {v : Value} (h : w.cell? ⟨b, o, none⟩ = some v) : b < w.heap.size := block_lt_of_cell (a := ⟨b, o, none⟩) h

theorem below_cell {w w' : World} (hb : Below w.heap.size w w') {b o : Nat} {v : Value} (h : w.cell? ⟨b, o, none⟩ = some v) : w'.cell? ⟨b, o, none⟩ = some v :=
  (hb.cell (p := ⟨b, o, none⟩) (cell_lt h)).trans h

theorem Reads.below {α : Type} {f : α → Value} {w w' : World} {v : Value} {xs : List α} (h : Reads f w v xs) (hb : Below w.heap.size w w') : Reads f w' v xs := by
  obtain ⟨hm, ao, cap, hv, hn, hc⟩ := h
  refine ⟨hm, ao, cap, hv, hn, fun i x hx => ?_⟩
  obtain ⟨b, o, ha, hcx⟩ := hc i x hx
  exact ⟨b, o, ha, below_cell hb hcx⟩

theorem Reads.nil {α : Type} (f : α → Value) (w : World) : Reads f w (.slice none 0 0) [] := ⟨by simp, none, 0, rfl, ⟨by simp, fun _ => rfl⟩, fun i x h => by simp at h⟩

/-- What a call's own row owns it reads as. -/
theorem Reads.of_owns {α : Type} {f : α → Value} {w : World} {base : Nat} {e : TypeId} {v : Value} {xs : List α} (h : w.ownsRow base e 1 v xs.length (xs.map f)) (hm : xs.length ≤ maxLen) : Reads f w v xs := by
  refine ⟨hm, ?_⟩
  rcases h.2 with ⟨rfl, h0⟩ | ⟨g, cap, cur, rfl, hb, hg, hle, hcap, hsz, htake⟩
  · exact ⟨none, 0, by rw [h0], ⟨by omega, fun _ => rfl⟩, fun i x hx => by simp [List.eq_nil_of_length_eq_zero h0] at hx⟩
  · refine ⟨_, cap, rfl, ⟨hle, fun h => by cases h⟩, fun i x hx => ⟨g, 0, rfl, ?_⟩⟩
    rw [cell_of_row w g (0 + i) cur e (0, 0) hg, Nat.zero_add]
    have hi : i < xs.length := (List.getElem?_eq_some_iff.1 hx).1
    have h2 : (xs.map f)[i]? = some (f x) := by rw [List.getElem?_map, hx]; rfl
    rw [← htake, List.getElem?_take, if_pos (by omega)] at h2
    simpa using h2

/-- What was there is as it was: one step behind the other. -/
theorem bl_refl (w : World) : Below w.heap.size w w := Below.refl _ _
theorem bl_trans {w a b : World} (h : Below w.heap.size w a) (k : Below a.heap.size a b) : Below w.heap.size w b := h.trans (k.mono h.size)
theorem bl_alloc {w a : World} (h : Below w.heap.size w a) (o : Obj) : Below w.heap.size w (a.alloc o) := h.alloc h.size o
theorem bl_drew {w a : World} (h : Below w.heap.size w a) : Below w.heap.size w a.drew := h.drew
theorem bl_drewN {w a : World} (h : Below w.heap.size w a) (n : Nat) : Below w.heap.size w (a.drewN n) := below_drewN h n
theorem Reads.owned {α : Type} {f : α → Value} {w : World} {base : Nat} {e : TypeId} {v : Value} {xs : List α} (h : w.ownsRow base e 1 v xs.length (xs.map f)) (hm : xs.length ≤ maxLen) {w' : World} (hb : Below w.heap.size w w') : Reads f w' v xs := (Reads.of_owns h hm).below hb

theorem get_some {α : Type} {xs : List α} {k : Nat} (h : k < xs.length) : ∃ x, xs[k]? = some x := ⟨xs[k], List.getElem?_eq_getElem h⟩
/-- A round's element: its cell; that it is the k-th one, kept from the walk. -/
theorem cell_nth {α : Type} {f : α → Value} {w : World} {ao : Option Addr} {xs : List α} (hc : ∀ i x, xs[i]? = some x → ∃ b o, ao = some ⟨b, o, none⟩ ∧ w.cell? ⟨b, o + i, none⟩ = some (f x)) {k : Nat} (h : k < xs.length) :
    ∃ b o x, ao = some ⟨b, o, none⟩ ∧ Hid (xs[k]? = some x) ∧ w.cell? ⟨b, o + k, none⟩ = some (f x) := by
  obtain ⟨x, hx⟩ := get_some h
  obtain ⟨b, o, ha, hcx⟩ := hc k x hx
  exact ⟨b, o, x, ha, hx, hcx⟩
theorem below_setRow' {B : Nat} {a w : World} (h : Below B a w) {g : Nat} (hg : B ≤ g) (cs : Array Value) : Below B a (w.setRow g cs) :=
  h.trans ⟨rfl, rfl, rfl, by simp, fun k hk => setRow_other w g k cs (by omega)⟩
theorem take_snoc' {α : Type} {xs : List α} {k : Nat} {x : α} (h : xs[k]? = some x) : xs.take (k + 1) = xs.take k ++ [x] := by
  rw [List.take_add_one, h]; rfl

end Go.Proofs.YthmdibagcbbgoaaGreat

namespace Go.Proofs.YthmdibagcbbgoaaGreat
open Go.ChangeShapes Go.WideShapes Go.ChangeAt Go.RowKit

theorem open_reads {H : Type} {enc : TypeId × Value → H} {P : Program} {W : World} {r : Reach} {b0 : Nat} {t e : TypeId} {k : IntKind} {B : Nat} {v : Value} {d : DataW H} {p : List MemPlace}
    (hT : P.underlying t = some (.slice e)) (hE : P.underlying e = some (.int k)) (hC : P.cellsOf e = 1)
    (hv : Value.okWide P W r b0 t v) (h : DataW.Trod enc P W 0 (fun _ => true) true t v d p)
    (hsz : ∀ el sp, d = .slice el sp → (el.length + sp.length) * B ≤ reachBytes) :
    ∃ xs : List Int, Reads (Value.int k) W v xs ∧ (∀ n ∈ xs, (Lit.int k n).wf = true) ∧ xs.length * B ≤ reachBytes := by
  obtain ⟨a0, len0, cap0, rfl⟩ := okWide_slice hT hv
  obtain ⟨fuel, hf⟩ := h
  rcases open_ints hT hE hC hf with ⟨hcs, _⟩ | ⟨a, l, c, zs, hcs, _, hl, hm, hz, hx, hcell, hwz⟩
  · simp [Value.cells] at hcs
    obtain ⟨rfl, rfl, rfl⟩ := hcs
    exact ⟨[], Reads.nil _ _, by simp, by simp⟩
  · simp [Value.cells] at hcs
    obtain ⟨rfl, rfl, rfl⟩ := hcs
    simp only [Prod.mk.injEq] at hx
    have hs := hsz _ _ hx.1
    simp only [lits, List.length_map, List.length_take, List.length_drop] at hs
    have hz' : zs.length = cap0 := by simpa using hz
    have hlen : (zs.take len0).length = len0 := by rw [List.length_take]; omega
    refine ⟨zs.take len0, ⟨by rw [hlen]; omega, some a, cap0, by rw [hlen], ⟨by rw [hlen]; omega, fun h => by cases h⟩, fun i x hx => ?_⟩, fun n hn => hwz n (List.mem_of_mem_take hn), ?_⟩
    · have hi : i < len0 := by have := (List.getElem?_eq_some_iff.1 hx).1; omega
      have hx' : zs[i]? = some x := by rw [List.getElem?_take, if_pos hi] at hx; exact hx
      have hci := hcell i (by omega)
      obtain ⟨b, off, spot⟩ := a
      have hspot : spot = none := by simpa [Addr.add] using World.cell?_spot (hcell 0 (by omega))
      subst hspot
      refine ⟨b, off, rfl, ?_⟩
      rw [Addr.add_lit] at hci
      rw [hci, List.getD_eq_getElem?_getD, hx']
      rfl
    · rw [hlen]
      refine Nat.le_trans (Nat.mul_le_mul_right _ ?_) hs
      omega

end Go.Proofs.YthmdibagcbbgoaaGreat

namespace Go.Proofs.YthmdibagcbbgoaaGreat
open Go.RowKit

theorem reads_cells {α : Type} {f : α → Value} {w : World} {a : Addr} {n c : Nat} {ys : List α} (h : Reads f w (.slice (some a) n c) ys) : n = ys.length ∧ ∀ j u, (ys.map f)[j]? = some u → w.cell? (a.add j) = some u := by
  obtain ⟨_, ao, cap, hv, _, hc⟩ := h
  cases hv
  refine ⟨rfl, fun j u hu => ?_⟩
  rw [List.getElem?_map] at hu
  cases hy : ys[j]? with
  | none => rw [hy] at hu; cases hu
  | some y =>
    rw [hy] at hu
    cases hu
    obtain ⟨b, o, hao, hcell⟩ := hc j y hy
    cases hao
    rw [Addr.add_lit]; exact hcell

/-- Behind an append the row is where it was, or in a new block. -/
theorem run_append_where {P : Program} (w : World) (base : Nat) (t ty e : TypeId) (i : TypeInfo) (z : Value) (size bytes : Nat) (ht : P.underlying t = some (.slice e)) (hi : P.info? e = some i) (hz : i.zero = some z)
    (hsize : i.size = size) (hby : i.bytes = bytes) (hzs : z.cells.size = size) (hsz : 0 < size)
    (v : Value) (n : Nat) (xs : List Value) (hown : w.ownsRow base e size v n xs)
    (a : Addr) (m c : Nat) (news : List Value) (hl : news.length = m * size) (hnews : ∀ j u, news[j]? = some u → w.cell? (a.add j) = some u) (h1 : ∀ u ∈ news, u.oneCell' = true)
    (h63 : n + m ≤ maxLen) (hbytes : (n + m) * bytes ≤ 140737488355328) (hbase : base ≤ w.heap.size) :
    ∃ v' w', (Builtin.append_ #[t, t] ty #[v, .slice (some a) m c]).run P w = .ok v' w' ∧ w'.ownsRow base e size v' (n + m) (xs ++ news) ∧ w.grownBy w' v.ownBlock ∧
      (∀ K, K < w.heap.size → some K ≠ v.ownBlock → some K ≠ v'.ownBlock) := by
  obtain ⟨v', w', r1, r2, r3, _⟩ := run_append_own (P := P) w base t ty e i z size bytes ht hi hz hsize hby hzs hsz v n xs hown a m c news hl hnews h1 h63 hbytes hbase
  refine ⟨v', w', r1, r2, r3, ?_⟩
  intro K hK hne hKv
  rcases hown.2 with ⟨rfl, rfl⟩ | ⟨g, cap, cur, rfl, hbg, hg, hnc, hcm, hcs, htake⟩
  · have hx : xs = [] := List.eq_nil_of_length_eq_zero (by simpa using hown.1)
    subst hx
    obtain ⟨v2, w2, q1, q2, _, _⟩ := run_append_own (P := P) w w.heap.size t ty e i z size bytes ht hi hz hsize hby hzs hsz (.slice none 0 0) 0 [] (World.ownsRow_nil _ _ _ _) a m c news hl hnews h1 h63 hbytes (Nat.le_refl _)
    rw [q1] at r1
    cases r1
    have := (q2.lt K hKv.symm).1
    omega
  · by_cases hroom : n + m ≤ cap
    · obtain ⟨w2, q1, _, _⟩ := run_append_fits (P := P) w base t ty e i size ht hi hsize g n cap xs hown a m c news hl hnews h1 hroom
      rw [q1] at r1
      cases r1
      exact hne hKv
    · have holds : ∀ j u, xs[j]? = some u → w.cell? ((⟨g, 0, none⟩ : Addr).add j) = some u := hown.cells (g := g) rfl
      have h63' : ((n + m : Nat) : Int) ≤ 9223372036854775807 := by simp only [maxLen] at h63; omega
      have q1 := run_append_grow (P := P) w t ty e i z ht hi hz ⟨g, 0, none⟩ n cap xs (by rw [hsize]; exact hown.1) holds a m c news (by rw [hsize]; exact hl) hnews (by omega) (by omega) (growslice_fits (by omega) (by rw [hby]; exact hbytes))
      rw [q1] at r1
      cases r1
      simp [Value.ownBlock] at hKv
      omega

theorem run_append_r {P : Program} (w : World) (base : Nat) (t ty e : TypeId) (i : TypeInfo) (z : Value) (bytes : Nat) (ht : P.underlying t = some (.slice e)) (hi : P.info? e = some i) (hz : i.zero = some z)
    (hsize : i.size = 1) (hby : i.bytes = bytes) (hzs : z.cells.size = 1)
    (v : Value) (n : Nat) (xs : List Value) (hown : w.ownsRow base e 1 v n xs)
    {α : Type} (f : α → Value) (u : Value) (ys : List α) (hr : Reads f w u ys) (h1 : ∀ y ∈ ys, (f y).oneCell' = true)
    (h63 : n + ys.length ≤ maxLen) (hbytes : (n + ys.length) * bytes ≤ 140737488355328) (hbase : base ≤ w.heap.size) :
    ∃ v' w', (Builtin.append_ #[t, t] ty #[v, u]).run P w = .ok v' w' ∧ w'.ownsRow base e 1 v' (n + ys.length) (xs ++ ys.map f) ∧ w.grownBy w' v.ownBlock ∧
      (∀ K, K < w.heap.size → some K ≠ v.ownBlock → some K ≠ v'.ownBlock) := by
  obtain ⟨hm, ao, cap, rfl, hnil, hc⟩ := hr
  cases ao with
  | none =>
    have h0 : ys = [] := by
      cases ys with
      | nil => rfl
      | cons y ys => obtain ⟨b, o, h, _⟩ := hc 0 y rfl; cases h
    subst h0
    rw [hnil.2 rfl]
    exact ⟨v, w, run_append_owned_none w base t ty e i 1 ht hi v n xs hown, by simpa using hown, ⟨rfl, rfl, rfl, Nat.le_refl _, fun _ _ _ => rfl⟩, fun _ _ h => h⟩
  | some a =>
    obtain ⟨_, hcells⟩ := reads_cells (f := f) (w := w) (a := a) (n := ys.length) (c := cap) (ys := ys) ⟨hm, _, _, rfl, hnil, hc⟩
    exact run_append_where (P := P) w base t ty e i z 1 bytes ht hi hz hsize hby hzs (by decide) v n xs hown a ys.length cap (ys.map f) (by simp) hcells (by intro u hu; obtain ⟨y, hy, rfl⟩ := List.mem_map.1 hu; exact h1 y hy) h63 hbytes hbase

theorem wpList_append_r {P : Program} (w : World) {ops : Array Oper} {rest : List Oper} {o : Oper} {a : Act} {Q : Exit → Act → World → Prop} (hgd : o.guard = none) (s x : Operand) (t : TypeId)
    (ho : o.op = .call { callee := .builtin .append, args := #[s, x], argTypes := #[t, t] })
    (base : Nat) (e : TypeId) (i : TypeInfo) (z : Value) (bytes : Nat) (ht : P.underlying t = some (.slice e)) (hi : P.info? e = some i) (hz : i.zero = some z)
    (hsize : i.size = 1) (hby : i.bytes = bytes) (hzs : z.cells.size = 1)
    (v : Value) (n : Nat) (xs : List Value) (hs : a.eval s = v) (hown : w.ownsRow base e 1 v n xs)
    {α : Type} (f : α → Value) (u : Value) (ys : List α) (hx : a.eval x = u) (hr : Reads f w u ys) (h1 : ∀ y ∈ ys, (f y).oneCell' = true)
    (h63 : n + ys.length ≤ maxLen) (hbytes : (n + ys.length) * bytes ≤ 140737488355328) (hbase : base ≤ w.heap.size)
    (h : ∀ v' w', w'.ownsRow base e 1 v' (n + ys.length) (xs ++ ys.map f) → w.grownBy w' v.ownBlock → (∀ K, K < w.heap.size → some K ≠ v.ownBlock → some K ≠ v'.ownBlock) → wpList P ops Q rest (a.put o.dst v') w') : wpList P ops Q (o :: rest) a w := by
  refine wpList_plain hgd fun K hK => ?_
  obtain ⟨v', w', hr, h2, h3, h4⟩ := run_append_r (P := P) w base t o.type e i z bytes ht hi hz hsize hby hzs v n xs hown f u ys hr h1 h63 hbytes hbase
  unfold Oper.wp execOp
  simp only [ho, resolve, invoke, builtin, Sem.run_bind, Sem.run_pure, Result.andThen_ok, List.map_toArray, List.map_cons, List.map_nil, hs, hx, hr]
  exact hK _ _ (h v' w' h2 h3 h4)

/-- A literal of one element reads as it. -/
theorem reads_one {α : Type} (f : α → Value) (w : World) (x : α) (e : TypeId) : Reads f (w.alloc (.cells #[f x] e)) (.slice (some ⟨w.heap.size, 0, none⟩) 1 1) [x] := by
  refine ⟨by simp [maxLen], _, _, rfl, ⟨by simp, fun h => by cases h⟩, fun i z hz => ⟨_, _, rfl, ?_⟩⟩
  rw [cell_of_row _ _ _ _ _ _ (heap_alloc_new _ _)]
  match i, hz with
  | 0, hz => simp at hz; subst hz; simp
  | n + 1, hz => simp at hz

/-- A literal without elements owns nothing yet. -/
theorem owns_empty (w : World) {base : Nat} (e : TypeId) (hb : base ≤ w.heap.size) : (w.alloc (.cells #[] e)).ownsRow base e 1 (.slice (some ⟨w.heap.size, 0, none⟩) 0 0) 0 [] :=
  World.ownsRow_made w #[] 0 hb (by simp [maxLen]) (by simp)
/-- Behind a step that wrote to a row of the call's own alone, what was there is as it was. -/
theorem bl_grown {w a b : World} {row : Option Nat} (h : Below w.heap.size w a) (hg : a.grownBy b row) (hr : ∀ k, row = some k → w.heap.size ≤ k) : Below w.heap.size w b := h.grown hg h.size hr
theorem owns_row_ge {w : World} {base : Nat} {e : TypeId} {s : Nat} {v : Value} {n : Nat} {xs : List Value} (h : w.ownsRow base e s v n xs) : ∀ k, v.ownBlock = some k → base ≤ k := fun k hk => (h.lt k hk).1

/-- A row of the call's own, its block known whole: what stands in its first cells. -/
theorem owns_block {α : Type} {f : α → Value} {w : World} {base : Nat} {e : TypeId} {v : Value} {xs : List α} (h : w.ownsRow base e 1 v xs.length (xs.map f)) (hp : 0 < xs.length) :
    ∃ g cap cur, v = .slice (some ⟨g, 0, none⟩) xs.length cap ∧ base ≤ g ∧ w.heap[g]? = some (.cells cur e (0, 0)) ∧ ∀ (k : Nat) x, xs[k]? = some x → cur[k]? = some (f x) := by
  rcases h.2 with ⟨_, h0⟩ | ⟨g, cap, cur, hv, hb, hg, hle, hcap, hsz, htake⟩
  · omega
  · refine ⟨g, cap, cur, hv, hb, hg, fun k x hx => ?_⟩
    have hi : k < xs.length := (List.getElem?_eq_some_iff.1 hx).1
    have h2 : (xs.map f)[k]? = some (f x) := by rw [List.getElem?_map, hx]; rfl
    rw [← htake, List.getElem?_take, if_pos (by omega)] at h2
    simpa using h2
theorem kept_block {w w' : World} {g : Nat} {o : Obj} {row : Option Nat} (h : w.heap[g]? = some o) (hg : w.grownBy w' row) (hne : some g ≠ row) : w'.heap[g]? = some o := (hg.block g (Array.getElem?_eq_some_iff.1 h).1 hne).trans h
theorem kept_alloc {w : World} {g : Nat} {o : Obj} (h : w.heap[g]? = some o) (o' : Obj) : (w.alloc o').heap[g]? = some o := (Below.heap_alloc _ _ _ (Array.getElem?_eq_some_iff.1 h).1).trans h
theorem lt_of_get {w : World} {g : Nat} {o : Obj} (h : w.heap[g]? = some o) : g < w.heap.size := (Array.getElem?_eq_some_iff.1 h).1

end Go.Proofs.YthmdibagcbbgoaaGreat

namespace Go.Proofs.YthmdibagcbbgoaaGreat
open Go.RowKit

/-- Of what was there in w nothing but the blocks in ex may have turned. -/
structure Frm (ex : List Nat) (w w' : World) : Prop where
  os : w'.os = w.os
  tape : w'.tape = w.tape
  output : w'.output = w.output
  size : w.heap.size ≤ w'.heap.size
  block : ∀ k, k < w.heap.size → k ∉ ex → w'.heap[k]? = w.heap[k]?

theorem Frm.refl (ex : List Nat) (w : World) : Frm ex w w := ⟨rfl, rfl, rfl, Nat.le_refl _, fun _ _ _ => rfl⟩
theorem Frm.trans {ex : List Nat} {a b c : World} (h : Frm ex a b) (k : Frm ex b c) : Frm ex a c :=
  ⟨k.os.trans h.os, k.tape.trans h.tape, k.output.trans h.output, Nat.le_trans h.size k.size, fun i hi hn => (k.block i (Nat.lt_of_lt_of_le hi h.size) hn).trans (h.block i hi hn)⟩
theorem Frm.mono {ex ex' : List Nat} {a b : World} (h : Frm ex a b) (hs : ∀ k ∈ ex, k ∈ ex' ∨ a.heap.size ≤ k) : Frm ex' a b :=
  ⟨h.os, h.tape, h.output, h.size, fun i hi hn => h.block i hi fun hm => by rcases hs i hm with h | h; exact hn h; omega⟩
theorem Frm.of_below {ex : List Nat} {a b : World} (h : Below a.heap.size a b) : Frm ex a b := ⟨h.os, h.tape, h.output, h.size, fun k hk _ => h.block k hk⟩
theorem Frm.then_below {ex : List Nat} {a b c : World} (h : Frm ex a b) (k : Below b.heap.size b c) : Frm ex a c := h.trans (.of_below k)
theorem Frm.below {ex : List Nat} {a b : World} (h : Frm ex a b) (hs : ∀ k ∈ ex, a.heap.size ≤ k) : Below a.heap.size a b :=
  ⟨h.os, h.tape, h.output, h.size, fun k hk => h.block k hk fun hm => by have := hs k hm; omega⟩
/-- Blocks that were made behind w do not count for w. -/
theorem bl_frm {w a b : World} {ex : List Nat} (h : Below w.heap.size w a) (k : Frm ex a b) (hs : ∀ i ∈ ex, w.heap.size ≤ i) : Below w.heap.size w b :=
  h.trans ⟨k.os, k.tape, k.output, k.size, fun i hi => k.block i (Nat.lt_of_lt_of_le hi h.size) fun hm => by have := hs i hm; omega⟩
theorem Frm.get {ex : List Nat} {a b : World} (h : Frm ex a b) {k : Nat} {o : Obj} (hk : a.heap[k]? = some o) (hn : k ∉ ex) : b.heap[k]? = some o := (h.block k (lt_of_get hk) hn).trans hk
theorem Frm.cell {ex : List Nat} {a b : World} (h : Frm ex a b) {k o : Nat} {v : Value} (hk : a.cell? ⟨k, o, none⟩ = some v) (hn : k ∉ ex) : b.cell? ⟨k, o, none⟩ = some v :=
  (World.cell?_of_block (a := ⟨k, o, none⟩) (h.block k (cell_lt hk) hn)).trans hk
theorem Frm.alloc {ex : List Nat} {a b : World} (h : Frm ex a b) (o : Obj) : Frm ex a (b.alloc o) := h.then_below (bl_alloc (bl_refl _) o)
theorem Frm.setCell {ex : List Nat} {a b : World} (h : Frm ex a b) {p : Addr} (hp : p.block ∈ ex) (v : Value) : Frm ex a (b.setCell p v) :=
  h.trans ⟨rfl, rfl, rfl, by simp [World.setCell], fun k _ hn => Below.heap_setCell _ _ _ _ (fun e => hn (by rw [e]; exact hp))⟩
theorem Frm.setCell' {ex : List Nat} {a b : World} (h : Frm ex a b) {p : Addr} (hp : a.heap.size ≤ p.block) (v : Value) : Frm ex a (b.setCell p v) :=
  ⟨h.os, h.tape, h.output, Nat.le_trans h.size (by simp [World.setCell]), fun k hk hn => (Below.heap_setCell _ _ _ _ (by omega)).trans (h.block k hk hn)⟩
theorem Frm.grown {ex : List Nat} {a b c : World} {row : Option Nat} (h : Frm ex a b) (hg : b.grownBy c row) (hr : ∀ k, row = some k → k ∈ ex ∨ a.heap.size ≤ k) : Frm ex a c :=
  ⟨hg.os.trans h.os, hg.tape.trans h.tape, hg.output.trans h.output, Nat.le_trans h.size hg.size, fun k hk hn =>
    (hg.block k (Nat.lt_of_lt_of_le hk h.size) (fun e => by rcases hr k e.symm with h | h; exact hn h; omega)).trans (h.block k hk hn)⟩
theorem Frm.reads {ex : List Nat} {a b : World} (h : Frm ex a b) {α : Type} {f : α → Value} {v : Value} {xs : List α} (hr : Reads f a v xs) (hn : v.ownBlock = none ∨ ∃ k, v.ownBlock = some k ∧ k ∉ ex) : Reads f b v xs := by
  obtain ⟨hm, ao, cap, rfl, hnil, hc⟩ := hr
  refine ⟨hm, ao, cap, rfl, hnil, fun i x hx => ?_⟩
  obtain ⟨k, o, rfl, hcell⟩ := hc i x hx
  refine ⟨k, o, rfl, h.cell hcell ?_⟩
  rcases hn with hn | ⟨k', hk', hn⟩
  · simp [Value.ownBlock] at hn
  · simp [Value.ownBlock] at hk'; rw [hk']; exact hn

theorem ownFrom_frm {β : Type} {B : Nat} {ex : List Nat} {w0 : World} (hB : w0.heap.size ≤ B) : OwnFrom B (fun (_ : β) W => Frm ex w0 W) :=
  fun _ _ _ _ hs hg hr => hs.grown hg fun k hk => .inr (Nat.le_trans hB (hr k hk).1)
theorem frm_put {ex : List Nat} {a b : World} (h : Frm ex a b) {l : Nat} {o : Obj} (o' : Obj) (hl : a.heap.size ≤ l) (_ : b.heap[l]? = some o) : Frm ex a (b.putObj l o') :=
  ⟨h.os, h.tape, h.output, by simpa using h.size, fun k hk hn => (World.putObj_heap_other (by omega)).trans (h.block k hk hn)⟩
theorem Frm.drew {ex : List Nat} {a b : World} (h : Frm ex a b) : Frm ex a b.drew := ⟨h.os, h.tape, h.output, h.size, h.block⟩

theorem two_blocks (w : World) (A B : Obj) : ((w.alloc A).alloc B).heap[w.heap.size]? = some A ∧ ((w.alloc A).alloc B).heap[w.heap.size + 1]? = some B ∧ ((w.alloc A).alloc B).heap.size = w.heap.size + 2 ∧ Below w.heap.size w ((w.alloc A).alloc B) :=
  ⟨heap_alloc2_old _ _ _, heap_alloc2_new _ _ _, by simp, bl_alloc (bl_alloc (bl_refl w) _) _⟩
theorem four_blocks (w : World) (A B C D : Obj) : ∃ V, (((w.alloc A).alloc B).alloc C).alloc D = V ∧ V.heap[w.heap.size]? = some A ∧ V.heap[w.heap.size + 1]? = some B ∧ V.heap[w.heap.size + 2]? = some C ∧ V.heap[w.heap.size + 3]? = some D ∧ V.heap.size = w.heap.size + 4 ∧ Below w.heap.size w V := by
  obtain ⟨a, b, c, d⟩ := two_blocks w A B
  obtain ⟨a', b', c', d'⟩ := two_blocks ((w.alloc A).alloc B) C D
  rw [c] at a' b' c'
  exact ⟨_, rfl, kept_alloc (kept_alloc a _) _, kept_alloc (kept_alloc b _) _, a', b', c', bl_trans d d'⟩
theorem bl_get {a b : World} (h : Below a.heap.size a b) {k : Nat} {o : Obj} (hk : a.heap[k]? = some o) : b.heap[k]? = some o := (h.block k (lt_of_get hk)).trans hk

end Go.Proofs.YthmdibagcbbgoaaGreat
