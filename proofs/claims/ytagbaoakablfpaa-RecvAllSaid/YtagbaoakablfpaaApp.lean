/- append(own, src...), own nil or a row of the call's own, src whatever reads as a list: a law for the walk. No program in sight. Conditions: the lengths' own. -/
import Derived.WalkKit
import Derived.Laws.OwnMore
import Derived.OwnWalkIn
import Derived.Test.YtagbaoakablfpaaRead
namespace Go.Proofs.Ytagbaoakablfpaa
open Go.RowKit

theorem reads_cells {α : Type} {f : α → Value} {w : World} {a : Addr} {n c : Nat} {ys : List α} (h : Reads f w (.slice (some a) n c) ys) : n = ys.length ∧ ∀ j u, (ys.map f)[j]? = some u → w.cell? (a.add j) = some u := by
  obtain ⟨_, ao, cap, hv, _, hc⟩ := h
  cases hv
  refine ⟨rfl, fun j u hu => ?_⟩
  rw [List.getElem?_map] at hu
  cases hy : ys[j]? with
  | none => rw [hy] at hu; cases hu
  | some y =>
    rw [hy] at hu
    cases hu
    obtain ⟨b, o, hao, hcell⟩ := hc j y hy
    cases hao
    rw [Addr.add_lit]; exact hcell

/-- Behind an append the row is where it was, or in a new block. -/
theorem run_append_where {P : Program} (w : World) (base : Nat) (t ty e : TypeId) (i : TypeInfo) (z : Value) (size bytes : Nat) (ht : P.underlying t = some (.slice e)) (hi : P.info? e = some i) (hz : i.zero = some z)
    (hsize : i.size = size) (hby : i.bytes = bytes) (hzs : z.cells.size = size) (hsz : 0 < size)
    (v : Value) (n : Nat) (xs : List Value) (hown : w.ownsRow base e size v n xs)
    (a : Addr) (m c : Nat) (news : List Value) (hl : news.length = m * size) (hnews : ∀ j u, news[j]? = some u → w.cell? (a.add j) = some u) (h1 : ∀ u ∈ news, u.oneCell' = true)
    (h63 : n + m ≤ maxLen) (hbytes : (n + m) * bytes ≤ 140737488355328) (hbase : base ≤ w.heap.size) :
    ∃ v' w', (Builtin.append_ #[t, t] ty #[v, .slice (some a) m c]).run P w = .ok v' w' ∧ w'.ownsRow base e size v' (n + m) (xs ++ news) ∧ w.grownBy w' v.ownBlock ∧
      (∀ K, K < w.heap.size → some K ≠ v.ownBlock → some K ≠ v'.ownBlock) := by
  obtain ⟨v', w', r1, r2, r3, _⟩ := run_append_own (P := P) w base t ty e i z size bytes ht hi hz hsize hby hzs hsz v n xs hown a m c news hl hnews h1 h63 hbytes hbase
  refine ⟨v', w', r1, r2, r3, ?_⟩
  intro K hK hne hKv
  rcases hown.2 with ⟨rfl, rfl⟩ | ⟨g, cap, cur, rfl, hbg, hg, hnc, hcm, hcs, htake⟩
  · have hx : xs = [] := List.eq_nil_of_length_eq_zero (by simpa using hown.1)
    subst hx
    obtain ⟨v2, w2, q1, q2, _, _⟩ := run_append_own (P := P) w w.heap.size t ty e i z size bytes ht hi hz hsize hby hzs hsz (.slice none 0 0) 0 [] (World.ownsRow_nil _ _ _ _) a m c news hl hnews h1 h63 hbytes (Nat.le_refl _)
    rw [q1] at r1
    cases r1
    have := (q2.lt K hKv.symm).1
    omega
  · by_cases hroom : n + m ≤ cap
    · obtain ⟨w2, q1, _, _⟩ := run_append_fits (P := P) w base t ty e i size ht hi hsize g n cap xs hown a m c news hl hnews h1 hroom
      rw [q1] at r1
      cases r1
      exact hne hKv
    · have holds : ∀ j u, xs[j]? = some u → w.cell? ((⟨g, 0, none⟩ : Addr).add j) = some u := hown.cells (g := g) rfl
      have h63' : ((n + m : Nat) : Int) ≤ 9223372036854775807 := by simp only [maxLen] at h63; omega
      have q1 := run_append_grow (P := P) w t ty e i z ht hi hz ⟨g, 0, none⟩ n cap xs (by rw [hsize]; exact hown.1) holds a m c news (by rw [hsize]; exact hl) hnews (by omega) (by omega) (growslice_fits (by omega) (by rw [hby]; exact hbytes))
      rw [q1] at r1
      cases r1
      simp [Value.ownBlock] at hKv
      omega

theorem run_append_r {P : Program} (w : World) (base : Nat) (t ty e : TypeId) (i : TypeInfo) (z : Value) (bytes : Nat) (ht : P.underlying t = some (.slice e)) (hi : P.info? e = some i) (hz : i.zero = some z)
    (hsize : i.size = 1) (hby : i.bytes = bytes) (hzs : z.cells.size = 1)
    (v : Value) (n : Nat) (xs : List Value) (hown : w.ownsRow base e 1 v n xs)
    {α : Type} (f : α → Value) (u : Value) (ys : List α) (hr : Reads f w u ys) (h1 : ∀ y ∈ ys, (f y).oneCell' = true)
    (h63 : n + ys.length ≤ maxLen) (hbytes : (n + ys.length) * bytes ≤ 140737488355328) (hbase : base ≤ w.heap.size) :
    ∃ v' w', (Builtin.append_ #[t, t] ty #[v, u]).run P w = .ok v' w' ∧ w'.ownsRow base e 1 v' (n + ys.length) (xs ++ ys.map f) ∧ w.grownBy w' v.ownBlock ∧
      (∀ K, K < w.heap.size → some K ≠ v.ownBlock → some K ≠ v'.ownBlock) := by
  obtain ⟨hm, ao, cap, rfl, hnil, hc⟩ := hr
  cases ao with
  | none =>
    have h0 : ys = [] := by
      cases ys with
      | nil => rfl
      | cons y ys => obtain ⟨b, o, h, _⟩ := hc 0 y rfl; cases h
    subst h0
    rw [hnil.2 rfl]
    exact ⟨v, w, run_append_owned_none w base t ty e i 1 ht hi v n xs hown, by simpa using hown, ⟨rfl, rfl, rfl, Nat.le_refl _, fun _ _ _ => rfl⟩, fun _ _ h => h⟩
  | some a =>
    obtain ⟨_, hcells⟩ := reads_cells (f := f) (w := w) (a := a) (n := ys.length) (c := cap) (ys := ys) ⟨hm, _, _, rfl, hnil, hc⟩
    exact run_append_where (P := P) w base t ty e i z 1 bytes ht hi hz hsize hby hzs (by decide) v n xs hown a ys.length cap (ys.map f) (by simp) hcells (by intro u hu; obtain ⟨y, hy, rfl⟩ := List.mem_map.1 hu; exact h1 y hy) h63 hbytes hbase

theorem wpList_append_r {P : Program} (w : World) {ops : Array Oper} {rest : List Oper} {o : Oper} {a : Act} {Q : Exit → Act → World → Prop} (hgd : o.guard = none) (s x : Operand) (t : TypeId)
    (ho : o.op = .call { callee := .builtin .append, args := #[s, x], argTypes := #[t, t] })
    (base : Nat) (e : TypeId) (i : TypeInfo) (z : Value) (bytes : Nat) (ht : P.underlying t = some (.slice e)) (hi : P.info? e = some i) (hz : i.zero = some z)
    (hsize : i.size = 1) (hby : i.bytes = bytes) (hzs : z.cells.size = 1)
    (v : Value) (n : Nat) (xs : List Value) (hs : a.eval s = v) (hown : w.ownsRow base e 1 v n xs)
    {α : Type} (f : α → Value) (u : Value) (ys : List α) (hx : a.eval x = u) (hr : Reads f w u ys) (h1 : ∀ y ∈ ys, (f y).oneCell' = true)
    (h63 : n + ys.length ≤ maxLen) (hbytes : (n + ys.length) * bytes ≤ 140737488355328) (hbase : base ≤ w.heap.size)
    (h : ∀ v' w', w'.ownsRow base e 1 v' (n + ys.length) (xs ++ ys.map f) → w.grownBy w' v.ownBlock → (∀ K, K < w.heap.size → some K ≠ v.ownBlock → some K ≠ v'.ownBlock) → wpList P ops Q rest (a.put o.dst v') w') : wpList P ops Q (o :: rest) a w := by
  refine wpList_plain hgd fun K hK => ?_
  obtain ⟨v', w', hr, h2, h3, h4⟩ := run_append_r (P := P) w base t o.type e i z bytes ht hi hz hsize hby hzs v n xs hown f u ys hr h1 h63 hbytes hbase
  unfold Oper.wp execOp
  simp only [ho, resolve, invoke, builtin, Sem.run_bind, Sem.run_pure, Result.andThen_ok, List.map_toArray, List.map_cons, List.map_nil, hs, hx, hr]
  exact hK _ _ (h v' w' h2 h3 h4)

/-- A literal of one element reads as it. -/
theorem reads_one {α : Type} (f : α → Value) (w : World) (x : α) (e : TypeId) : Reads f (w.alloc (.cells #[f x] e)) (.slice (some ⟨w.heap.size, 0, none⟩) 1 1) [x] := by
  refine ⟨by simp [maxLen], _, _, rfl, ⟨by simp, fun h => by cases h⟩, fun i z hz => ⟨_, _, rfl, ?_⟩⟩
  rw [cell_of_row _ _ _ _ _ _ (heap_alloc_new _ _)]
  match i, hz with
  | 0, hz => simp at hz; subst hz; simp
  | n + 1, hz => simp at hz

/-- A literal without elements owns nothing yet. -/
theorem owns_empty (w : World) {base : Nat} (e : TypeId) (hb : base ≤ w.heap.size) : (w.alloc (.cells #[] e)).ownsRow base e 1 (.slice (some ⟨w.heap.size, 0, none⟩) 0 0) 0 [] :=
  World.ownsRow_made w #[] 0 hb (by simp [maxLen]) (by simp)
/-- Behind a step that wrote to a row of the call's own alone, what was there is as it was. -/
theorem bl_grown {w a b : World} {row : Option Nat} (h : Below w.heap.size w a) (hg : a.grownBy b row) (hr : ∀ k, row = some k → w.heap.size ≤ k) : Below w.heap.size w b := h.grown hg h.size hr
theorem owns_row_ge {w : World} {base : Nat} {e : TypeId} {s : Nat} {v : Value} {n : Nat} {xs : List Value} (h : w.ownsRow base e s v n xs) : ∀ k, v.ownBlock = some k → base ≤ k := fun k hk => (h.lt k hk).1

/-- A row of the call's own, its block known whole: what stands in its first cells. -/
theorem owns_block {α : Type} {f : α → Value} {w : World} {base : Nat} {e : TypeId} {v : Value} {xs : List α} (h : w.ownsRow base e 1 v xs.length (xs.map f)) (hp : 0 < xs.length) :
    ∃ g cap cur, v = .slice (some ⟨g, 0, none⟩) xs.length cap ∧ base ≤ g ∧ w.heap[g]? = some (.cells cur e (0, 0)) ∧ ∀ (k : Nat) x, xs[k]? = some x → cur[k]? = some (f x) := by
  rcases h.2 with ⟨_, h0⟩ | ⟨g, cap, cur, hv, hb, hg, hle, hcap, hsz, htake⟩
  · omega
  · refine ⟨g, cap, cur, hv, hb, hg, fun k x hx => ?_⟩
    have hi : k < xs.length := (List.getElem?_eq_some_iff.1 hx).1
    have h2 : (xs.map f)[k]? = some (f x) := by rw [List.getElem?_map, hx]; rfl
    rw [← htake, List.getElem?_take, if_pos (by omega)] at h2
    simpa using h2
theorem kept_block {w w' : World} {g : Nat} {o : Obj} {row : Option Nat} (h : w.heap[g]? = some o) (hg : w.grownBy w' row) (hne : some g ≠ row) : w'.heap[g]? = some o := (hg.block g (Array.getElem?_eq_some_iff.1 h).1 hne).trans h
theorem kept_alloc {w : World} {g : Nat} {o : Obj} (h : w.heap[g]? = some o) (o' : Obj) : (w.alloc o').heap[g]? = some o := (Below.heap_alloc _ _ _ (Array.getElem?_eq_some_iff.1 h).1).trans h
theorem lt_of_get {w : World} {g : Nat} {o : Obj} (h : w.heap[g]? = some o) : g < w.heap.size := (Array.getElem?_eq_some_iff.1 h).1

end Go.Proofs.Ytagbaoakablfpaa
