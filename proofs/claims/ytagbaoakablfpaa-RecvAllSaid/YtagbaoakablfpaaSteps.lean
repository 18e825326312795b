/- Laws of append and clear at a step of a region that draws its order, and in a plain region. No program in sight. Conditions: the lengths' own. -/
import Derived.RegionTactic
import Derived.Laws.CopyRow
import Derived.Test.YtagbaoakablfpaaAppFull
namespace Go.Proofs.Ytagbaoakablfpaa
open Go.RowKit

section
variable {P : Program} {ops : Array Oper} {o : Oper} {a : Act} {K : Act → World → Prop} {Q : Exit → Act → World → Prop} {E : Prop}

theorem step_of_wp {w : World} (hgd : o.guard = none) (h : o.wp P a w K Q) : if Region.wanted o (yielded ops a.tmps) = true then o.wp P a w K Q else E := by
  rw [if_pos (by simp [Region.wanted, hgd])]; exact h

theorem wp_append_r (w : World) (s x : Operand) (t : TypeId)
    (ho : o.op = .call { callee := .builtin .append, args := #[s, x], argTypes := #[t, t] })
    (base : Nat) (e : TypeId) (i : TypeInfo) (z : Value) (bytes : Nat) (ht : P.underlying t = some (.slice e)) (hi : P.info? e = some i) (hz : i.zero = some z)
    (hsize : i.size = 1) (hby : i.bytes = bytes) (hzs : z.cells.size = 1)
    (v : Value) (n : Nat) (xs : List Value) (hs : a.eval s = v) (hown : w.ownsRow base e 1 v n xs)
    {α : Type} (f : α → Value) (u : Value) (ys : List α) (hx : a.eval x = u) (hr : Reads f w u ys) (h1 : ∀ y ∈ ys, (f y).oneCell' = true)
    (h63 : n + ys.length ≤ maxLen) (hbytes : (n + ys.length) * bytes ≤ 140737488355328) (hbase : base ≤ w.heap.size)
    (h : ∀ v' w', w'.ownsRow base e 1 v' (n + ys.length) (xs ++ ys.map f) → w.grownBy w' v.ownBlock → K (a.put o.dst v') w') : o.wp P a w K Q := by
  obtain ⟨v', w', hr, h2, h3, h4⟩ := run_append_r (P := P) w base t o.type e i z bytes ht hi hz hsize hby hzs v n xs hown f u ys hr h1 h63 hbytes hbase
  unfold Oper.wp execOp
  simp only [ho, resolve, invoke, builtin, Sem.run_bind, Sem.run_pure, Result.andThen_ok, List.map_toArray, List.map_cons, List.map_nil, hs, hx, hr]
  exact h v' w' h2 h3

theorem wp_append_full (w : World) (s x : Operand) (t : TypeId)
    (ho : o.op = .call { callee := .builtin .append, args := #[s, x], argTypes := #[t, t] })
    (e : TypeId) (i : TypeInfo) (z : Value) (bytes : Nat) (ht : P.underlying t = some (.slice e)) (hi : P.info? e = some i) (hz : i.zero = some z)
    (hsize : i.size = 1) (hby : i.bytes = bytes) (hzs : z.cells.size = 1)
    (ao : Option Addr) (n : Nat) (vs : List Value) (hs : a.eval s = .slice ao n n) (hr : Reads id w (.slice ao n n) vs)
    (ad : Addr) (m c : Nat) (news : List Value) (hx : a.eval x = .slice (some ad) m c) (hl : news.length = m) (hm0 : 0 < m) (hnews : ∀ j u, news[j]? = some u → w.cell? (ad.add j) = some u) (h1 : ∀ u ∈ news, u.oneCell' = true)
    (h63 : n + m ≤ maxLen) (hbytes : (n + m) * bytes ≤ 140737488355328)
    (h : ∀ v' w', w'.ownsRow w.heap.size e 1 v' (n + m) (vs ++ news) → Below w.heap.size w w' → K (a.put o.dst v') w') : o.wp P a w K Q := by
  obtain ⟨v', w', hrun, h2, h3⟩ := run_append_full (P := P) w t o.type e i z bytes ht hi hz hsize hby hzs ao n vs hr ad m c news hl hm0 hnews h1 h63 hbytes
  unfold Oper.wp execOp
  simp only [ho, resolve, invoke, builtin, Sem.run_bind, Sem.run_pure, Result.andThen_ok, List.map_toArray, List.map_cons, List.map_nil, hs, hx, hrun]
  exact h v' w' h2 h3
end

/-- The slice v is a row of one-cell elements of type e: its block is known whole. -/
def ArrAt (w : World) (e : TypeId) (v : Value) (vs : List Value) : Prop :=
  (v = .slice none 0 0 ∧ vs = []) ∨ ∃ g off cap cur, v = .slice (some ⟨g, off, none⟩) vs.length cap ∧ w.heap[g]? = some (.cells cur e (0, 0)) ∧ off + cap ≤ cur.size ∧ vs.length ≤ cap ∧ cap ≤ maxLen ∧ ∀ (i : Nat) x, vs[i]? = some x → cur[off + i]? = some x
theorem ArrAt.nil (w : World) (e : TypeId) : ArrAt w e (.slice none 0 0) [] := .inl ⟨rfl, rfl⟩
theorem ArrAt.of_owns {w : World} {base : Nat} {e : TypeId} {v : Value} {vs : List Value} (h : w.ownsRow base e 1 v vs.length vs) : ArrAt w e v vs := by
  rcases h.2 with ⟨h1, h0⟩ | ⟨g, cap, cur, rfl, hb, hg, hle, hcap, hsz, htake⟩
  · exact .inl ⟨h1, List.eq_nil_of_length_eq_zero h0⟩
  · refine .inr ⟨g, 0, cap, cur, rfl, hg, by omega, hle, hcap, fun i x hx => ?_⟩
    have hi : i < vs.length := (List.getElem?_eq_some_iff.1 hx).1
    rw [← htake, List.getElem?_take, if_pos (by omega)] at hx
    simpa using hx
theorem ArrAt.form {w : World} {e : TypeId} {v : Value} {vs : List Value} (h : ArrAt w e v vs) : ∃ ao cap, v = .slice ao vs.length cap ∧ vs.length ≤ cap ∧ cap ≤ maxLen ∧ (ao = none → cap = 0) := by
  rcases h with ⟨rfl, rfl⟩ | ⟨g, off, cap, cur, rfl, _, _, h1, h2, _⟩
  · exact ⟨none, 0, rfl, by simp, by simp, fun _ => rfl⟩
  · exact ⟨_, _, rfl, h1, h2, fun h => by cases h⟩
theorem ArrAt.reads {w : World} {e : TypeId} {v : Value} {vs : List Value} (h : ArrAt w e v vs) : Reads id w v vs := by
  rcases h with ⟨rfl, rfl⟩ | ⟨g, off, cap, cur, rfl, hg, _, h1, h2, hc⟩
  · exact Reads.nil _ _
  · refine ⟨by omega, _, _, rfl, ⟨h1, fun h => by cases h⟩, fun i x hx => ⟨g, off, rfl, ?_⟩⟩
    rw [cell_of_row w g (off + i) cur e (0, 0) hg]
    exact hc i x hx
/-- The row cut to its own length. -/
theorem ArrAt.full {w : World} {e : TypeId} {ao : Option Addr} {n cap : Nat} {vs : List Value} (h : ArrAt w e (.slice ao n cap) vs) : Reads id w (.slice ao n n) vs := by
  obtain ⟨hm, ao', cap', hv, ⟨h1, h2⟩, hc⟩ := h.reads
  cases hv
  refine ⟨hm, _, _, rfl, ⟨Nat.le_refl _, fun h => ?_⟩, hc⟩
  have := h2 h
  omega
theorem ArrAt.fr {F : Nat → Prop} {w w' : World} {e : TypeId} {v : Value} {vs : List Value} (h : ArrAt w e v vs) (hf : Fr F w w') (hn : ∀ k, v.ownBlock = some k → ¬ F k) : ArrAt w' e v vs := by
  rcases h with h | ⟨g, off, cap, cur, rfl, hg, r⟩
  · exact .inl h
  · exact .inr ⟨g, off, cap, cur, rfl, hf.get hg (hn g rfl), r⟩
/-- An element's cell. -/
theorem ArrAt.at_ {w : World} {e : TypeId} {ao : Option Addr} {n cap : Nat} {vs : List Value} (h : ArrAt w e (.slice ao n cap) vs) {i : Nat} {x : Value} (hx : vs[i]? = some x) : ∃ g off, ao = some ⟨g, off, none⟩ ∧ w.cell? ⟨g, off + i, none⟩ = some x := by
  rcases h with ⟨_, rfl⟩ | ⟨g, off, cap, cur, hv, hg, _, h1, h2, hc⟩
  · simp at hx
  · cases hv
    exact ⟨g, off, rfl, by rw [cell_of_row w g (off + i) cur e (0, 0) hg]; exact hc i x hx⟩
theorem ArrAt.lt {w : World} {e : TypeId} {v : Value} {vs : List Value} (h : ArrAt w e v vs) : ∀ k, v.ownBlock = some k → k < w.heap.size := by
  intro k hk
  rcases h with ⟨rfl, _⟩ | ⟨g, off, cap, cur, rfl, hg, _⟩
  · simp [Value.ownBlock] at hk
  · simp [Value.ownBlock] at hk; subst hk; exact lt_of_get hg

/-- s[:n:n], s[k:], s[:k] of whatever slice with one-cell elements. -/
theorem run_cut_full {P : Program} {t e : TypeId} {i : TypeInfo} (ht : P.underlying t = some (.slice e)) (hi : P.info? e = some i) (hs : i.size = 1) (W : World) (ao : Option Addr) (n cap : Nat) (h : n ≤ cap) :
    (Instr.sliceAt t (.slice ao n cap) none (some (.int .i64 n)) (some (.int .i64 n))).run P W = .ok (.slice ao n n) W := by
  have he : P.elem t = e := by simp [Program.elem, ht]
  have ht' : P.underlying t = some (.slice (P.elem t)) := by rw [he, ht]
  rw [run_sliceAt_slice W t _ _ _ _ ht', run_slice_hm W t ao n cap ht' .i64 .i64 n n (by omega) (by omega) (by omega)]
  simp [sizeOf, typeInfo, he, hi, hs, sliced, Addr.add]
theorem run_cut_to {P : Program} {t e : TypeId} {i : TypeInfo} (ht : P.underlying t = some (.slice e)) (hi : P.info? e = some i) (hs : i.size = 1) (W : World) (ao : Option Addr) (n cap k : Nat) (h : k ≤ cap) :
    (Instr.sliceAt t (.slice ao n cap) none (some (.int .i64 k)) none).run P W = .ok (.slice ao k cap) W := by
  have he : P.elem t = e := by simp [Program.elem, ht]
  have ht' : P.underlying t = some (.slice (P.elem t)) := by rw [he, ht]
  rw [run_sliceAt_slice W t _ _ _ _ ht', run_slice_h W t ao n cap ht' .i64 k (by omega) (by omega)]
  simp [sizeOf, typeInfo, he, hi, hs, sliced, Addr.add]
theorem run_cut_from {P : Program} {t e : TypeId} {i : TypeInfo} (ht : P.underlying t = some (.slice e)) (hi : P.info? e = some i) (hs : i.size = 1) (W : World) (ao : Option Addr) (n cap k : Nat) (h : k ≤ n) :
    (Instr.sliceAt t (.slice ao n cap) (some (.int .i64 k)) none none).run P W = .ok (.slice (if cap = k then ao else ao.map (·.add k)) (n - k) (cap - k)) W := by
  have he : P.elem t = e := by simp [Program.elem, ht]
  have ht' : P.underlying t = some (.slice (P.elem t)) := by rw [he, ht]
  rw [run_sliceAt_slice W t _ _ _ _ ht', run_slice_l W t ao n cap ht' .i64 k (by omega) (by omega)]
  simp [sizeOf, typeInfo, he, hi, hs, sliced]

/-- clear(s[:n]): the row's other cells are as they were. -/
theorem run_clear {P : Program} (w : World) (t ty e : TypeId) (i : TypeInfo) (z : Value) (ht : P.underlying t = some (.slice e)) (hi : P.info? e = some i) (hz : i.zero = some z) (hzs : z.cells.size = 1) (hz1 : ∀ x ∈ z.cells.toList, x.oneCell' = true)
    (ao : Option Addr) (n m cap cap' : Nat) (vs : List Value) (h : ArrAt w e (.slice ao n cap) vs) (hm : m ≤ n) :
    ∃ w', (Builtin.clear_ #[t] ty #[.slice ao m cap']).run P w = .ok (.tuple #[]) w' ∧ Fr (fun k => (Value.slice ao n cap).ownBlock = some k) w w' ∧
      ArrAt w' e (.slice (if cap = m then ao else ao.map (·.add m)) (n - m) (cap - m)) (vs.drop m) := by
  rcases h with ⟨hv, rfl⟩ | ⟨g, off, cap, cur, hv, hg, h0, h1, h2, hc⟩
  · cases hv
    obtain rfl : m = 0 := by omega
    refine ⟨w, ?_, Fr.refl _ _, .inl ⟨by simp, by simp⟩⟩
    simp [Builtin.clear_, run_underlying ht]
  · cases hv
    have hadd : (⟨g, off, none⟩ : Addr).add m = ⟨g, off + m, none⟩ := Addr.add_lit g off m
    by_cases hm0 : m = 0
    · subst hm0
      refine ⟨w, ?_, Fr.refl _ _, .inr ⟨g, off, cap, cur, ?_, hg, h0, by simpa using h1, h2, by simpa using hc⟩⟩
      · simp [Builtin.clear_, run_underlying ht]
      · simp [Addr.add]
    · have hzl : (Builtin.zeroCells z.cells m).toList.length = m := by rw [Array.length_toList, size_zeroCells, hzs]; omega
      have hz1' : ∀ x ∈ (Builtin.zeroCells z.cells m).toList, x.oneCell' = true := by
        intro x hx
        simp only [Builtin.zeroCells, Array.toList_map, List.mem_map] at hx
        obtain ⟨i, _, rfl⟩ := hx
        rw [hzs, Nat.mod_one, getElem!_pos z.cells 0 (by omega)]
        exact hz1 _ (by simp)
      have hst := run_storeCells_at (P := P) g off e (Builtin.zeroCells z.cells m).toList 0 cur w hg (by rw [hzl]; omega) hz1'
      rw [hzl, Nat.add_zero] at hst
      obtain ⟨cs, hcs⟩ : ∃ cs, (cur.toList.take off ++ (Builtin.zeroCells z.cells m).toList ++ cur.toList.drop (off + m)).toArray = cs := ⟨_, rfl⟩
      rw [hcs] at hst
      have hq : Fr (fun k => (Value.slice (some ⟨g, off, none⟩) vs.length cap).ownBlock = some k) w (w.setRow g cs) := (fr_row w g cs).mono (fun k hk => .inl (by simp [Value.ownBlock, hk]))
      refine ⟨w.setRow g cs, ?_, hq, .inr ⟨g, (if cap = m then off else off + m), cap - m, cs, ?_, setRow_heap w g cur cs e _ hg, ?_, ?_, by omega, ?_⟩⟩
      · simp [Builtin.clear_, run_underlying ht, zeroValue, typeInfo, hi, hz, hst]
      · by_cases hcm : cap = m
        · simp [hcm]
        · simp [hcm, hadd]
      · rw [← hcs]
        simp only [List.size_toArray, List.length_append, List.length_take, List.length_drop, hzl, Array.length_toList]
        split <;> omega
      · simp; omega
      · intro i x hx
        rw [List.getElem?_drop] at hx
        have hlt : m + i < vs.length := (List.getElem?_eq_some_iff.1 hx).1
        have hcx := hc (m + i) x hx
        rw [if_neg (by omega), ← hcs]
        rw [List.getElem?_toArray, List.append_assoc, List.getElem?_append_right (by simp; omega), List.getElem?_append_right (by simp [hzl]; omega), List.getElem?_drop, hzl, List.length_take, Array.length_toList]
        rw [Array.getElem?_toList, ← hcx]
        congr 1
        omega

theorem wpList_clear {P : Program} (w : World) {ops : Array Oper} {rest : List Oper} {o : Oper} {a : Act} {Q : Exit → Act → World → Prop} (hgd : o.guard = none) (s : Operand) (t : TypeId)
    (ho : o.op = .call { callee := .builtin .clear, args := #[s], argTypes := #[t] })
    (e : TypeId) (i : TypeInfo) (z : Value) (ht : P.underlying t = some (.slice e)) (hi : P.info? e = some i) (hz : i.zero = some z) (hzs : z.cells.size = 1) (hz1 : ∀ x ∈ z.cells.toList, x.oneCell' = true)
    (ao : Option Addr) (n m cap cap' : Nat) (vs : List Value) (h : ArrAt w e (.slice ao n cap) vs) (hm : m ≤ n) (hs : a.eval s = .slice ao m cap')
    (hk : ∀ w', Fr (fun k => (Value.slice ao n cap).ownBlock = some k) w w' → ArrAt w' e (.slice (if cap = m then ao else ao.map (·.add m)) (n - m) (cap - m)) (vs.drop m) → wpList P ops Q rest (a.put o.dst (.tuple #[])) w') : wpList P ops Q (o :: rest) a w := by
  refine wpList_plain hgd fun K hK => ?_
  obtain ⟨w', hrun, h2, h3⟩ := run_clear (P := P) w t o.type e i z ht hi hz hzs hz1 ao n m cap cap' vs h hm
  unfold Oper.wp execOp
  simp only [ho, resolve, invoke, builtin, Sem.run_bind, Sem.run_pure, Result.andThen_ok, List.map_toArray, List.map_cons, List.map_nil, hs, hrun]
  exact hK _ _ (hk w' h2 h3)

end Go.Proofs.Ytagbaoakablfpaa
