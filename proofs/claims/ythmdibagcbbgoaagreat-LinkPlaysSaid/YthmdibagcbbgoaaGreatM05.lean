/- A receiver's turns in memory: what a store, a delete do. No program in sight. A receiver's plain laws: what it keeps lies in its window; what is told, asked for. No program in sight. Conditions: as they stand. -/
import Derived.Test.YthmdibagcbbgoaaGreatM04
import Derived.Test.YthmdibagcbbgoaaGreatM01
namespace Go.Proofs.YthmdibagcbbgoaaGreat
open Go.RowKit

theorem own_fr8 {F : Nat → Prop} {w w' : World} {base : Nat} {e : TypeId} {s : Nat} {v : Value} {n : Nat} {xs : List Value} (h : w.ownsRow base e s v n xs) (hf : Fr F w w') (hn : ∀ k, v.ownBlock = some k → ¬ F k) : w'.ownsRow base e s v n xs := by
  refine ⟨h.1, ?_⟩
  rcases h.2 with h2 | ⟨g, cap, cur, rfl, hb, hrow, r⟩
  · exact .inl h2
  · exact .inr ⟨g, cap, cur, rfl, hb, hf.get hrow (hn g rfl), r⟩
theorem own_bl8 {w w' : World} {base : Nat} {e : TypeId} {s : Nat} {v : Value} {n : Nat} {xs : List Value} (h : w.ownsRow base e s v n xs) (hb : Below w.heap.size w w') : w'.ownsRow base e s v n xs := own_fr8 (F := fun _ => False) h (.of_below hb) (fun _ _ h => h)
theorem fr_put (w : World) (b : Nat) (o : Obj) : Fr (fun k => k = b) w (w.putObj b o) :=
  ⟨rfl, rfl, rfl, by simp, fun k _ hn => World.putObj_heap_other hn⟩
theorem cell_put {w : World} {b g j : Nat} {o : Obj} {v : Value} (h : w.cell? ⟨g, j, none⟩ = some v) (hn : g ≠ b) : (w.putObj b o).cell? ⟨g, j, none⟩ = some v :=
  (fr_put w b o).cell h hn
theorem ne_map {w : World} {a mb : Nat} {cs : Array Value} {t : TypeId} {s : Nat × Nat} {es : Array MapEntry} {clock : Nat} (h : w.heap[a]? = some (.cells cs t s)) (h' : w.heap[mb]? = some (.map es clock)) : a ≠ mb := by
  rintro rfl
  rw [h] at h'
  cases h'

/-- The next number, what was kept and asked for of this one forgotten. -/
def Rcv.next (r : Rcv) : Rcv := { r with waits := (r.waits + 1) % 128, kept := dropK r.kept r.waits, asked := dropK r.asked r.waits }
/-- What is told in its turn, and the receiver behind it. -/
def Rcv.drain : Nat → Rcv → List (List Int) × Rcv
  | 0, r => ([], r)
  | n + 1, r => match pos r.kept r.waits with
    | none => ([], r)
    | some y => (y.2 :: (Rcv.drain n r.next).1, (Rcv.drain n r.next).2)
theorem dropK_len {α : Type} {f : List (Int × α)} {k : Int} {j : Nat} {v : α} (h : pos f k = some (j, v)) : (dropK f k).length + 1 = f.length := by
  rw [dropK_some h, List.length_eraseIdx]
  have := pos_lt h
  rw [if_pos this]; omega
theorem drain_none {r : Rcv} (h : pos r.kept r.waits = none) (n : Nat) : r.drain n = ([], r) := by
  cases n with
  | zero => rfl
  | succ n => unfold Rcv.drain; rw [h]
theorem drain_some {r : Rcv} {j : Nat} {p : List Int} (h : pos r.kept r.waits = some (j, p)) : r.drain r.kept.length = (p :: (r.next.drain r.next.kept.length).1, (r.next.drain r.next.kept.length).2) := by
  have hl := dropK_len h
  have hl2 : r.kept.length = r.next.kept.length + 1 := by simp only [Rcv.next]; omega
  rw [hl2, Rcv.drain, h]

theorem RcP.pos_none {C D : Nat → Prop} {w : World} {a mb ab : Nat} {fk : List (Int × Value)} {r : Rcv} (h : RcP C D w a mb ab fk r) {k : Int} (hp : pos r.kept k = none) : pos fk k = none := by
  have := pos_same h.keys k
  rw [hp] at this
  cases h : pos fk k with
  | none => rfl
  | some y => rw [h] at this; cases this
theorem RcP.pos_some {C D : Nat → Prop} {w : World} {a mb ab : Nat} {fk : List (Int × Value)} {r : Rcv} (h : RcP C D w a mb ab fk r) {k : Int} {j : Nat} {p : List Int} (hp : pos r.kept k = some (j, p)) : ∃ x, pos fk k = some (j, x) ∧ Byt D w x p := by
  have hs := pos_same h.keys k
  rw [hp] at hs
  cases hq : pos fk k with
  | none => rw [hq] at hs; cases hs
  | some y =>
    obtain ⟨j', x⟩ := y
    rw [hq] at hs
    obtain rfl : j' = j := by simpa using hs
    exact ⟨x, rfl, h.rows _ _ _ (Go.Proofs.YthmdibagcbbgoaaGreat.pos_some hq) (Go.Proofs.YthmdibagcbbgoaaGreat.pos_some hp)⟩
theorem MapIs.push {w : World} {b : Nat} {es : Array MapEntry} {clock : Nat} {f : List (Int × Value)} (hb : w.heap[b]? = some (.map es clock)) (hE : Ents es clock f) {k : Int} (hp : pos f k = none) (v : Value) :
    MapIs (w.putObj b (.map (es.push ⟨.int .i64 k, v, clock⟩) (clock + 1))) b (f ++ [(k, v)]) := ⟨_, _, World.putObj_heap_same (lt_of_get hb), hE.push hp v⟩
/-- The map behind a delete. -/
def dropO (es : Array MapEntry) (clock : Nat) (f : List (Int × Value)) (k : Int) : Obj := match pos f k with | some y => .map (es.eraseIdxIfInBounds y.1) clock | none => .map es clock
theorem run_delete8 {P : Program} {w : World} {t K E : TypeId} {q : IntKind} {b : Nat} {es : Array MapEntry} {clock : Nat} {f : List (Int × Value)} (ht : P.underlying t = some (.map K E)) (hK : P.underlying K = some (.int q)) (hb : w.heap[b]? = some (.map es clock)) (h : Ents es clock f) (k : Int) (ty : TypeId) :
    (Builtin.delete_ #[t, K] ty #[.map (some b), .int .i64 k]).run P w = .ok (.tuple #[]) (w.putObj b (dropO es clock f k)) := by
  rw [run_delete ht hK hb h k ty]
  unfold dropO
  cases pos f k <;> rfl
theorem wp_delete {P : Program} {o : Oper} {a : Act} {Kt : Act → World → Prop} {Q : Exit → Act → World → Prop} {w : World} {t K E : TypeId} {q : IntKind} {b : Nat} {es : Array MapEntry} {clock : Nat} {f : List (Int × Value)} (m k : Operand) (key : Int)
    (ho : o.op = .call { callee := .builtin .delete, args := #[m, k], argTypes := #[t, K] }) (ht : P.underlying t = some (.map K E)) (hK : P.underlying K = some (.int q)) (hb : w.heap[b]? = some (.map es clock)) (he : Ents es clock f)
    (hm : a.eval m = .map (some b)) (hk : a.eval k = .int .i64 key) (h : Kt (a.put o.dst (.tuple #[])) (w.putObj b (dropO es clock f key))) : o.wp P a w Kt Q := by
  have hr := run_delete8 (P := P) ht hK hb he key o.type
  unfold Oper.wp execOp
  simp only [ho, resolve, invoke, builtin, Sem.run_bind, Sem.run_pure, Result.andThen_ok, List.map_toArray, List.map_cons, List.map_nil, hm, hk, hr]
  exact h
theorem MapIs.drop {w : World} {b : Nat} {es : Array MapEntry} {clock : Nat} {f : List (Int × Value)} (hb : w.heap[b]? = some (.map es clock)) (hE : Ents es clock f) (k : Int) :
    MapIs (w.putObj b (dropO es clock f k)) b (dropK f k) := by
  unfold dropO
  cases hp : pos f k with
  | none => rw [dropK_none hp]; exact ⟨_, _, World.putObj_heap_same (lt_of_get hb), hE⟩
  | some y => rw [dropK_some (j := y.1) (v := y.2) hp]; exact ⟨_, _, World.putObj_heap_same (lt_of_get hb), hE.drop y.1⟩
theorem MapIs.change {w : World} {b : Nat} {es : Array MapEntry} {clock : Nat} {f : List (Int × Value)} (hb : w.heap[b]? = some (.map es clock)) (hE : Ents es clock f) {k : Int} {j : Nat} {v0 : Value} (hp : pos f k = some (j, v0)) (v : Value) :
    MapIs (w.putObj b (.map (es.modify j fun e => { e with key := .int .i64 k, val := v }) clock)) b (f.set j (k, v)) := ⟨_, _, World.putObj_heap_same (lt_of_get hb), hE.change hp v⟩

/-- One more is kept. -/
theorem RcP.put {C D G : Nat → Prop} {w w' : World} {a mb ab : Nat} {fk : List (Int × Value)} {r : Rcv} (h : RcP C D w a mb ab fk r) (hf : Fr (fun k => k = mb) w w') {k : Int} {u : Value} {p : List Int} (hM : MapIs w' mb (fk ++ [(k, u)]))
    (hu : Byt G w' u p) (hD : ∀ i, D i → G i) (hG : ∀ i, G i → ¬ C i) : RcP C G w' a mb ab (fk ++ [(k, u)]) { r with kept := r.kept ++ [(k, p)] } := by
  obtain ⟨es, clock, hmb, hE⟩ := h.hM
  have hal : fk.length = r.kept.length := by simpa using congrArg List.length h.keys
  refine ⟨h.ca, h.cm, h.cb, h.ne, hf.get h.hb (ne_map h.hb hmb), hM, h.hA.fr hf (fun e => h.ne e.symm), by simp [h.keys], fun i x q hx hq => ?_, hG⟩
  by_cases hi : i < fk.length
  · rw [List.getElem?_append_left hi] at hx
    have hq' : (r.kept ++ [(k, p)])[i]? = some q := hq
    rw [List.getElem?_append_left (by omega)] at hq'
    exact ((h.rows i x q hx hq').fr hf (fun k hk e => h.dis k hk (e ▸ h.cm))).mono hD
  · have hi2 := (List.getElem?_eq_some_iff.1 hx).1
    simp at hi2
    obtain rfl : i = fk.length := by omega
    have hq' : (r.kept ++ [(k, p)])[fk.length]? = some q := hq
    rw [hal] at hq'
    simp at hx hq'
    subst hx hq'
    exact hu
/-- It goes on by one. -/
theorem RcP.next {C D : Nat → Prop} {w w' : World} {a mb ab : Nat} {fk : List (Int × Value)} {r : Rcv} (h : RcP C D w a mb ab fk r) (hf : Fr C w w')
    (hb : w'.heap[a]? = some (.cells #[.int .i64 r.size, .int .i64 (((r.waits + 1) % 128 : Nat) : Int), .map (some mb), .map (some ab)] 90 (0, 0)))
    (hM : MapIs w' mb (dropK fk r.waits)) (hA : MapIs w' ab (dropK (cnts r.asked) r.waits)) : RcP C D w' a mb ab (dropK fk r.waits) r.next := by
  have hs := pos_same h.keys (r.waits : Int)
  refine ⟨h.ca, h.cm, h.cb, h.ne, hb, hM, ?_, dropK_keys h.keys _, fun i x p hx hp => ?_, h.dis⟩
  · have e : cnts r.next.asked = dropK (cnts r.asked) r.waits := by
      have h2 : (cnts r.asked).map (·.1) = r.asked.map (·.1) := by simp [cnts, List.map_map, Function.comp_def]
      have h3 := pos_same h2 (r.waits : Int)
      show cnts (dropK r.asked r.waits) = _
      cases hp : pos r.asked r.waits with
      | none =>
        rw [hp] at h3
        cases hq : pos (cnts r.asked) r.waits with
        | none => rw [dropK_none hp, dropK_none hq]
        | some y => rw [hq] at h3; cases h3
      | some y =>
        rw [hp] at h3
        cases hq : pos (cnts r.asked) r.waits with
        | none => rw [hq] at h3; cases h3
        | some z =>
          rw [hq] at h3
          have e1 : z.1 = y.1 := by simpa using h3
          rw [dropK_some (j := y.1) (v := y.2) hp, dropK_some (j := z.1) (v := z.2) hq, e1]
          simp only [cnts, Go.ChangeMaps.map_eraseIdx]
    rw [e]; exact hA
  · have key : ∃ i' : Nat, fk[i']? = some x ∧ r.kept[i']? = some p := by
      have hp' : (dropK r.kept r.waits)[i]? = some p := hp
      cases hq : pos fk r.waits with
      | none =>
        rw [hq] at hs
        cases hr : pos r.kept r.waits with
        | none => rw [dropK_none hq] at hx; rw [dropK_none hr] at hp'; exact ⟨i, hx, hp'⟩
        | some y => rw [hr] at hs; cases hs
      | some z =>
        rw [hq] at hs
        cases hr : pos r.kept r.waits with
        | none => rw [hr] at hs; cases hs
        | some y =>
          rw [hr] at hs
          have e1 : z.1 = y.1 := by simpa using hs
          rw [dropK_some (j := z.1) (v := z.2) hq, List.getElem?_eraseIdx] at hx
          rw [dropK_some (j := y.1) (v := y.2) hr, ← e1, List.getElem?_eraseIdx] at hp'
          split at hx <;> split at hp' <;> first | exact ⟨_, hx, hp'⟩ | omega
    obtain ⟨i', h1, h2⟩ := key
    exact (h.rows i' x p h1 h2).fr hf (fun k hk => h.dis k hk)

/-- A map with a key's element put. -/
def chgK {α : Type} (f : List (Int × α)) (k : Int) (v : α) : List (Int × α) := match pos f k with | none => f ++ [(k, v)] | some y => f.set y.1 (k, v)
def getC (A : List (Int × Int)) (n : Int) : Int := match pos A n with | none => 0 | some y => y.2
def chgO (es : Array MapEntry) (clock : Nat) (f : List (Int × Value)) (k : Int) (v : Value) : Obj := match pos f k with
  | none => .map (es.push ⟨.int .i64 k, v, clock⟩) (clock + 1)
  | some y => .map (es.modify y.1 fun e => { e with key := .int .i64 k, val := v }) clock
theorem run_update8 {P : Program} {w : World} {t K E : TypeId} {q : IntKind} {b : Nat} {es : Array MapEntry} {clock : Nat} {f : List (Int × Value)} (ht : P.underlying t = some (.map K E)) (hK : P.underlying K = some (.int q)) (hb : w.heap[b]? = some (.map es clock)) (h : Ents es clock f) (k : Int) (v : Value) :
    (Instr.mapUpdate t (.map (some b)) (.int .i64 k) v).run P w = .ok () (w.putObj b (chgO es clock f k v)) := by
  unfold chgO
  cases hp : pos f k with
  | none => exact run_update_new ht hK hb h hp v
  | some y => exact run_update_old (j := y.1) (v0 := y.2) ht hK hb h hp v
theorem MapIs.chg {w : World} {b : Nat} {es : Array MapEntry} {clock : Nat} {f : List (Int × Value)} (hb : w.heap[b]? = some (.map es clock)) (hE : Ents es clock f) (k : Int) (v : Value) : MapIs (w.putObj b (chgO es clock f k v)) b (chgK f k v) := by
  unfold chgO chgK
  cases hp : pos f k with
  | none => exact MapIs.push hb hE hp v
  | some y => exact MapIs.change (j := y.1) (v0 := y.2) hb hE hp v
/-- One number is asked for: how often each was, which are asked for now. -/
def askOne (s : List (Int × Int) × List Int) (n : Int) : List (Int × Int) × List Int := (chgK s.1 n (wrap64 (getC s.1 n + 1)), if getC s.1 n = 0 then s.2 ++ [n] else s.2)
def askAll (A : List (Int × Int)) (l : List Int) : List (Int × Int) × List Int := l.foldl askOne (A, [])
theorem askAll_snoc (A : List (Int × Int)) (l : List Int) (n : Int) : askAll A (l ++ [n]) = askOne (askAll A l) n := by simp [askAll]
theorem cnts_pos {A : List (Int × Int)} (n : Int) : pos (cnts A) n = (pos A n).map fun y => (y.1, Value.int .i64 y.2) := by
  induction A with
  | nil => rfl
  | cons x A ih =>
    show pos ((x.1, Value.int .i64 x.2) :: cnts A) n = _
    unfold pos
    split
    · rfl
    · rw [ih, Option.map_map, Option.map_map]; rfl
theorem cnts_chg (A : List (Int × Int)) (n c : Int) : cnts (chgK A n c) = chgK (cnts A) n (.int .i64 c) := by
  unfold chgK
  rw [cnts_pos]
  cases pos A n <;> simp [cnts, List.map_set]
theorem run_count {P : Program} {w : World} {t K E : TypeId} {q : IntKind} {b : Nat} {es : Array MapEntry} {clock : Nat} {A : List (Int × Int)} (ht : P.underlying t = some (.map K E)) (hK : P.underlying K = some (.int q)) (hz : (zeroValue E).run P w = .ok (.int .i64 0) w) (hb : w.heap[b]? = some (.map es clock)) (h : Ents es clock (cnts A)) (k : Int) :
    (Instr.lookup t (.map (some b)) (.int .i64 k) false).run P w = .ok (.int .i64 (getC A k)) w := by
  rw [run_lookup_map ht hK hz hb h, cnts_pos]
  unfold getC
  cases pos A k <;> rfl
theorem RcP.ask {C D : Nat → Prop} {w w' : World} {a mb ab : Nat} {fk : List (Int × Value)} {r : Rcv} {A : List (Int × Int)} (h : RcP C D w a mb ab fk r) (hf : Fr (fun k => k = ab) w w') (hA : MapIs w' ab (cnts A)) : RcP C D w' a mb ab fk { r with asked := A } := by
  obtain ⟨es, clock, hab, _⟩ := h.hA
  exact ⟨h.ca, h.cm, h.cb, h.ne, hf.get h.hb (ne_map h.hb hab), h.hM.fr hf h.ne, hA, h.keys, fun i x p hx hp => (h.rows i x p hx hp).fr hf (fun k hk e => h.dis k hk (e ▸ h.cb)), h.dis⟩

/-- Take, where it is right to. -/
def Rcv.with_ (r : Rcv) (ns : Int) (p : List Int) : Rcv := { r with kept := r.kept ++ [(ns, p)] }
def Rcv.gone (r : Rcv) (ns : Int) (p : List Int) : List (List Int) × Rcv := (r.with_ ns p).drain (r.with_ ns p).kept.length
def Rcv.took (r : Rcv) (ns : Int) (p : List Int) : Rcv := { (r.gone ns p).2 with asked := (askAll (r.gone ns p).2.asked (r.gone ns p).2.missing).1 }
def Rcv.asks (r : Rcv) (ns : Int) (p : List Int) : List Int := (askAll (r.gone ns p).2.asked (r.gone ns p).2.missing).2

theorem rmissing_le' (r : Rcv) : r.missing.length ≤ 128 := by
  unfold Rcv.missing
  split
  · simp
  · have := missed_le r.numbers (win r.waits ((‹Int› - (r.waits : Int)) % 128).toNat)
    rw [win_length] at this
    omega

end Go.Proofs.YthmdibagcbbgoaaGreat

namespace Go.Proofs.YthmdibagcbbgoaaGreat
open Go.RowKit

theorem nat_pigeon : ∀ (n : Nat) (l : List Nat), l.Nodup → (∀ x ∈ l, x < n) → l.length ≤ n
  | 0, l, _, h => by
    cases l with
    | nil => simp
    | cons x l => exact absurd (h x (by simp)) (by omega)
  | n + 1, l, hn, h => by
    by_cases hm : n ∈ l
    · have h1 := nat_pigeon n (l.erase n) (hn.erase n) (fun x hx => by
        have h2 := h x (List.mem_of_mem_erase hx)
        have h3 : x ≠ n := fun e => (List.Nodup.not_mem_erase hn) (e ▸ hx)
        omega)
      rw [List.length_erase_of_mem hm] at h1
      omega
    · have := nat_pigeon n l hn (fun x hx => by
        have h2 := h x hx
        have h3 : x ≠ n := fun e => hm (e ▸ hx)
        omega)
      omega

structure Rcv.Ok (r : Rcv) : Prop where
  size1 : 1 ≤ r.size
  size2 : r.size ≤ 63
  waits : r.waits < 128
  keys : ∀ k ∈ r.keys, 0 ≤ k ∧ k < 128 ∧ (k - (r.waits : Int)) % 128 < (r.size : Int)
  nodup : r.keys.Nodup
theorem Rcv.Ok.len {r : Rcv} (h : r.Ok) : r.kept.length ≤ r.size := by
  have h1 := nat_pigeon r.size (r.keys.map fun k => ((k - (r.waits : Int)) % 128).toNat) ?_ ?_
  · simpa [Rcv.keys] using h1
  · refine List.pairwise_map.2 (List.Pairwise.imp_of_mem (fun {x y} hx hy hne => ?_) h.nodup)
    intro e
    have a1 := h.keys x hx
    have a2 := h.keys y hy
    exact hne (by omega)
  · intro x hx
    obtain ⟨k, hk, rfl⟩ := List.mem_map.1 hx
    have := h.keys k hk
    omega
theorem dropK_cons {α : Type} (x : Int × α) (f : List (Int × α)) (k : Int) : dropK (x :: f) k = if k = x.1 then f else x :: dropK f k := by
  unfold dropK
  rw [pos]
  by_cases h : k = x.1
  · rw [if_pos h, if_pos h]; rfl
  · rw [if_neg h, if_neg h]
    cases pos f k <;> rfl
theorem dropK_sub {α : Type} (f : List (Int × α)) (k : Int) : (dropK f k).Sublist f := by
  unfold dropK
  cases pos f k with
  | none => exact List.Sublist.refl _
  | some y => exact List.eraseIdx_sublist _ _
theorem dropK_ne {α : Type} {f : List (Int × α)} (hn : (f.map (·.1)).Nodup) {k : Int} : ∀ x ∈ dropK f k, x.1 ≠ k := by
  induction f with
  | nil => intro x hx; cases hx
  | cons y f ih =>
    rw [List.map_cons, List.nodup_cons] at hn
    intro x hx
    rw [dropK_cons] at hx
    split at hx
    · rename_i he
      intro e
      exact hn.1 (by rw [← he, ← e]; exact List.mem_map.2 ⟨x, hx, rfl⟩)
    · rename_i he
      rcases List.mem_cons.1 hx with h | h
      · subst h; exact fun e => he e.symm
      · exact ih hn.2 x h
theorem Rcv.Ok.next {r : Rcv} (h : r.Ok) : r.next.Ok := by
  have hsub : (r.next.keys).Sublist r.keys := (dropK_sub r.kept r.waits).map _
  refine ⟨h.size1, h.size2, by simp only [Rcv.next]; omega, fun k hk => ?_, h.nodup.sublist hsub⟩
  have h1 := h.keys k (hsub.subset hk)
  obtain ⟨x, hx, rfl⟩ := List.mem_map.1 hk
  have h2 : x.1 ≠ (r.waits : Int) := dropK_ne h.nodup x hx
  have h3 := h.waits
  simp only [Rcv.next]
  refine ⟨h1.1, h1.2.1, ?_⟩
  omega
theorem Rcv.Ok.put {r : Rcv} (h : r.Ok) {ns : Int} {n : Nat} (hc : r.chk ns n = 0) (p : List Int) : (r.with_ ns p).Ok ∧ 1 ≤ n ∧ n ≤ 121 ∧ pos r.kept ns = none := by
  unfold Rcv.chk at hc
  split at hc; · cases hc
  split at hc; · cases hc
  split at hc; · cases hc
  split at hc; · cases hc
  split at hc; · cases hc
  rename_i h1 h2 h3 h4 h5
  have hp : pos r.kept ns = none := by
    cases hq : pos r.kept ns with
    | none => rfl
    | some y => exact absurd (List.mem_map.2 ⟨_, List.mem_of_getElem? (pos_some (j := y.1) (v := y.2) hq), rfl⟩) h5
  refine ⟨⟨h.size1, h.size2, h.waits, fun k hk => ?_, ?_⟩, by omega, by omega, hp⟩
  · have hk' : k ∈ r.keys ++ [ns] := by simpa [Rcv.keys, Rcv.with_] using hk
    rcases List.mem_append.1 hk' with hk' | hk'
    · exact h.keys k hk'
    · simp at hk'; subst hk'
      exact ⟨by omega, by omega, by simpa [Rcv.with_] using h4⟩
  · have e : (r.with_ ns p).keys = r.keys ++ [ns] := by simp [Rcv.keys, Rcv.with_]
    rw [e, List.nodup_append]
    exact ⟨h.nodup, by simp, fun a ha b hb => by simp at hb; subst hb; exact fun e => h5 (e ▸ ha)⟩
theorem drain_ok : ∀ (n : Nat) (r : Rcv), r.Ok → (r.drain n).2.Ok ∧ (r.drain n).1.length ≤ r.kept.length ∧ (r.drain n).2.size = r.size ∧ (r.drain n).2.waits = (r.waits + (r.drain n).1.length) % 128
  | 0, r, h => by have := h.waits; exact ⟨h, by simp [Rcv.drain], rfl, by simp [Rcv.drain]; omega⟩
  | n + 1, r, h => by
    rw [Rcv.drain]
    cases hp : pos r.kept r.waits with
    | none => have := h.waits; exact ⟨h, by simp, rfl, by simp; omega⟩
    | some y =>
      obtain ⟨h1, h2, h3, h4⟩ := drain_ok n r.next h.next
      have hl := dropK_len (j := y.1) (v := y.2) hp
      have e : r.next.kept = dropK r.kept r.waits := rfl
      rw [e] at h2
      refine ⟨h1, by simp; omega, h3, ?_⟩
      show (r.next.drain n).2.waits = _
      rw [h4]
      simp only [Rcv.next, List.length_cons]
      omega
/-- What is asked for: a count. -/
theorem getC_cons (x : Int × Int) (A : List (Int × Int)) (n : Int) : getC (x :: A) n = if n = x.1 then x.2 else getC A n := by
  unfold getC
  rw [pos]
  by_cases h : n = x.1
  · rw [if_pos h, if_pos h]
  · rw [if_neg h, if_neg h]
    cases pos A n <;> rfl
theorem chgK_cons {α : Type} (x : Int × α) (f : List (Int × α)) (k : Int) (v : α) : chgK (x :: f) k v = if k = x.1 then (k, v) :: f else x :: chgK f k v := by
  unfold chgK
  rw [pos]
  by_cases h : k = x.1
  · rw [if_pos h, if_pos h]; rfl
  · rw [if_neg h, if_neg h]
    cases pos f k <;> rfl
theorem getC_chg (A : List (Int × Int)) (k v n : Int) : getC (chgK A k v) n = if n = k then v else getC A n := by
  induction A with
  | nil =>
    show getC [(k, v)] n = _
    rw [getC_cons]
  | cons x A ih =>
    rw [chgK_cons]
    by_cases h : k = x.1
    · rw [if_pos h, getC_cons, getC_cons]
      by_cases h2 : n = k
      · rw [if_pos h2, if_pos h2]
      · rw [if_neg h2, if_neg h2, if_neg (h ▸ h2)]
    · rw [if_neg h, getC_cons, getC_cons, ih]
      by_cases h2 : n = k
      · rw [if_neg (h2 ▸ h), if_pos h2]; simp [h2]
      · simp [h2]
theorem getC_drop (A : List (Int × Int)) {k n : Int} (h : n ≠ k) : getC (dropK A k) n = getC A n := by
  induction A with
  | nil => rfl
  | cons x A ih =>
    rw [dropK_cons]
    by_cases h2 : k = x.1
    · rw [if_pos h2, getC_cons, if_neg (h2 ▸ h)]
    · rw [if_neg h2, getC_cons, getC_cons, ih]
def Bnd (m : Nat) (A : List (Int × Int)) : Prop := ∀ x ∈ A, 0 ≤ x.2 ∧ x.2 ≤ (m : Int)
theorem Bnd.get {m : Nat} {A : List (Int × Int)} (h : Bnd m A) (n : Int) : 0 ≤ getC A n ∧ getC A n ≤ (m : Int) := by
  induction A with
  | nil => simp [getC, pos]
  | cons x A ih =>
    rw [getC_cons]
    split
    · exact h x (by simp)
    · exact ih fun y hy => h y (by simp [hy])
theorem Bnd.mono {m m' : Nat} {A : List (Int × Int)} (h : Bnd m A) (hm : m ≤ m') : Bnd m' A := fun x hx => by have := h x hx; omega
theorem Bnd.chg {m : Nat} {A : List (Int × Int)} (h : Bnd m A) {k v : Int} (hv : 0 ≤ v ∧ v ≤ (m : Int)) : Bnd m (chgK A k v) := by
  induction A with
  | nil => intro x hx; have : x = (k, v) := by simpa [chgK, pos] using hx
           subst this; exact hv
  | cons y A ih =>
    intro x hx
    rw [chgK_cons] at hx
    split at hx
    · rcases List.mem_cons.1 hx with h1 | h1
      · subst h1; exact hv
      · exact h x (by simp [h1])
    · rcases List.mem_cons.1 hx with h1 | h1
      · subst h1; exact h x (by simp)
      · exact ih (fun z hz => h z (by simp [hz])) x h1
theorem wrap_in {v : Int} (h : 0 ≤ v ∧ v ≤ 1000000) : wrap64 v = v := by unfold wrap64; omega
theorem ask_laws : ∀ (l : List Int) (A : List (Int × Int)) (acc : List Int) (m : Nat), Bnd m A → m + l.length ≤ 900000 →
    Bnd (m + l.length) (l.foldl askOne (A, acc)).1 ∧ (∀ n, getC A n ≤ getC (l.foldl askOne (A, acc)).1 n) ∧ (∀ n ∈ l, 1 ≤ getC (l.foldl askOne (A, acc)).1 n) ∧ (∀ n ∈ (l.foldl askOne (A, acc)).2, n ∈ acc ∨ (n ∈ l ∧ getC A n = 0)) ∧ (l.foldl askOne (A, acc)).2.length ≤ acc.length + l.length
  | [], A, acc, m, h, _ => ⟨h.mono (by simp), fun _ => Int.le_refl _, fun n hn => by simp at hn, fun n hn => .inl hn, by simp⟩
  | x :: l, A, acc, m, h, hm => by
    have hm' : m + l.length + 1 ≤ 900000 := by simpa [Nat.add_assoc] using hm
    have hx := h.get x
    have hw : wrap64 (getC A x + 1) = getC A x + 1 := wrap_in ⟨by omega, by omega⟩
    have hB : Bnd (m + 1) (chgK A x (getC A x + 1)) := (h.mono (Nat.le_succ m)).chg ⟨by omega, by omega⟩
    obtain ⟨h1, h2, h3, h4, h5⟩ := ask_laws l (chgK A x (getC A x + 1)) (if getC A x = 0 then acc ++ [x] else acc) (m + 1) hB (by omega)
    have e : askOne (A, acc) x = (chgK A x (getC A x + 1), if getC A x = 0 then acc ++ [x] else acc) := by simp only [askOne, hw]
    rw [List.foldl_cons, e]
    have hg : ∀ n, getC A n ≤ getC (chgK A x (getC A x + 1)) n := fun n => by
      rw [getC_chg]
      by_cases h : n = x
      · subst h; simp; omega
      · simp [h]
    refine ⟨h1.mono (by simp; omega), fun n => Int.le_trans (hg n) (h2 n), fun n hn => ?_, fun n hn => ?_, ?_⟩
    · rcases List.mem_cons.1 hn with hn | hn
      · subst hn
        have := h2 n
        rw [getC_chg] at this
        simp at this
        omega
      · exact h3 n hn
    · rcases h4 n hn with h6 | h6
      · by_cases hz : getC A x = 0
        · rw [if_pos hz] at h6
          rcases List.mem_append.1 h6 with h7 | h7
          · exact .inl h7
          · simp at h7; subst h7; exact .inr ⟨by simp, hz⟩
        · rw [if_neg hz] at h6; exact .inl h6
      · have h7 := hg n
        have h8 := h.get n
        exact .inr ⟨by simp [h6.1], by omega⟩
    · refine Nat.le_trans h5 ?_
      split <;> simp <;> omega

theorem win_mem {b : Int} {m : Nat} {x : N7} (h : x ∈ win b m) : ∃ i : Nat, i < m ∧ x.1 = (b + (i : Int)) % 128 := by
  induction m with
  | zero => rw [win_zero] at h; cases h
  | succ m ih =>
    rw [win_succ] at h
    rcases List.mem_append.1 h with h | h
    · obtain ⟨i, hi, he⟩ := ih h
      exact ⟨i, by omega, he⟩
    · simp at h; subst h; exact ⟨m, by omega, rfl⟩
theorem mem_win {b : Int} {m i : Nat} (hi : i < m) : red (b + (i : Int)) ∈ win b m := by
  induction m with
  | zero => omega
  | succ m ih =>
    rw [win_succ]
    by_cases h : i < m
    · exact List.mem_append.2 (.inl (ih h))
    · have : i = m := by omega
      subst this; simp
theorem numbers_mem {r : Rcv} (h : r.Ok) {t : Int} : t ∈ r.numbers ↔ t ∈ r.keys := by
  unfold Rcv.numbers sorted
  constructor
  · intro hm
    obtain ⟨x, hx, rfl⟩ := List.mem_map.1 hm
    obtain ⟨_, h2⟩ := List.mem_filter.1 hx
    unfold hasN at h2
    obtain ⟨k, hk, he⟩ := List.any_eq_true.1 h2
    have := h.keys k hk
    have e : k % 128 = x.1 := by simpa using he
    have : k = x.1 := by omega
    exact this ▸ hk
  · intro hk
    have h1 := h.keys t hk
    refine List.mem_map.2 ⟨red t, List.mem_filter.2 ⟨?_, ?_⟩, by show t % 128 = t; omega⟩
    · have h2 := mem_win (b := (r.waits : Int)) (m := 128) (i := ((t - (r.waits : Int)) % 128).toNat) (by omega)
      have e : red ((r.waits : Int) + (((t - (r.waits : Int)) % 128).toNat : Int)) = red t := Subtype.ext (show _ % 128 = t % 128 by omega)
      rw [e] at h2
      exact h2
    · unfold hasN
      exact List.any_eq_true.2 ⟨t, hk, by show (t % 128 == (t % 128)) = true; simp⟩
theorem missing_mem {r : Rcv} (h : r.Ok) {n : Int} (hn : n ∈ r.missing) : (n - (r.waits : Int)) % 128 < (r.size : Int) := by
  unfold Rcv.missing at hn
  cases hl : r.numbers.getLast? with
  | none => rw [hl] at hn; cases hn
  | some t =>
    rw [hl] at hn
    have ht := h.keys t ((numbers_mem h).1 (List.mem_of_getLast? hl))
    unfold missed at hn
    obtain ⟨x, hx, rfl⟩ := List.mem_map.1 hn
    obtain ⟨i, hi, he⟩ := win_mem (List.mem_filter.1 hx).1
    rw [he]
    omega
theorem drain_asked : ∀ (n : Nat) (r : Rcv) (m : Nat), Bnd m r.asked → Bnd m (r.drain n).2.asked ∧ ∀ x : Int, (∀ i : Nat, i < (r.drain n).1.length → x ≠ (((r.waits + i) % 128 : Nat) : Int)) → r.waits < 128 → getC (r.drain n).2.asked x = getC r.asked x
  | 0, r, m, h => ⟨h, fun _ _ _ => rfl⟩
  | n + 1, r, m, h => by
    rw [Rcv.drain]
    cases hp : pos r.kept r.waits with
    | none => exact ⟨h, fun _ _ _ => rfl⟩
    | some y =>
      obtain ⟨h1, h2⟩ := drain_asked n r.next m (fun x hx => h x ((dropK_sub r.asked r.waits).subset hx))
      refine ⟨h1, fun x hx hw => ?_⟩
      show getC (r.next.drain n).2.asked x = _
      rw [h2 x (fun i hi => ?_) (by simp only [Rcv.next]; omega)]
      · have h0 := hx 0 (by simp)
        rw [Nat.add_zero, Nat.mod_eq_of_lt hw] at h0
        exact getC_drop _ h0
      · have h0 := hx (i + 1) (by simpa using hi)
        have e : (r.next.waits + i) % 128 = (r.waits + (i + 1)) % 128 := by simp only [Rcv.next]; omega
        rw [e]; exact h0

/-- Take. -/
def Rcv.take (r : Rcv) (ns : Int) (p : List Int) : Rcv := if r.chk ns p.length = 0 then r.took ns p else r
def Rcv.tells (r : Rcv) (ns : Int) (p : List Int) : List (List Int) := if r.chk ns p.length = 0 then (r.gone ns p).1 else []
def Rcv.wants (r : Rcv) (ns : Int) (p : List Int) : List Int := if r.chk ns p.length = 0 then r.asks ns p else []
theorem Rcv.Ok.took {r : Rcv} (h : r.Ok) {ns : Int} {p : List Int} (hc : r.chk ns p.length = 0) : (r.took ns p).Ok ∧ (r.took ns p).size = r.size := by
  obtain ⟨h1, h2, h3, h4⟩ := drain_ok (r.with_ ns p).kept.length _ (h.put hc p).1
  exact ⟨⟨h1.size1, h1.size2, h1.waits, h1.keys, h1.nodup⟩, h3⟩
theorem Rcv.Ok.take {r : Rcv} (h : r.Ok) (ns : Int) (p : List Int) : (r.take ns p).Ok ∧ (r.take ns p).size = r.size := by
  unfold Rcv.take
  split
  · rename_i hc; exact h.took hc
  · exact ⟨h, rfl⟩
theorem new_ok {n : Nat} (h1 : 1 ≤ n) (h2 : n ≤ 63) : (Rcv.mk n 0 [] []).Ok := ⟨h1, h2, by simp, fun k hk => by simp [Rcv.keys] at hk, by simp [Rcv.keys]⟩
/-- What is asked for now was not open; it is missing. -/
theorem asks_law {r : Rcv} (h : r.Ok) {m : Nat} (hb : Bnd m r.asked) (hm : m ≤ 800000) {opn : List Int} (ho : ∀ n ∈ opn, 1 ≤ getC r.asked n) {ns : Int} {p : List Int} (hc : r.chk ns p.length = 0) :
    Bnd (m + 128) (r.took ns p).asked ∧ (∀ n ∈ (r.took ns p).missing, 1 ≤ getC (r.took ns p).asked n) ∧ (∀ n ∈ r.asks ns p, n ∈ (r.took ns p).missing ∧ n ∉ opn) := by
  have hP := (h.put hc p).1
  obtain ⟨h1, h2, h3, h4⟩ := drain_ok (r.with_ ns p).kept.length _ hP
  obtain ⟨g1, g2⟩ := drain_asked (r.with_ ns p).kept.length (r.with_ ns p) m hb
  have hl := hP.len
  have hms : (r.took ns p).missing = (r.gone ns p).2.missing := rfl
  have hle := rmissing_le' (r.gone ns p).2
  obtain ⟨k1, k2, k3, k4, k5⟩ := ask_laws (r.gone ns p).2.missing (r.gone ns p).2.asked [] m g1 (by omega)
  refine ⟨Bnd.mono k1 (by omega), fun n hn => k3 n (hms ▸ hn), fun n hn => ?_⟩
  rcases k4 n hn with h6 | h6
  · cases h6
  · refine ⟨hms ▸ h6.1, fun hno => ?_⟩
    have h7 := ho n hno
    have h8 : (n - ((r.gone ns p).2.waits : Int)) % 128 < ((r.gone ns p).2.size : Int) := missing_mem h1 h6.1
    have h9 := g2 n (fun i hi e => ?_) hP.waits
    · have h10 : getC (r.gone ns p).2.asked n = getC r.asked n := h9
      omega
    · have e1 : (r.gone ns p).2.waits = (r.waits + ((r.with_ ns p).drain (r.with_ ns p).kept.length).1.length) % 128 := h4
      have e2 : (r.gone ns p).2.size = r.size := h3
      have e3 : (r.with_ ns p).waits = r.waits := rfl
      have e4 : (r.with_ ns p).size = r.size := rfl
      rw [e3] at e
      rw [e4] at hl
      have hs2 := h.size2
      rw [e1, e2] at h8
      omega

end Go.Proofs.YthmdibagcbbgoaaGreat
