/- A receiver's turns in memory: what a store, a delete do. No program in sight. Conditions: as they stand. -/
import Derived.Test.YthmdibagcbbgoaaM06
import Derived.Test.YthmdibagcbbgoaaM02
namespace Go.Proofs.Ythmdibagcbbgoaa
open Go.RowKit

theorem own_fr8 {F : Nat → Prop} {w w' : World} {base : Nat} {e : TypeId} {s : Nat} {v : Value} {n : Nat} {xs : List Value} (h : w.ownsRow base e s v n xs) (hf : Fr F w w') (hn : ∀ k, v.ownBlock = some k → ¬ F k) : w'.ownsRow base e s v n xs := by
  refine ⟨h.1, ?_⟩
  rcases h.2 with h2 | ⟨g, cap, cur, rfl, hb, hrow, r⟩
  · exact .inl h2
  · exact .inr ⟨g, cap, cur, rfl, hb, hf.get hrow (hn g rfl), r⟩
theorem own_bl8 {w w' : World} {base : Nat} {e : TypeId} {s : Nat} {v : Value} {n : Nat} {xs : List Value} (h : w.ownsRow base e s v n xs) (hb : Below w.heap.size w w') : w'.ownsRow base e s v n xs := own_fr8 (F := fun _ => False) h (.of_below hb) (fun _ _ h => h)
theorem fr_put (w : World) (b : Nat) (o : Obj) : Fr (fun k => k = b) w (w.putObj b o) :=
  ⟨rfl, rfl, rfl, by simp, fun k _ hn => World.putObj_heap_other hn⟩
theorem cell_put {w : World} {b g j : Nat} {o : Obj} {v : Value} (h : w.cell? ⟨g, j, none⟩ = some v) (hn : g ≠ b) : (w.putObj b o).cell? ⟨g, j, none⟩ = some v :=
  (fr_put w b o).cell h hn
theorem ne_map {w : World} {a mb : Nat} {cs : Array Value} {t : TypeId} {s : Nat × Nat} {es : Array MapEntry} {clock : Nat} (h : w.heap[a]? = some (.cells cs t s)) (h' : w.heap[mb]? = some (.map es clock)) : a ≠ mb := by
  rintro rfl
  rw [h] at h'
  cases h'

/-- The next number, what was kept and asked for of this one forgotten. -/
def Rcv.next (r : Rcv) : Rcv := { r with waits := (r.waits + 1) % 128, kept := dropK r.kept r.waits, asked := dropK r.asked r.waits }
/-- What is told in its turn, and the receiver behind it. -/
def Rcv.drain : Nat → Rcv → List (List Int) × Rcv
  | 0, r => ([], r)
  | n + 1, r => match pos r.kept r.waits with
    | none => ([], r)
    | some y => (y.2 :: (Rcv.drain n r.next).1, (Rcv.drain n r.next).2)
theorem dropK_len {α : Type} {f : List (Int × α)} {k : Int} {j : Nat} {v : α} (h : pos f k = some (j, v)) : (dropK f k).length + 1 = f.length := by
  rw [dropK_some h, List.length_eraseIdx]
  have := pos_lt h
  rw [if_pos this]; omega
theorem drain_none {r : Rcv} (h : pos r.kept r.waits = none) (n : Nat) : r.drain n = ([], r) := by
  cases n with
  | zero => rfl
  | succ n => unfold Rcv.drain; rw [h]
theorem drain_some {r : Rcv} {j : Nat} {p : List Int} (h : pos r.kept r.waits = some (j, p)) : r.drain r.kept.length = (p :: (r.next.drain r.next.kept.length).1, (r.next.drain r.next.kept.length).2) := by
  have hl := dropK_len h
  have hl2 : r.kept.length = r.next.kept.length + 1 := by simp only [Rcv.next]; omega
  rw [hl2, Rcv.drain, h]

theorem RcP.pos_none {C D : Nat → Prop} {w : World} {a mb ab : Nat} {fk : List (Int × Value)} {r : Rcv} (h : RcP C D w a mb ab fk r) {k : Int} (hp : pos r.kept k = none) : pos fk k = none := by
  have := pos_same h.keys k
  rw [hp] at this
  cases h : pos fk k with
  | none => rfl
  | some y => rw [h] at this; cases this
theorem RcP.pos_some {C D : Nat → Prop} {w : World} {a mb ab : Nat} {fk : List (Int × Value)} {r : Rcv} (h : RcP C D w a mb ab fk r) {k : Int} {j : Nat} {p : List Int} (hp : pos r.kept k = some (j, p)) : ∃ x, pos fk k = some (j, x) ∧ Byt D w x p := by
  have hs := pos_same h.keys k
  rw [hp] at hs
  cases hq : pos fk k with
  | none => rw [hq] at hs; cases hs
  | some y =>
    obtain ⟨j', x⟩ := y
    rw [hq] at hs
    obtain rfl : j' = j := by simpa using hs
    exact ⟨x, rfl, h.rows _ _ _ (Go.Proofs.Ythmdibagcbbgoaa.pos_some hq) (Go.Proofs.Ythmdibagcbbgoaa.pos_some hp)⟩
theorem MapIs.push {w : World} {b : Nat} {es : Array MapEntry} {clock : Nat} {f : List (Int × Value)} (hb : w.heap[b]? = some (.map es clock)) (hE : Ents es clock f) {k : Int} (hp : pos f k = none) (v : Value) :
    MapIs (w.putObj b (.map (es.push ⟨.int .i64 k, v, clock⟩) (clock + 1))) b (f ++ [(k, v)]) := ⟨_, _, World.putObj_heap_same (lt_of_get hb), hE.push hp v⟩
/-- The map behind a delete. -/
def dropO (es : Array MapEntry) (clock : Nat) (f : List (Int × Value)) (k : Int) : Obj := match pos f k with | some y => .map (es.eraseIdxIfInBounds y.1) clock | none => .map es clock
theorem run_delete8 {P : Program} {w : World} {t K E : TypeId} {q : IntKind} {b : Nat} {es : Array MapEntry} {clock : Nat} {f : List (Int × Value)} (ht : P.underlying t = some (.map K E)) (hK : P.underlying K = some (.int q)) (hb : w.heap[b]? = some (.map es clock)) (h : Ents es clock f) (k : Int) (ty : TypeId) :
    (Builtin.delete_ #[t, K] ty #[.map (some b), .int .i64 k]).run P w = .ok (.tuple #[]) (w.putObj b (dropO es clock f k)) := by
  rw [run_delete ht hK hb h k ty]
  unfold dropO
  cases pos f k <;> rfl
theorem wp_delete {P : Program} {o : Oper} {a : Act} {Kt : Act → World → Prop} {Q : Exit → Act → World → Prop} {w : World} {t K E : TypeId} {q : IntKind} {b : Nat} {es : Array MapEntry} {clock : Nat} {f : List (Int × Value)} (m k : Operand) (key : Int)
    (ho : o.op = .call { callee := .builtin .delete, args := #[m, k], argTypes := #[t, K] }) (ht : P.underlying t = some (.map K E)) (hK : P.underlying K = some (.int q)) (hb : w.heap[b]? = some (.map es clock)) (he : Ents es clock f)
    (hm : a.eval m = .map (some b)) (hk : a.eval k = .int .i64 key) (h : Kt (a.put o.dst (.tuple #[])) (w.putObj b (dropO es clock f key))) : o.wp P a w Kt Q := by
  have hr := run_delete8 (P := P) ht hK hb he key o.type
  unfold Oper.wp execOp
  simp only [ho, resolve, invoke, builtin, Sem.run_bind, Sem.run_pure, Result.andThen_ok, List.map_toArray, List.map_cons, List.map_nil, hm, hk, hr]
  exact h
theorem MapIs.drop {w : World} {b : Nat} {es : Array MapEntry} {clock : Nat} {f : List (Int × Value)} (hb : w.heap[b]? = some (.map es clock)) (hE : Ents es clock f) (k : Int) :
    MapIs (w.putObj b (dropO es clock f k)) b (dropK f k) := by
  unfold dropO
  cases hp : pos f k with
  | none => rw [dropK_none hp]; exact ⟨_, _, World.putObj_heap_same (lt_of_get hb), hE⟩
  | some y => rw [dropK_some (j := y.1) (v := y.2) hp]; exact ⟨_, _, World.putObj_heap_same (lt_of_get hb), hE.drop y.1⟩
theorem MapIs.change {w : World} {b : Nat} {es : Array MapEntry} {clock : Nat} {f : List (Int × Value)} (hb : w.heap[b]? = some (.map es clock)) (hE : Ents es clock f) {k : Int} {j : Nat} {v0 : Value} (hp : pos f k = some (j, v0)) (v : Value) :
    MapIs (w.putObj b (.map (es.modify j fun e => { e with key := .int .i64 k, val := v }) clock)) b (f.set j (k, v)) := ⟨_, _, World.putObj_heap_same (lt_of_get hb), hE.change hp v⟩

/-- One more is kept. -/
theorem RcP.put {C D G : Nat → Prop} {w w' : World} {a mb ab : Nat} {fk : List (Int × Value)} {r : Rcv} (h : RcP C D w a mb ab fk r) (hf : Fr (fun k => k = mb) w w') {k : Int} {u : Value} {p : List Int} (hM : MapIs w' mb (fk ++ [(k, u)]))
    (hu : Byt G w' u p) (hD : ∀ i, D i → G i) (hG : ∀ i, G i → ¬ C i) : RcP C G w' a mb ab (fk ++ [(k, u)]) { r with kept := r.kept ++ [(k, p)] } := by
  obtain ⟨es, clock, hmb, hE⟩ := h.hM
  have hal : fk.length = r.kept.length := by simpa using congrArg List.length h.keys
  refine ⟨h.ca, h.cm, h.cb, h.ne, hf.get h.hb (ne_map h.hb hmb), hM, h.hA.fr hf (fun e => h.ne e.symm), by simp [h.keys], fun i x q hx hq => ?_, hG⟩
  by_cases hi : i < fk.length
  · rw [List.getElem?_append_left hi] at hx
    have hq' : (r.kept ++ [(k, p)])[i]? = some q := hq
    rw [List.getElem?_append_left (by omega)] at hq'
    exact ((h.rows i x q hx hq').fr hf (fun k hk e => h.dis k hk (e ▸ h.cm))).mono hD
  · have hi2 := (List.getElem?_eq_some_iff.1 hx).1
    simp at hi2
    obtain rfl : i = fk.length := by omega
    have hq' : (r.kept ++ [(k, p)])[fk.length]? = some q := hq
    rw [hal] at hq'
    simp at hx hq'
    subst hx hq'
    exact hu
/-- It goes on by one. -/
theorem RcP.next {C D : Nat → Prop} {w w' : World} {a mb ab : Nat} {fk : List (Int × Value)} {r : Rcv} (h : RcP C D w a mb ab fk r) (hf : Fr C w w')
    (hb : w'.heap[a]? = some (.cells #[.int .i64 r.size, .int .i64 (((r.waits + 1) % 128 : Nat) : Int), .map (some mb), .map (some ab)] 97 (0, 0)))
    (hM : MapIs w' mb (dropK fk r.waits)) (hA : MapIs w' ab (dropK (cnts r.asked) r.waits)) : RcP C D w' a mb ab (dropK fk r.waits) r.next := by
  have hs := pos_same h.keys (r.waits : Int)
  refine ⟨h.ca, h.cm, h.cb, h.ne, hb, hM, ?_, dropK_keys h.keys _, fun i x p hx hp => ?_, h.dis⟩
  · have e : cnts r.next.asked = dropK (cnts r.asked) r.waits := by
      have h2 : (cnts r.asked).map (·.1) = r.asked.map (·.1) := by simp [cnts, List.map_map, Function.comp_def]
      have h3 := pos_same h2 (r.waits : Int)
      show cnts (dropK r.asked r.waits) = _
      cases hp : pos r.asked r.waits with
      | none =>
        rw [hp] at h3
        cases hq : pos (cnts r.asked) r.waits with
        | none => rw [dropK_none hp, dropK_none hq]
        | some y => rw [hq] at h3; cases h3
      | some y =>
        rw [hp] at h3
        cases hq : pos (cnts r.asked) r.waits with
        | none => rw [hq] at h3; cases h3
        | some z =>
          rw [hq] at h3
          have e1 : z.1 = y.1 := by simpa using h3
          rw [dropK_some (j := y.1) (v := y.2) hp, dropK_some (j := z.1) (v := z.2) hq, e1]
          simp only [cnts, Go.ChangeMaps.map_eraseIdx]
    rw [e]; exact hA
  · have key : ∃ i' : Nat, fk[i']? = some x ∧ r.kept[i']? = some p := by
      have hp' : (dropK r.kept r.waits)[i]? = some p := hp
      cases hq : pos fk r.waits with
      | none =>
        rw [hq] at hs
        cases hr : pos r.kept r.waits with
        | none => rw [dropK_none hq] at hx; rw [dropK_none hr] at hp'; exact ⟨i, hx, hp'⟩
        | some y => rw [hr] at hs; cases hs
      | some z =>
        rw [hq] at hs
        cases hr : pos r.kept r.waits with
        | none => rw [hr] at hs; cases hs
        | some y =>
          rw [hr] at hs
          have e1 : z.1 = y.1 := by simpa using hs
          rw [dropK_some (j := z.1) (v := z.2) hq, List.getElem?_eraseIdx] at hx
          rw [dropK_some (j := y.1) (v := y.2) hr, ← e1, List.getElem?_eraseIdx] at hp'
          split at hx <;> split at hp' <;> first | exact ⟨_, hx, hp'⟩ | omega
    obtain ⟨i', h1, h2⟩ := key
    exact (h.rows i' x p h1 h2).fr hf (fun k hk => h.dis k hk)

/-- A map with a key's element put. -/
def chgK {α : Type} (f : List (Int × α)) (k : Int) (v : α) : List (Int × α) := match pos f k with | none => f ++ [(k, v)] | some y => f.set y.1 (k, v)
def getC (A : List (Int × Int)) (n : Int) : Int := match pos A n with | none => 0 | some y => y.2
def chgO (es : Array MapEntry) (clock : Nat) (f : List (Int × Value)) (k : Int) (v : Value) : Obj := match pos f k with
  | none => .map (es.push ⟨.int .i64 k, v, clock⟩) (clock + 1)
  | some y => .map (es.modify y.1 fun e => { e with key := .int .i64 k, val := v }) clock
theorem run_update8 {P : Program} {w : World} {t K E : TypeId} {q : IntKind} {b : Nat} {es : Array MapEntry} {clock : Nat} {f : List (Int × Value)} (ht : P.underlying t = some (.map K E)) (hK : P.underlying K = some (.int q)) (hb : w.heap[b]? = some (.map es clock)) (h : Ents es clock f) (k : Int) (v : Value) :
    (Instr.mapUpdate t (.map (some b)) (.int .i64 k) v).run P w = .ok () (w.putObj b (chgO es clock f k v)) := by
  unfold chgO
  cases hp : pos f k with
  | none => exact run_update_new ht hK hb h hp v
  | some y => exact run_update_old (j := y.1) (v0 := y.2) ht hK hb h hp v
theorem MapIs.chg {w : World} {b : Nat} {es : Array MapEntry} {clock : Nat} {f : List (Int × Value)} (hb : w.heap[b]? = some (.map es clock)) (hE : Ents es clock f) (k : Int) (v : Value) : MapIs (w.putObj b (chgO es clock f k v)) b (chgK f k v) := by
  unfold chgO chgK
  cases hp : pos f k with
  | none => exact MapIs.push hb hE hp v
  | some y => exact MapIs.change (j := y.1) (v0 := y.2) hb hE hp v
/-- One number is asked for: how often each was, which are asked for now. -/
def askOne (s : List (Int × Int) × List Int) (n : Int) : List (Int × Int) × List Int := (chgK s.1 n (wrap64 (getC s.1 n + 1)), if getC s.1 n = 0 then s.2 ++ [n] else s.2)
def askAll (A : List (Int × Int)) (l : List Int) : List (Int × Int) × List Int := l.foldl askOne (A, [])
theorem askAll_snoc (A : List (Int × Int)) (l : List Int) (n : Int) : askAll A (l ++ [n]) = askOne (askAll A l) n := by simp [askAll]
theorem cnts_pos {A : List (Int × Int)} (n : Int) : pos (cnts A) n = (pos A n).map fun y => (y.1, Value.int .i64 y.2) := by
  induction A with
  | nil => rfl
  | cons x A ih =>
    show pos ((x.1, Value.int .i64 x.2) :: cnts A) n = _
    unfold pos
    split
    · rfl
    · rw [ih, Option.map_map, Option.map_map]; rfl
theorem cnts_chg (A : List (Int × Int)) (n c : Int) : cnts (chgK A n c) = chgK (cnts A) n (.int .i64 c) := by
  unfold chgK
  rw [cnts_pos]
  cases pos A n <;> simp [cnts, List.map_set]
theorem run_count {P : Program} {w : World} {t K E : TypeId} {q : IntKind} {b : Nat} {es : Array MapEntry} {clock : Nat} {A : List (Int × Int)} (ht : P.underlying t = some (.map K E)) (hK : P.underlying K = some (.int q)) (hz : (zeroValue E).run P w = .ok (.int .i64 0) w) (hb : w.heap[b]? = some (.map es clock)) (h : Ents es clock (cnts A)) (k : Int) :
    (Instr.lookup t (.map (some b)) (.int .i64 k) false).run P w = .ok (.int .i64 (getC A k)) w := by
  rw [run_lookup_map ht hK hz hb h, cnts_pos]
  unfold getC
  cases pos A k <;> rfl
theorem RcP.ask {C D : Nat → Prop} {w w' : World} {a mb ab : Nat} {fk : List (Int × Value)} {r : Rcv} {A : List (Int × Int)} (h : RcP C D w a mb ab fk r) (hf : Fr (fun k => k = ab) w w') (hA : MapIs w' ab (cnts A)) : RcP C D w' a mb ab fk { r with asked := A } := by
  obtain ⟨es, clock, hab, _⟩ := h.hA
  exact ⟨h.ca, h.cm, h.cb, h.ne, hf.get h.hb (ne_map h.hb hab), h.hM.fr hf h.ne, hA, h.keys, fun i x p hx hp => (h.rows i x p hx hp).fr hf (fun k hk e => h.dis k hk (e ▸ h.cb)), h.dis⟩

/-- Take, where it is right to. -/
def Rcv.with_ (r : Rcv) (ns : Int) (p : List Int) : Rcv := { r with kept := r.kept ++ [(ns, p)] }
def Rcv.gone (r : Rcv) (ns : Int) (p : List Int) : List (List Int) × Rcv := (r.with_ ns p).drain (r.with_ ns p).kept.length
def Rcv.took (r : Rcv) (ns : Int) (p : List Int) : Rcv := { (r.gone ns p).2 with asked := (askAll (r.gone ns p).2.asked (r.gone ns p).2.missing).1 }
def Rcv.asks (r : Rcv) (ns : Int) (p : List Int) : List Int := (askAll (r.gone ns p).2.asked (r.gone ns p).2.missing).2

theorem rmissing_le' (r : Rcv) : r.missing.length ≤ 128 := by
  unfold Rcv.missing
  split
  · simp
  · have := missed_le r.numbers (win r.waits ((‹Int› - (r.waits : Int)) % 128).toNat)
    rw [win_length] at this
    omega

end Go.Proofs.Ythmdibagcbbgoaa
