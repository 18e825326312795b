/- The contract of record.Scan. Conditions: the row is not longer than 2^24. -/
import Derived.Maps.AppendAt
import Derived.Test.YtaembdlidaogdaaRecRows
import Derived.Test.YtaembdlidaogdaaBox
namespace Go.Proofs.Ytaembdlidaogdaa
open Go.RowKit Go.Shelf
attribute [local go_sem] Oper.semAt_some

/-- record.rows boxes its row; the function value captures the box. -/
theorem rows_any (ao : Option Addr) (n cap : Nat) (w : World) : Calls Try.prog 25 #[.slice ao n cap] w fun e w' =>
    e = .returned (.func (.func 29) #[] #[.pointer (some ⟨w.heap.size, 0, none⟩)]) ∧ w.alloc (.cells #[.slice ao n cap] 22) = w' := by
  go_enter Try.func25, Try.ntmps25
  go_wp2
  go_ret
  exact ⟨rfl, rfl⟩

theorem OutAt.low {B C : Nat} {w : World} {v : Value} {ps : List (List Int)} (h : OutAt B w v ps) (hl : C ≤ B) : OutAt C w v ps := by
  obtain ⟨vs, h1, h2, h3⟩ := h
  exact ⟨vs, h1, owns_low h2 hl, fun i x p hx hp => owns_low (h3 i x p hx hp) hl⟩
theorem OutAt.turn {B : Nat} {w : World} {v : Value} {ps : List (List Int)} (h : OutAt B w v ps) {l : Nat} {o : Obj} (o' : Obj) (hl : w.heap[l]? = some o) (ho : o.isCells = false) : OutAt B (w.putObj l o') v ps := by
  obtain ⟨vs, h1, h2, h3⟩ := h
  exact ⟨vs, h1, ownsRow_putObj h2 _ hl ho, fun i x p hx hp => ownsRow_putObj (h3 i x p hx hp) _ hl ho⟩
theorem owns_cell {w : World} {base : Nat} {e : TypeId} {s : Nat} {v : Value} {n : Nat} {xs : List Value} (h : w.ownsRow base e s v n xs) {g : Nat} (hg : g < base) (u : Value) : (w.setCell ⟨g, 0, none⟩ u).ownsRow base e s v n xs :=
  owns_grown h (grownBy_setCell' w g u) fun k hk e => by cases e; have := (h.lt g hk).1; omega
theorem OutAt.cell {B : Nat} {w : World} {v : Value} {ps : List (List Int)} (h : OutAt B w v ps) {g : Nat} (hg : g < B) (u : Value) : OutAt B (w.setCell ⟨g, 0, none⟩ u) v ps := by
  obtain ⟨vs, h1, h2, h3⟩ := h
  exact ⟨vs, h1, owns_cell h2 hg u, fun i x p hx hp => owns_cell (h3 i x p hx hp) hg u⟩
theorem bx_bl {W W' : World} {B : Nat} {t : TypeId} {v : Value} (h : Boxed W B t v) (hb : Below W.heap.size W W') : Boxed W' B t v := bl_get hb h
theorem bx_turn {W : World} {B : Nat} {t : TypeId} {v : Value} (h : Boxed W B t v) {l : Nat} {o : Obj} (o' : Obj) (hl : W.heap[l]? = some o) (ho : o.isCells = false) : Boxed (W.putObj l o') B t v :=
  (World.putObj_heap_other (fun e => by subst e; rw [show W.heap[B]? = _ from h] at hl; cases hl; cases ho)).trans h
theorem bl_turn {w A : World} (hb : Below w.heap.size w A) {l : Nat} (o' : Obj) (hl : w.heap.size ≤ l) : Below w.heap.size w (A.putObj l o') :=
  ⟨hb.os, hb.tape, hb.output, by simpa using hb.size, fun k hk => (World.putObj_heap_other (by omega)).trans (hb.block k hk)⟩

/-- What Scan's rounds keep. -/
structure ScanAt (w : World) (v : Value) (ps : List (List Int)) (k : Nat) (A : World) : Prop where
  box : ∃ o, Boxed A w.heap.size 30 o ∧ OutAt (w.heap.size + 3) A o (ps.take k)
  fin : Boxed A (w.heap.size + 1) 3 (.int .i64 (place ps k : Nat))
  row : Boxed A (w.heap.size + 2) 22 v
  old : Below w.heap.size w A
  big : w.heap.size + 3 ≤ A.heap.size
theorem ScanAt.bl {w : World} {v : Value} {ps : List (List Int)} {k : Nat} {A B : World} (h : ScanAt w v ps k A) (hb : Below A.heap.size A B) : ScanAt w v ps k B := by
  obtain ⟨⟨o, h1, h2⟩, h3, h4, h5, h6⟩ := h
  exact ⟨⟨o, bx_bl h1 hb, h2.bl hb⟩, bx_bl h3 hb, bx_bl h4 hb, bl_trans h5 hb, Nat.le_trans h6 hb.size⟩
theorem ScanAt.turn {w : World} {v : Value} {ps : List (List Int)} {k : Nat} {A : World} (h : ScanAt w v ps k A) {l : Nat} {o : Obj} (o' : Obj) (hlw : w.heap.size ≤ l) (hl : A.heap[l]? = some o) (ho : o.isCells = false) : ScanAt w v ps k (A.putObj l o') := by
  obtain ⟨⟨u, h1, h2⟩, h3, h4, h5, h6⟩ := h
  exact ⟨⟨u, bx_turn h1 _ hl ho, h2.turn _ hl ho⟩, bx_turn h3 _ hl ho, bx_turn h4 _ hl ho, bl_turn h5 _ hlw, by simpa using h6⟩
/-- One record more. -/
theorem scan_push {w W w1 : World} {v out u v' : Value} {ps qs : List (List Int)} {k : Nat} (hq : qs = ps.take k) {p : List Int} {vs : List Value} (hb : Boxed W w.heap.size 30 out) (hl : vs.length = qs.length) (h2 : W.ownsRow (w.heap.size + 3) 22 1 out qs.length vs)
    (h3 : ∀ (i : Nat) (x : Value) (p : List Int), vs[i]? = some x → qs[i]? = some p → W.ownsRow (w.heap.size + 3) 5 1 x p.length (p.map (Value.int .u8))) (hu : W.ownsRow (w.heap.size + 3) 5 1 u p.length (p.map (Value.int .u8)))
    (hfin : ∃ x, Boxed W (w.heap.size + 1) 3 x) (hrow : Boxed W (w.heap.size + 2) 22 v) (hold : Below w.heap.size w W) (hbig : w.heap.size + 3 ≤ W.heap.size) (hp : ps[k]? = some p)
    (ho : w1.ownsRow (w.heap.size + 3) 22 1 v' (qs.length + 1) (vs ++ [u])) (hg : (W.alloc (.cells #[u] 22)).grownBy w1 out.ownBlock) :
    Boxed w1 w.heap.size 30 out ∧ (∃ x, Boxed (w1.setCell ⟨w.heap.size, 0, none⟩ v') (w.heap.size + 1) 3 x) ∧
    ∀ N : Int, N = (place ps (k + 1) : Nat) → ScanAt w v ps (k + 1) ((w1.setCell ⟨w.heap.size, 0, none⟩ v').setCell ⟨w.heap.size + 1, 0, none⟩ (.int .i64 N)) ∧ KeepsOthers W ((w1.setCell ⟨w.heap.size, 0, none⟩ v').setCell ⟨w.heap.size + 1, 0, none⟩ (.int .i64 N)) := by
  obtain ⟨a, b, _, d, f, keep⟩ := boxed_app (n₀ := w.heap.size) (t := 30) hb (by decide) h2 (Nat.le_refl _) (by omega) ho hg
  obtain ⟨x, hx⟩ := hfin
  have hx1 : Boxed (w1.setCell ⟨w.heap.size, 0, none⟩ v') (w.heap.size + 1) 3 x := (keep _ (by omega) (by omega) (by omega)).trans hx
  have hr1 : Boxed (w1.setCell ⟨w.heap.size, 0, none⟩ v') (w.heap.size + 2) 22 v := (keep _ (by omega) (by omega) (by omega)).trans hrow
  have hal : Below W.heap.size W (W.alloc (.cells #[u] 22)) := bl_alloc (bl_refl W) _
  have hO : OutAt (w.heap.size + 3) w1 v' (qs ++ [p]) := OutAt.push hl (owns_bl h2 hal) (fun i x q hx hq => owns_bl (h3 i x q hx hq) hal) (owns_bl hu hal) ho hg
  rw [hq, ← take_snoc' hp] at hO
  refine ⟨a, ⟨x, hx1⟩, fun N hN => ⟨⟨⟨v', b.other (by omega) _, (hO.cell (by omega) _).cell (by omega) _⟩, ?_, hr1.other (by omega) _, ?_, ?_⟩, d.trans (KeepsOthers.setCell _ _ _)⟩⟩
  · rw [← hN]; exact hx1.set _
  · exact (hold.trans f).setCell (p := ⟨w.heap.size + 1, 0, none⟩) (by simp) _
  · have := f.size; simp only [World.setCell] at this ⊢; simp at this ⊢; omega

theorem at_wrap1 {r P l : Nat} (h : P + (8 + l) ≤ r) (hl : r ≤ 16777216) : wrap64 ((P : Int) + 8) = (P : Int) + 8 := by unfold wrap64; omega
theorem at_wrap2 {r P l : Nat} (h : P + (8 + l) ≤ r) (hl : r ≤ 16777216) : wrap64 ((P : Int) + 8 + (l : Int)) = (P : Int) + 8 + (l : Int) := by unfold wrap64; omega

theorem at_sum (P l : Nat) : (P : Int) + 8 + (l : Int) = ((P + (8 + l) : Nat) : Int) := by omega

def ScanI (w : World) (v : Value) (ps : List (List Int)) (pre : List Item) (A : World) : Prop := ScanAt w v ps pre.length A

set_option maxRecDepth 100000 in
set_option maxHeartbeats 1000000 in
theorem scan_any (v : Value) (row : List Int) (ps : List (List Int)) (hs : Hid (Steps row ps)) (hw : Hid (∀ n ∈ row, (Lit.int .u8 n).wf = true)) (hlim : row.length ≤ 16777216) (w : World) (hr : Reads (Value.int .u8) w v row) :
    Calls Try.prog 14 #[v] w (ScanR ps w) := by
  obtain ⟨ao, cap, rfl⟩ : ∃ ao cap, v = .slice ao row.length cap := by
    obtain ⟨_, ao, cap, h, _⟩ := hr
    exact ⟨ao, cap, h⟩
  have hlen := hs.out.1
  obtain ⟨j0, hj, hy0, hy1, hy2⟩ := info_parts infoBytes
  have HR := Lib.hid hr
  clear hr
  refine (callsIn_wide (n := 9)).1 ?_
  refine callsIn_of_wp_marks Try.func14 rfl trivial ?_ rfl
  simp only [Try.ntmps14, List.size_toArray, List.length_cons, List.length_nil, Nat.reduceAdd, Nat.reduceSub, Array.replicate_succ, Array.replicate_zero, List.push_toArray, List.append_toArray, List.nil_append, List.cons_append]
  gi_wp2_with fail
  refine ⟨trivial, ?_⟩
  refine (callsIn_wide.2 (rows_any _ _ _ _)).mono ?_
  rintro e w' ⟨rfl, rfl⟩
  gi_wp2_with fail
  obtain ⟨W0, hW0⟩ : ∃ W0, ((w.alloc (.cells #[.slice none 0 0] 30)).alloc (.cells #[.int .i64 0] 3)).alloc (.cells #[.slice ao row.length cap] 22) = W0 := ⟨_, rfl⟩
  have hsz : W0.heap.size = w.heap.size + 3 := by subst hW0; simp
  have hST : ScanI w (.slice ao row.length cap) ps [] W0 := by
    unfold ScanI
    subst hW0
    refine ⟨⟨_, ((Boxed.new w 30 (.slice none 0 0)).alloc _).alloc _, by rw [List.length_nil, List.take_zero]; exact OutAt.nilv _ _⟩, ?_, ?_, bl_alloc (bl_alloc (bl_alloc (bl_refl w) _) _) _, by simp⟩
    · have := Boxed.new (w.alloc (.cells #[.slice none 0 0] 30)) 3 (.int .i64 0)
      rw [World.size_alloc] at this
      rw [List.length_nil, place_zero]
      exact this.alloc _
    · have := Boxed.new ((w.alloc (.cells #[.slice none 0 0] 30)).alloc (.cells #[.int .i64 0] 3)) 22 (.slice ao row.length cap)
      rw [World.size_alloc, World.size_alloc] at this
      exact this
  rw [hW0]
  clear hW0
  refine range_told (by decide) (gf := 29) (lb := #[.pointer (some ⟨w.heap.size + 1 + 1, 0, none⟩)]) rfl (enters_of Try.func29 (by kernel_rfl) rfl)
    (rows_told 8 (by decide) (w.heap.size + 3) (w.heap.size + 2) ao cap row ps hs hw hlim) (fun _ => rfl)
    (ScanI w (.slice ao row.length cap) ps) (fun _ _ _ => False) (fun pre A B h hb => ScanAt.bl h hb) (fun pre A h => ⟨h.row.cell, HR.out.below h.old, h.big⟩)
    (fun pre A l o o' h hl hg ho => ScanAt.turn h _ (by omega) hg ho) (fun _ _ _ _ _ _ h _ _ _ => h) (fun pre => itemAt_turns _ _ _ pre) hST
    (fun x => { tmps := #[.slice ao row.length cap, undef, Value.slice none 0 0, Value.int IntKind.i64 0, Value.pointer (some ⟨w.heap.size, 0, none⟩), Value.pointer (some ⟨w.heap.size + 1, 0, none⟩), .int .i64 x.at_, x.u, .slice ao row.length cap,
          Value.func (Fn.func 29) #[] #[Value.pointer (some ⟨w.heap.size + 1 + 1, 0, none⟩)], .int .i64 x.at_, x.u, undef, undef, undef, undef, undef, undef, undef, undef, undef, undef, undef], defers := [] }) ?assign ?body ?done ?stop
  case assign =>
    intro r x W K hK
    unfold itemArgs
    gi_wp2
    exact hK
  case body =>
    rintro r pre ⟨at_, p, u⟩ W hI ⟨hp, hat, hu⟩
    dsimp only at hp hat hu ⊢
    obtain ⟨⟨out, hb, vs, hvl, hvo, hvx⟩, hfin, hrow, hold, hbig⟩ := hI
    have hil := (List.getElem?_eq_some_iff.1 hp).1
    have hpl := (hs.out.2 (pre.length + 1) hil).2
    have hN := place_succ hp
    rw [hN] at hpl
    rw [← hat] at hN hpl hfin
    have e1 := at_wrap1 hpl hlim
    have e2 := at_wrap2 hpl hlim
    obtain ⟨qs, hq⟩ : ∃ qs, ps.take pre.length = qs := ⟨_, rfl⟩
    have hql : qs.length = pre.length := by rw [← hq, List.length_take]; omega
    rw [hq] at hvl hvo hvx
    have A1 : qs.length + 1 ≤ maxLen := by rw [hql]; simp only [maxLen]; omega
    have A2 : (qs.length + 1) * 24 ≤ 140737488355328 := by rw [hql]; omega
    have A3 : w.heap.size + 3 ≤ (W.alloc (.cells #[u] 22)).heap.size := by rw [World.size_alloc]; omega
    obtain ⟨uo, uc, rfl⟩ := owns_form3 hu
    have hc := hb.cell
    have hf := hb.frozen
    have PUSH := fun v' w1 => scan_push (v' := v') (w1 := w1) (ps := ps) (k := pre.length) hq.symm hb hvl hvo hvx hu ⟨_, hfin⟩ hrow hold hbig hp
    have PUSH := Lib.hid PUSH
    have HV := Lib.hid hvo
    have HN := Lib.hid hN
    clear hvl hvx hu hfin hrow hold hp hat hN hvo hql hil hpl hb hq
    gi_wp2_with (gi_at_builtin; refine wpListIn_append_own _ rfl _ _ 30 rfl (w.heap.size + 3) 22 j0 (.slice none 0 0) 1 24 Try.underlying30 hj hy0 hy1 hy2 rfl (by decide) _ _ _ rfl (HV.out.alloc _) ⟨W.heap.size, 0, none⟩ 1 1 [.slice uo p.length uc] rfl rfl (cell_one_new _ _ _) (by simp [Value.oneCell']) A1 A2 A3 ?_; intro v' w2 hown' hgrow _; obtain ⟨g', cap', rfl⟩ := ownsRow_succ hown'; obtain ⟨hv1, ⟨x0, hx0⟩, hfinN⟩ := PUSH.out _ _ hown' hgrow; have hc1 := hv1.cell; have hf1 := hv1.frozen; have hc2 := hx0.cell; have hf2 := hx0.frozen)
    obtain ⟨h1, h2⟩ := hfinN ((at_ : Int) + 8 + (p.length : Int)) (by rw [HN.out]; exact at_sum at_ p.length)
    refine ⟨h2.from _, ?_⟩
    unfold ScanI
    rw [List.length_append, List.length_singleton]
    exact h1
  case done =>
    rintro D xs W hD hxs hI hK
    obtain ⟨⟨out, hb, hO⟩, hfin, hrow, hold, hbig⟩ := hI
    rw [hxs] at hfin hO
    rw [List.take_length] at hO
    have hc := hb.cell
    have hc2 := hfin.cell
    have HO := Lib.hid hO
    have HK := Lib.hid hK
    clear hO hK hb hfin hrow hxs
    gi_wp2_with fail
    gi_region
    gi_wp2
    have hK2 : W.drew.heap[D]? = some (.deferred (some [])) := HK.out
    refine ⟨by simp, .inl ⟨_, _, rfl, run_takeDeferred hK2, ?_⟩⟩
    exact ⟨_, results_tmp2 rfl _ _ _, out, rfl, ((HO.out.bl (bl_drew (bl_refl W))).low (by omega)).turn _ hK2 rfl, bl_turn (bl_drew hold) _ (by omega)⟩
  case stop =>
    rintro D c pre W _ _ h _
    exact h.elim

end Go.Proofs.Ytaembdlidaogdaa
