/- LinkPlays: both ends in the midst of a round. portageref09.New where it makes an end. Plain facts about numbers below 2^64 and their bits; no program in sight. The contracts of bits.Put and of its reference: any number's bytes behind any others. Conditions: as they stand. -/
import Derived.Test.YthmdibagcbbgoaaGreatM42
import Derived.Test.YthmdibagcbbgoaaGreatM45
import Derived.Test.YthmdibagcbbgoaaGreatM40
import Derived.Laws.BitsAllLaws
import Derived.IntWalk
import Derived.RowKit
import Derived.WalkKit
import Derived.Lib.Hide
import Derived.Maps.AppendAt
import Derived.Test.YthmdibagcbbgoaaGreatProg
import Derived.Test.YthmdibagcbbgoaaGreatM00
namespace Go.Proofs.YthmdibagcbbgoaaGreat
open Go.RowKit

theorem exec_load_part {P : Program} {o : Oper} {a : Act} {w : World} (ty : TypeId) (x : Operand) (ho : o.op = .load ty x)
    (b off : Nat) (hx : a.eval x = .pointer (some ⟨b, off, none⟩)) (cs : Array Value) (d : TypeDesc) (hc : ∀ (j : Nat) (u : Value), cs[j]? = some u → w.cell? ⟨b, off + j, none⟩ = some u)
    (hu : P.underlying ty = some d) (hd : (match d with | .struct _ | .array _ _ => true | _ => false) = true) (hi : (P.info? ty).map (·.size) = some cs.size) :
    (execOp a.eval o).run P w = .ok (.value (.agg cs)) w := by
  have hl : (loadCells ⟨b, off, none⟩ cs.toList.length).run P w = .ok cs.toList.toArray w :=
    run_loadCells_list (P := P) w ⟨b, off, none⟩ cs.toList (fun j v hv => by
      rw [Addr.add_lit]
      exact hc j v (by simpa using hv))
  have hv : (loadVar ty ⟨b, off, none⟩).run P w = .ok (.agg cs) w := by
    cases hq : P.info? ty with
    | none => simp [hq] at hi
    | some i =>
      have hs : i.size = cs.size := by simpa [hq] using hi
      have hagg : (isAgg ty).run P w = .ok true w := by
        unfold isAgg
        rw [Sem.run_bind, run_underlying hu w]
        cases d <;> simp_all
      simp only [Array.length_toList, Array.toArray_toList] at hl
      simp [loadVar, Sem.run_bind, hagg, sizeOf, typeInfo, hq, hs, hl]
  unfold execOp
  simp only [ho, hx, Instr.loadAt, Instr.sureAddr, Sem.run_bind, Sem.run_pure, Result.andThen_ok, hv]

theorem infoA10 : (Tryz.prog.info? 48).map (·.size) = some 10 := by kernel_rfl

/-- What the reference may not have its rows in. -/
def Shut (col : Nat → Nat) (X : Nat → Prop) (k : Nat) : Prop := Turns col k ∨ X k
/-- Both ends: the program's is t, the reference's t'. -/
structure Mid (B : Nat) (col : Nat → Nat) (X : Nat → Prop) (w : World) (a sg rg : Nat) (po pi : Value) (t : Lk) (sl rl ra ov iv : Value) (t' : Lk) : Prop where
  lk : LkP B col w a sg rg po pi t
  out : ∀ k, X k → k < w.heap.size ∧ col k = 0
  rf : RfAt (Shut col X) w sl rl ra ov iv t'
section
variable {B : Nat} {col : Nat → Nat} {X Y : Nat → Prop} {w w' : World} {a sg rg : Nat} {po pi sl rl ra ov iv sl' rl' ra' ov' iv' : Value} {t t' T : Lk}
theorem Beside.mid (h : Beside B X w a sg rg sl rl ra ov iv t) : ∃ col po pi, Mid B col X w a sg rg po pi t sl rl ra ov iv t := by
  obtain ⟨col, po, pi, h1, h2, h3⟩ := h.ex
  exact ⟨col, po, pi, h1, h2, h3⟩
theorem Mid.beside (h : Mid B col X w a sg rg po pi t sl rl ra ov iv t) : Beside B X w a sg rg sl rl ra ov iv t := ⟨⟨_, _, _, h.lk, h.out, h.rf⟩⟩
theorem Beside.start (hp : LkP B col w a sg rg po pi t) (hb : Below w.heap.size w w') (hr : RfAt (Turns col) w' sl rl ra ov iv t) : Beside B (fun _ => False) w' a sg rg sl rl ra ov iv t :=
  ⟨⟨_, po, pi, hp.fr (G := fun _ => False) (.of_below hb) (fun _ _ g => g), fun _ g => g.elim, hr.mono fun _ hk => hk.elim id False.elim⟩⟩
/-- A call made others; the reference's end is a new one. -/
theorem Mid.call (h : Mid B col X w a sg rg po pi t sl rl ra ov iv t') (hb : Below w.heap.size w w') (hr : RfAt (Shut col X) w' sl' rl' ra' ov' iv' T) : Mid B col X w' a sg rg po pi t sl' rl' ra' ov' iv' T :=
  ⟨h.lk.fr (G := fun _ => False) (.of_below hb) (fun _ _ g => g), fun k hk => ⟨Nat.lt_of_lt_of_le (h.out k hk).1 hb.size, (h.out k hk).2⟩, hr⟩
theorem Mid.below (h : Mid B col X w a sg rg po pi t sl rl ra ov iv t') (hb : Below w.heap.size w w') : Mid B col X w' a sg rg po pi t sl rl ra ov iv t' := h.call hb (h.rf.below hb)
theorem shut_box (o : Obj) : ∀ k, Shut col (fun k => X k ∨ k = w.heap.size) k → Shut col X k ∨ (w.heap.size ≤ k ∧ k < (w.alloc o).heap.size) := fun k hk => by
  have hs : (w.alloc o).heap.size = w.heap.size + 1 := World.size_alloc _ _
  rcases hk with hk | hk | rfl
  · exact .inl (.inl hk)
  · exact .inl (.inr hk)
  · exact .inr ⟨Nat.le_refl _, by omega⟩
theorem Mid.box (h : Mid B col X w a sg rg po pi t sl rl ra ov iv t') (o : Obj) : Mid B col (fun k => X k ∨ k = w.heap.size) (w.alloc o) a sg rg po pi t sl rl ra ov iv t' := by
  have hb := bl_alloc (bl_refl w) o
  have hs : (w.alloc o).heap.size = w.heap.size + 1 := World.size_alloc _ _
  refine ⟨h.lk.fr (G := fun _ => False) (.of_below hb) (fun _ _ g => g), fun k hk => ?_, h.rf.keep hb (shut_box o)⟩
  rcases hk with hk | rfl
  · exact ⟨by have := (h.out k hk).1; omega, (h.out k hk).2⟩
  · refine ⟨by omega, ?_⟩
    apply Classical.byContradiction
    intro g
    have := (h.lk.cols.2 _ g).2
    omega
theorem Mid.row (h : Mid B col X w a sg rg po pi t sl rl ra ov iv t') {k : Nat} (hk : X k) (cs : Array Value) : Mid B col X (w.setRow k cs) a sg rg po pi t sl rl ra ov iv t' := by
  have hf := fr_row w k cs
  have hs := hf.size
  exact ⟨h.lk.fr hf fun j hj e => hj (by rw [e]; exact (h.out k hk).2), fun j hj => ⟨by have := (h.out j hj).1; omega, (h.out j hj).2⟩, h.rf.fr hf fun j _ hn e => hn (.inr (by rw [e]; exact hk))⟩
theorem shut_freed {d : Nat} : ∀ k, Shut (freed d col) X k → Shut col X k := fun k hk => hk.imp (fun g => by
  have h1 := g.1
  have h2 := g.2
  unfold freed at h1 h2
  split at h1
  · omega
  · rename_i h0
    rw [if_neg h0] at h2
    exact ⟨h1, h2⟩) id
theorem freed_zero {d k : Nat} (h : col k = 0) : freed d col k = 0 := by
  unfold freed
  split
  · rfl
  · exact h
theorem Mid.shut_a (h : Mid B col X w a sg rg po pi t sl rl ra ov iv t') : Shut col X a := .inl ⟨by rw [h.lk.own]; omega, by rw [h.lk.own]; omega⟩
theorem Mid.outed (h : Mid B col X w a sg rg po pi t sl rl ra ov iv t') : Mid B (freed 4 col) X (w.setCell ⟨a, 13, none⟩ (.slice none 0 0)) a sg rg (.slice none 0 0) pi { t with out := [] } sl rl ra ov iv t' := by
  have hf := fr_cell w a 13 (.slice none 0 0)
  have hs := hf.size
  exact ⟨h.lk.outed, fun k hk => ⟨by have := (h.out k hk).1; omega, freed_zero (h.out k hk).2⟩, (h.rf.fr hf fun j _ hn e => hn (by rw [e]; exact h.shut_a)).mono shut_freed⟩
theorem Mid.inned (h : Mid B col X w a sg rg po pi t sl rl ra ov iv t') : Mid B (freed 5 col) X (w.setCell ⟨a, 14, none⟩ (.slice none 0 0)) a sg rg po (.slice none 0 0) { t with inn := [] } sl rl ra ov iv t' := by
  have hf := fr_cell w a 14 (.slice none 0 0)
  have hs := hf.size
  exact ⟨h.lk.inned, fun k hk => ⟨by have := (h.out k hk).1; omega, freed_zero (h.out k hk).2⟩, (h.rf.fr hf fun j _ hn e => hn (by rw [e]; exact h.shut_a)).mono shut_freed⟩
theorem Mid.less (h : Mid B col X w a sg rg po pi t sl rl ra ov iv t') (hY : ∀ k, Y k → X k) : Mid B col Y w a sg rg po pi t sl rl ra ov iv t' :=
  ⟨h.lk, fun k hk => h.out k (hY k hk), h.rf.mono fun k hk => hk.imp id (hY k)⟩
/-- What was sent, as it reads behind Out. -/
theorem Mid.sent (h : Mid B col X w a sg rg po pi t sl rl ra ov iv t') (hm : t.out.length ≤ 1000) : CtlsR (fun k => col k = 4 ∨ col k = 7) (w.setCell ⟨a, 13, none⟩ (.slice none 0 0)) po t.out :=
  (h.lk.out.read (by omega)).fr (fr_cell w a 13 (.slice none 0 0)) fun k hk e => by
    subst e
    have := h.lk.own
    rcases hk with g | g <;> omega
theorem lst_rows {c : Nat} {v : Value} {ps : List (List Int)} (h : RowsAt B col c w v ps) (hm : ps.length ≤ 1000000) : Lst w v ps := by
  obtain ⟨vs, h1, h2, h3, h4⟩ := h
  exact ⟨vs, h1, Reads.of_owns (by rw [List.map_id]; exact h2) (by unfold maxLen; omega), fun i x p hx hp => (h4 i x p hx hp).1.1⟩
/-- What came in, as it reads behind In. -/
theorem Mid.came (h : Mid B col X w a sg rg po pi t sl rl ra ov iv t') (hm : t.inn.length ≤ 1000) : Lst (w.setCell ⟨a, 14, none⟩ (.slice none 0 0)) pi t.inn :=
  lst_rows (h.lk.inn.fr (fr_cell w a 14 (.slice none 0 0)) fun k hk e => by
    subst e
    have := h.lk.own
    rcases hk with g | g <;> omega) (by omega)
end

end Go.Proofs.YthmdibagcbbgoaaGreat

namespace Go.Proofs.YthmdibagcbbgoaaGreat
open Go.RowKit

theorem r9setup_blank (C : Nat → Prop) (m s ti tr : Nat) (w : World) (hlim : ∀ k, C k → k < w.heap.size) (me size timer tries : Int) (hme : me = m) (hsize : size = s) (htimer : timer = ti) (htries : tries = tr) :
    Calls Tryz.prog 25 #[.agg #[.int .i64 me, .int .i64 (-1), .bool false, .int .i64 timer, .int .i64 tries, .int .i64 0, .int .i64 0, .int .i64 0, .bool false, .bool false, .int .i64 size, .int .i64 0, .slice none 0 0, .int .i64 0, .int .i64 size, .int .i64 0, .slice none 0 0, .slice none 0 0, .slice none 0 0, .slice none 0 0], .bool false] w fun e w' => Rf9 C w (Lk.new m s ti tr) e w' := by
  subst hme hsize htimer htries
  have hrf : RfAt C w (.slice none 0 0) (.slice none 0 0) (.slice none 0 0) (.slice none 0 0) (.slice none 0 0) (Lk.blank m s ti tr) := ⟨hlim, Pays.nil _ _, Els.nil _ _ _, ⟨[], rd_nil _ _ _, forgot_rel _ _ _⟩, Els.nil _ _ _, Pays.nil _ _⟩
  exact r9setup_any C w _ _ _ _ _ _ hrf false (by show (0 : Nat) ≤ _; omega)

set_option maxRecDepth 100000 in
set_option maxHeartbeats 4000000 in
theorem r9new_at (C : Nat → Prop) (m s ti tr : Nat) (h : setOk m s ti tr) (w : World) (hlim : ∀ k, C k → k < w.heap.size) :
    Calls Tryz.prog 5 #[.int .i64 m, .int .i64 s, .int .i64 ti, .int .i64 tr] w fun e w' => Rf9E C w (Lk.new m s ti tr) 0 e w' := by
  obtain ⟨me, hme⟩ : ∃ x : Int, x = m := ⟨_, rfl⟩
  obtain ⟨size, hsize⟩ : ∃ x : Int, x = s := ⟨_, rfl⟩
  obtain ⟨timer, htimer⟩ : ∃ x : Int, x = ti := ⟨_, rfl⟩
  obtain ⟨tries, htries⟩ : ∃ x : Int, x = tr := ⟨_, rfl⟩
  rw [← hme, ← hsize, ← htimer, ← htries] at h ⊢
  have HEQ : Hid (me = m ∧ size = s ∧ timer = ti ∧ tries = tr) := ⟨hme, hsize, htimer, htries⟩
  have HLIM := Lib.hid hlim
  clear hme hsize htimer htries hlim
  obtain ⟨g1, g2, g3, g4, g5, g6, g7, g8⟩ := h
  obtain ⟨w1, hw1, hb1, x0⟩ := alloc_named w #[.int .i64 0, .int .i64 0, .bool false, .int .i64 0, .int .i64 0, .int .i64 0, .int .i64 0, .int .i64 0, .bool false, .bool false, .int .i64 0, .int .i64 0, .slice none 0 0, .int .i64 0, .int .i64 0, .int .i64 0, .slice none 0 0, .slice none 0 0, .slice none 0 0, .slice none 0 0] 38
  have H7 := r97_ok size g7 g8 w1
  have X0 := Lib.hid x0
  have HB1 := Lib.hid hb1
  clear x0 hb1
  go_enter Tryz.func5, Tryz.ntmps5
  go_wp2_with fail
  try simp only [hw1]
  refine H7.mono ?_
  rintro e w2 ⟨rfl, hb2⟩
  obtain ⟨wA, hwA, hbA, yA⟩ := alloc_named w2 #[.int .i64 0, .int .i64 0, .slice none 0 0, .int .i64 0] 31
  have y3 := setRow_heap wA w2.heap.size _ #[.int .i64 size, .int .i64 0, .slice none 0 0, .int .i64 0] _ _ yA
  have f3 := fr_row wA w2.heap.size #[.int .i64 size, .int .i64 0, .slice none 0 0, .int .i64 0]
  obtain ⟨w3, hw3⟩ : ∃ w3, wA.setRow w2.heap.size #[.int .i64 size, .int .i64 0, .slice none 0 0, .int .i64 0] = w3 := ⟨_, rfl⟩
  rw [hw3] at y3 f3
  have hlt := lt_of_get X0.out
  have hb3 : Below w1.heap.size w1 w3 := bl_fr (bl_trans hb2 hbA) f3 (fun k hk => by have := hb2.size; omega)
  have H8 := r98_ok size g7 g8 w3
  have YA := Lib.hid yA
  have X3 := Lib.hid (bl_get hb3 X0.out)
  have Y3 := Lib.hid y3
  have HB3 : Hid (Below w.heap.size w w3) := bl_trans HB1.out hb3
  clear hb2 hbA hb3 H7 HB1 yA y3 f3 hlt
  go_wp2_with (refine wpList_store_row rfl 31 (.tmp 10) (.tmp 18) rfl w2.heap.size #[.int .i64 size, .int .i64 0, .slice none 0 0, .int .i64 0] rfl rfl 31 #[.int .i64 0, .int .i64 0, .slice none 0 0, .int .i64 0] (by first | exact YA.out | (rw [hwA]; exact YA.out)) infoS7 rfl (by simp [Value.oneCell']) ?_; (try rw [hwA]); (try rw [hw3]))
  refine H8.mono ?_
  rintro e w4 ⟨rfl, hb4⟩
  obtain ⟨wB, hwB, hbB, yB⟩ := alloc_named w4 #[.int .i64 0, .int .i64 0, .slice none 0 0, .slice none 0 0] 35
  have y5 := setRow_heap wB w4.heap.size _ #[.int .i64 size, .int .i64 0, .slice none 0 0, .slice none 0 0] _ _ yB
  have f5 := fr_row wB w4.heap.size #[.int .i64 size, .int .i64 0, .slice none 0 0, .slice none 0 0]
  obtain ⟨w5, hw5⟩ : ∃ w5, wB.setRow w4.heap.size #[.int .i64 size, .int .i64 0, .slice none 0 0, .slice none 0 0] = w5 := ⟨_, rfl⟩
  rw [hw5] at y5 f5
  have hlt := lt_of_get Y3.out
  have hb5 : Below w3.heap.size w3 w5 := bl_fr (bl_trans hb4 hbB) f5 (fun k hk => by have := hb4.size; omega)
  have YB := Lib.hid yB
  have X5 := Lib.hid (bl_get hb5 X3.out)
  have Y5 := Lib.hid (bl_get hb5 Y3.out)
  have U5 := Lib.hid y5
  have HB5 : Hid (Below w.heap.size w w5) := bl_trans HB3.out hb5
  clear hb4 hbB hb5 H8 HB3 yB y5 f5 hlt X3 Y3
  go_wp2_with (refine wpList_store_row rfl 35 (.tmp 12) (.tmp 23) rfl w4.heap.size #[.int .i64 size, .int .i64 0, .slice none 0 0, .slice none 0 0] rfl rfl 35 #[.int .i64 0, .int .i64 0, .slice none 0 0, .slice none 0 0] (by first | exact YB.out | (rw [hwB]; exact YB.out)) infoR8 rfl (by simp [Value.oneCell']) ?_; (try rw [hwB]); (try rw [hw5]))
  refine (number_yes g1 g2 _).mono ?_
  rintro e w6 ⟨rfl, rfl⟩
  go_wp2_with fail
  refine (number_yes g3 g4 _).mono ?_
  rintro e w6 ⟨rfl, rfl⟩
  go_wp2_with fail
  refine (number_yes g5 g6 _).mono ?_
  rintro e w6 ⟨rfl, rfl⟩
  obtain ⟨wC, hwC, hbC, yC⟩ := alloc_named w5 #[.int .i64 0, .int .i64 0, .bool false, .int .i64 0, .int .i64 0, .int .i64 0, .int .i64 0, .int .i64 0, .bool false, .bool false, .int .i64 0, .int .i64 0, .slice none 0 0, .int .i64 0, .int .i64 0, .int .i64 0, .slice none 0 0, .slice none 0 0, .slice none 0 0, .slice none 0 0] 38
  have y6 := setRow_heap wC w5.heap.size _ #[.int .i64 me, .int .i64 (-1), .bool false, .int .i64 timer, .int .i64 tries, .int .i64 0, .int .i64 0, .int .i64 0, .bool false, .bool false, .int .i64 size, .int .i64 0, .slice none 0 0, .int .i64 0, .int .i64 size, .int .i64 0, .slice none 0 0, .slice none 0 0, .slice none 0 0, .slice none 0 0] _ _ yC
  have f6 := fr_row wC w5.heap.size #[.int .i64 me, .int .i64 (-1), .bool false, .int .i64 timer, .int .i64 tries, .int .i64 0, .int .i64 0, .int .i64 0, .bool false, .bool false, .int .i64 size, .int .i64 0, .slice none 0 0, .int .i64 0, .int .i64 size, .int .i64 0, .slice none 0 0, .slice none 0 0, .slice none 0 0, .slice none 0 0]
  obtain ⟨w6, hw6⟩ : ∃ w6, wC.setRow w5.heap.size #[.int .i64 me, .int .i64 (-1), .bool false, .int .i64 timer, .int .i64 tries, .int .i64 0, .int .i64 0, .int .i64 0, .bool false, .bool false, .int .i64 size, .int .i64 0, .slice none 0 0, .int .i64 0, .int .i64 size, .int .i64 0, .slice none 0 0, .slice none 0 0, .slice none 0 0, .slice none 0 0] = w6 := ⟨_, rfl⟩
  rw [hw6] at y6 f6
  have hb6 : Below w5.heap.size w5 w6 := bl_fr hbC f6 (fun k hk => by omega)
  have HS := r9setup_blank (fun k => C k ∨ k = w.heap.size) m s ti tr w6 (fun k hk => by
    rcases hk with hk | hk
    · exact Nat.lt_of_lt_of_le (HLIM.out k hk) (Nat.le_trans HB5.out.size hb6.size)
    · rw [hk]; exact Nat.lt_of_lt_of_le (lt_of_get X5.out) hb6.size) me size timer tries HEQ.out.1 HEQ.out.2.1 HEQ.out.2.2.1 HEQ.out.2.2.2
  have YC := Lib.hid yC
  have Y6 := Lib.hid y6
  have X6 := Lib.hid (bl_get hb6 X5.out)
  have HB6 : Hid (Below w.heap.size w w6) := bl_trans HB5.out hb6
  clear hbC hb6 yC y6 f6
  go_wp2_with (first | (refine wpList_load_row rfl 31 (.tmp 10) rfl w2.heap.size rfl 31 #[.int .i64 size, .int .i64 0, .slice none 0 0, .int .i64 0] (0, 0) _ Y5.out Tryz.underlying31 rfl infoS7 ?_) | (refine wpList_load_row rfl 35 (.tmp 12) rfl w4.heap.size rfl 35 #[.int .i64 size, .int .i64 0, .slice none 0 0, .slice none 0 0] (0, 0) _ U5.out Tryz.underlying35 rfl infoR8 ?_) | (refine wpList_store_row rfl 38 (.tmp 14) (.tmp 48) rfl w5.heap.size #[.int .i64 me, .int .i64 (-1), .bool false, .int .i64 timer, .int .i64 tries, .int .i64 0, .int .i64 0, .int .i64 0, .bool false, .bool false, .int .i64 size, .int .i64 0, .slice none 0 0, .int .i64 0, .int .i64 size, .int .i64 0, .slice none 0 0, .slice none 0 0, .slice none 0 0, .slice none 0 0] rfl rfl 38 #[.int .i64 0, .int .i64 0, .bool false, .int .i64 0, .int .i64 0, .int .i64 0, .int .i64 0, .int .i64 0, .bool false, .bool false, .int .i64 0, .int .i64 0, .slice none 0 0, .int .i64 0, .int .i64 0, .int .i64 0, .slice none 0 0, .slice none 0 0, .slice none 0 0, .slice none 0 0] (by first | exact YC.out | (rw [hwC]; exact YC.out)) infoLink9 rfl (by simp [Value.oneCell']) ?_; (try rw [hwC]); (try rw [hw6])) | (refine wpList_load_row rfl 38 (.tmp 14) rfl w5.heap.size rfl 38 #[.int .i64 me, .int .i64 (-1), .bool false, .int .i64 timer, .int .i64 tries, .int .i64 0, .int .i64 0, .int .i64 0, .bool false, .bool false, .int .i64 size, .int .i64 0, .slice none 0 0, .int .i64 0, .int .i64 size, .int .i64 0, .slice none 0 0, .slice none 0 0, .slice none 0 0, .slice none 0 0] (0, 0) _ Y6.out Tryz.underlying38 rfl infoLink9 ?_))
  refine HS.mono ?_
  rintro e w7 ⟨⟨sl7, rl7, ra7, ov7, iv7, rfl, hr7⟩, hb7⟩
  have X7 := Lib.hid (bl_get hb7 X6.out)
  have HB7 : Hid (Below w.heap.size w w7) := bl_trans HB6.out hb7
  have hone := hr7.one
  clear hb7 HS X6 HB6
  go_wp2_with ((with_reducible show wpList _ _ _ (⟨_, .store 38 (.tmp 8) (.tmp 50), _, _, _, none⟩ :: _) _ _; refine RowKit.Hid.out ?_))
  refine Lib.hid ?_
  refine wpList_store_row rfl 38 (.tmp 8) (.tmp 50) rfl w.heap.size _ rfl rfl _ _ X7.out infoL9 rfl hone ?_
  have hrow := setRow_heap w7 w.heap.size _ (Lk.ref (Lk.new m s ti tr) sl7 rl7 ra7 ov7 iv7) _ _ X7.out
  have hf7 := fr_row w7 w.heap.size (Lk.ref (Lk.new m s ti tr) sl7 rl7 ra7 ov7 iv7)
  have hrr : RfAt C (w7.setRow w.heap.size (Lk.ref (Lk.new m s ti tr) sl7 rl7 ra7 ov7 iv7)) sl7 rl7 ra7 ov7 iv7 (Lk.new m s ti tr) := (hr7.fr hf7 fun k _ hn e => hn (.inr e)).mono fun k hk => .inl hk
  go_wp2_with fail
  refine bodyPost_ret (results_tmp_row rfl _ _ w.heap.size 38 _ (0, 0) _ rfl hrow Tryz.underlying38 rfl infoL9) rfl ?_
  exact ⟨⟨_, _, _, _, _, rfl, hrr⟩, bl_fr HB7.out hf7 (fun k hk => by omega)⟩

end Go.Proofs.YthmdibagcbbgoaaGreat

namespace Go.Proofs.YthmdibagcbbgoaaGreat
open Go Go.RowKit

theorem mask_val {s : Nat} (h1 : 1 ≤ s) (h2 : s ≤ 64) : (18446744073709551615 : Int) / 2 ^ (64 - s) = ((2 ^ s - 1 : Nat) : Int) := by
  have h : ∀ s : Fin 65, 1 ≤ s.val → (18446744073709551615 : Int) / 2 ^ (64 - s.val) = ((2 ^ s.val - 1 : Nat) : Int) := by decide +kernel
  exact h ⟨s, by omega⟩ h1
theorem bit_val (N i : Nat) : (((N : Int) / 2 ^ i).tmod 2 == 1) = N.testBit i := by
  have e : ((N : Int) / 2 ^ i) = ((N / 2 ^ i : Nat) : Int) := by push_cast; rfl
  rw [e, Nat.testBit_eq_decide_div_mod_eq]
  generalize N / 2 ^ i = M
  have e2 : ((M : Nat) : Int).tmod 2 = ((M % 2 : Nat) : Int) := by
    rw [Int.tmod_eq_emod_of_nonneg (by omega)]; omega
  rw [e2]
  have : M % 2 = 0 ∨ M % 2 = 1 := by omega
  rcases this with h | h <;> simp [h]
theorem wrap_u64 {n : Nat} (h : n < 2 ^ 64) : IntKind.u64.wrap (n : Int) = (n : Int) := IntWalk.u64_in _ (by omega)
theorem pow_le63 {k : Nat} (h : k ≤ 63) : 2 ^ k ≤ 2 ^ 63 := Nat.pow_le_pow_right (by decide) h
theorem pow_le64 {k : Nat} (h : k ≤ 64) : 2 ^ k ≤ 2 ^ 64 := Nat.pow_le_pow_right (by decide) h
theorem power_step {i k : Nat} (hi : i < k) (hk : k < 64) : IntKind.u64.wrap (2 ^ i * 2) = ((2 ^ (i + 1) : Nat) : Int) := by
  have e : ((2 : Int) ^ i * 2) = ((2 ^ (i + 1) : Nat) : Int) := by push_cast; rw [Int.pow_succ]
  have := pow_le63 (k := i + 1) (by omega)
  rw [e, wrap_u64 (by omega)]

/-- The lowest k bits the other way round. -/
def mirTo (N : Nat) : Nat → Nat
  | 0 => 0
  | k + 1 => 2 * mirTo N k + N / 2 ^ k % 2
/-- How many of the lowest k bits are 1. -/
def cntTo (N : Nat) : Nat → Nat
  | 0 => 0
  | k + 1 => cntTo N k + N / 2 ^ k % 2
theorem mirTo_lt (N k : Nat) : mirTo N k < 2 ^ k := by
  induction k with
  | zero => simp [mirTo]
  | succ k ih => rw [mirTo, Nat.pow_succ]; omega
theorem cntTo_le (N k : Nat) : cntTo N k ≤ k := by
  induction k with
  | zero => simp [cntTo]
  | succ k ih => rw [cntTo]; omega

theorem or_u64 {a b : Nat} (ha : a < 2 ^ 64) (hb : b < 2 ^ 64) : bits .or .u64 (a : Int) (b : Int) = ((a ||| b : Nat) : Int) := u64_or_nat a b ha hb
theorem and_u64 {a b : Nat} (ha : a < 2 ^ 64) (hb : b < 2 ^ 64) : bits .and .u64 (a : Int) (b : Int) = ((a &&& b : Nat) : Int) := u64_and_nat a b ha hb
theorem andNot_u64 {a b : Nat} (ha : a < 2 ^ 64) (hb : b < 2 ^ 64) : bits .andNot .u64 (a : Int) (b : Int) = ((a &&& (2 ^ 64 - 1 - b) : Nat) : Int) := u64_andNot_nat a b ha hb

/-- N without its lowest i bits. -/
def shrN (N i : Nat) : Nat := N / 2 ^ i
theorem shrN_lt {N : Nat} (h : N < 2 ^ 64) (i : Nat) : shrN N i < 2 ^ 64 := Nat.lt_of_le_of_lt (Nat.div_le_self _ _) h
theorem shrN_cast (N i : Nat) : ((N : Int) / 2 ^ i) = ((shrN N i : Nat) : Int) := by unfold shrN; push_cast; rfl
theorem shrN_succ (N i : Nat) : shrN N i / 2 = shrN N (i + 1) := by unfold shrN; rw [Nat.div_div_eq_div_mul, Nat.pow_succ]
theorem shrN_zero (N : Nat) : shrN N 0 = N := by simp [shrN]
theorem mirTo_succ (N k : Nat) : mirTo N (k + 1) = 2 * mirTo N k + shrN N k % 2 := rfl
theorem cntTo_succ (N k : Nat) : cntTo N (k + 1) = cntTo N k + shrN N k % 2 := rfl
theorem testBit_shrN (N i : Nat) : N.testBit i = decide (shrN N i % 2 = 1) := by rw [Nat.testBit_eq_decide_div_mod_eq]; rfl
theorem mirTo_zero (N : Nat) : mirTo N 0 = 0 := rfl
theorem cntTo_zero (N : Nat) : cntTo N 0 = 0 := rfl
attribute [irreducible] mirTo cntTo shrN

theorem and1_u64 {a : Nat} (ha : a < 2 ^ 64) : bits .and .u64 (a : Int) 1 = ((a % 2 : Nat) : Int) := by
  have := and_u64 ha (show 1 < 2 ^ 64 by decide)
  rw [show ((1 : Nat) : Int) = 1 from rfl] at this
  rw [this, nat_mask1]
theorem wrap64_small {n : Nat} (h : n ≤ 1000) : wrap64 (n : Int) = (n : Int) := by
  unfold wrap64; omega
theorem cnt_step {N i : Nat} (hN : N < 2 ^ 64) (hi : i < 64) : wrap64 ((cntTo N i : Nat) + wrap64 (bits .and .u64 ((N : Int) / 2 ^ i) 1)) = ((cntTo N (i + 1) : Nat) : Int) := by
  have hc := cntTo_le N i
  rw [shrN_cast, and1_u64 (shrN_lt hN i), wrap64_small (by omega), ← Int.natCast_add, wrap64_small (by omega), cntTo_succ]
theorem cnt_hit {N i : Nat} (h : N.testBit i = true) : ((cntTo N i : Nat) : Int) + 1 = ((cntTo N (i + 1) : Nat) : Int) := by
  rw [testBit_shrN] at h
  have := of_decide_eq_true h
  rw [cntTo_succ, this]; rfl
theorem cnt_miss {N i : Nat} (h : N.testBit i = false) : ((cntTo N i : Nat) : Int) = ((cntTo N (i + 1) : Nat) : Int) := by
  rw [testBit_shrN] at h
  have := of_decide_eq_false h
  rw [cntTo_succ, show shrN N i % 2 = 0 by omega]; rfl
theorem mir_hit {N i : Nat} (h : N.testBit i = true) (hi : i < 64) : IntKind.u64.wrap (IntKind.u64.wrap (2 * (mirTo N i : Nat)) + 1) = ((mirTo N (i + 1) : Nat) : Int) := by
  rw [testBit_shrN] at h
  have := of_decide_eq_true h
  have h1 := mirTo_lt N i
  have h2 := pow_le63 (k := i) (by omega)
  rw [show (2 * ((mirTo N i : Nat) : Int)) = ((2 * mirTo N i : Nat) : Int) by push_cast; rfl, wrap_u64 (by omega), mirTo_succ, this,
    show (((2 * mirTo N i : Nat) : Int) + 1) = ((2 * mirTo N i + 1 : Nat) : Int) by push_cast; rfl, wrap_u64 (by omega)]
theorem mir_miss {N i : Nat} (h : N.testBit i = false) (hi : i < 64) : IntKind.u64.wrap (2 * (mirTo N i : Nat)) = ((mirTo N (i + 1) : Nat) : Int) := by
  rw [testBit_shrN] at h
  have := of_decide_eq_false h
  have h1 := mirTo_lt N i
  have h2 := pow_le63 (k := i) (by omega)
  rw [show (2 * ((mirTo N i : Nat) : Int)) = ((2 * mirTo N i : Nat) : Int) by push_cast; rfl, wrap_u64 (by omega), mirTo_succ, show shrN N i % 2 = 0 by omega, Nat.add_zero]
/-- Bits above the lowest s are there just where the number does not fit. -/
theorem andNot_mask {V s : Nat} (hV : V < 2 ^ 64) (hs : s ≤ 64) : (bits .andNot .u64 (V : Int) ((2 ^ s - 1 : Nat) : Int) != 0) = decide (2 ^ s ≤ V) := by
  have hp := pow_le64 hs
  have hp1 : 0 < 2 ^ s := Nat.pow_pos (by decide)
  rw [andNot_u64 hV (by omega)]
  have key : V &&& (2 ^ 64 - 1 - (2 ^ s - 1)) = V / 2 ^ s * 2 ^ s := by
    apply Nat.eq_of_testBit_eq
    intro i
    rw [Nat.testBit_and, show 2 ^ 64 - 1 - (2 ^ s - 1) = 2 ^ 64 - (2 ^ s - 1 + 1) by omega, Nat.testBit_two_pow_sub_succ (by omega), Nat.testBit_two_pow_sub_one, Nat.testBit_mul_two_pow, Nat.testBit_div_two_pow]
    by_cases h1 : s ≤ i
    · by_cases h2 : i < 64
      · simp [h1, h2, show ¬ i < s by omega, show i - s + s = i by omega]
      · have : V.testBit i = false := Nat.testBit_lt_two_pow (Nat.lt_of_lt_of_le hV (Nat.pow_le_pow_right (by decide) (by omega)))
        simp [h2, h1, this, show i - s + s = i by omega]
    · simp [h1, show i < s by omega]
  rw [key]
  by_cases h : 2 ^ s ≤ V
  · have : 0 < V / 2 ^ s := Nat.div_pos h hp1
    have h2 : 0 < V / 2 ^ s * 2 ^ s := Nat.mul_pos this hp1
    rw [decide_eq_true h, bne_iff_ne]
    intro h0
    have := Int.natCast_eq_zero.1 h0
    omega
  · rw [Nat.div_eq_of_lt (by omega)]
    simp; omega

theorem shr_step (N i : Nat) : ((shrN N i : Nat) : Int) / 2 = ((shrN N (i + 1) : Nat) : Int) := by rw [← shrN_succ]; omega
theorem mir_or {N i : Nat} (hN : N < 2 ^ 64) (hi : i < 64) : bits .or .u64 (IntKind.u64.wrap ((mirTo N i : Nat) * 2)) (bits .and .u64 ((shrN N i : Nat) : Int) 1) = ((mirTo N (i + 1) : Nat) : Int) := by
  have h1 := mirTo_lt N i
  have h2 := pow_le63 (k := i) (by omega)
  rw [and1_u64 (shrN_lt hN i), show (((mirTo N i : Nat) : Int) * 2) = ((2 * mirTo N i : Nat) : Int) by push_cast; omega, wrap_u64 (by omega), or_u64 (by omega) (by omega), nat_join 1 _ _ (by omega) (by omega), mirTo_succ]

/-- What Mirror answers. -/
def mirE (N : Nat) (s : Int) : Int := if s < 1 ∨ 64 < s then 1 else if 2 ^ s.toNat ≤ N then 3 else 0
def mirV (N : Nat) (s : Int) : Nat := if s < 1 ∨ 64 < s then 0 else if 2 ^ s.toNat ≤ N then 0 else mirTo N s.toNat
theorem mir_bad {N : Nat} {s : Int} (h : s < 1 ∨ 64 < s) : mirE N s = 1 ∧ mirV N s = 0 := by simp [mirE, mirV, h]
theorem mir_long {N s : Nat} (h1 : 1 ≤ s) (h2 : s ≤ 64) (h : 2 ^ s ≤ N) : mirE N s = 3 ∧ mirV N s = 0 := by
  have : ¬ ((s : Int) < 1 ∨ 64 < (s : Int)) := by omega
  simp [mirE, mirV, this, h]
theorem mir_good {N s : Nat} (h1 : 1 ≤ s) (h2 : s ≤ 64) (h : N < 2 ^ s) : mirE N s = 0 ∧ mirV N s = mirTo N s := by
  have : ¬ ((s : Int) < 1 ∨ 64 < (s : Int)) := by omega
  simp [mirE, mirV, this, Nat.not_le.2 h]

theorem fits_val (N s : Nat) : (decide (64 ≤ (s : Int)) || decide ((N : Int) < 2 ^ s)) = decide (64 ≤ s ∨ N < 2 ^ s) := by
  have e : (2 : Int) ^ s = ((2 ^ s : Nat) : Int) := by push_cast; rfl
  rw [e, ← Bool.decide_or, decide_eq_decide]
  omega

end Go.Proofs.YthmdibagcbbgoaaGreat

namespace Go.Proofs.YthmdibagcbbgoaaGreat
open Go.RowKit

theorem infoByte : (Tryz.prog.info? 5).map (fun i => (i.zero, i.size, i.bytes)) = some (some (.int .u8 0), 1, 1) := by kernel_rfl

/-- The s lowest bytes of a number, the highest one first. -/
def be (N : Nat) : Nat → List Int
  | 0 => []
  | s + 1 => ((N / 2 ^ (8 * s) % 256 : Nat) : Int) :: be N s
theorem be_length (N s : Nat) : (be N s).length = s := by
  induction s with
  | zero => rfl
  | succ s ih => simp [be, ih]

theorem be_byte (N r : Nat) (h : 1 ≤ r) : ∃ l, be N r = ((N / 2 ^ (8 * r - 8) % 256 : Nat) : Int) :: l ∧ l = be N (r - 1) := by
  obtain ⟨k, rfl⟩ : ∃ k, r = k + 1 := ⟨r - 1, by omega⟩
  exact ⟨be N k, by rw [be, show 8 * (k + 1) - 8 = 8 * k by omega], by simp⟩
theorem byte_val (N k : Nat) : IntKind.u8.wrap ((N : Int) / 2 ^ k) = ((N / 2 ^ k % 256 : Nat) : Int) := by
  rw [IntKind.wrap_u8, show ((N : Int) / 2 ^ k) = ((N / 2 ^ k : Nat) : Int) by push_cast; rfl]
  omega
theorem fit_false {N s : Nat} (h : N < 2 ^ (8 * s)) : ((N : Int) / 2 ^ (8 * s) != 0) = false := by
  rw [show ((N : Int) / 2 ^ (8 * s)) = ((N / 2 ^ (8 * s) : Nat) : Int) by push_cast; rfl, Nat.div_eq_of_lt h]
  rfl
theorem fit_true {N s : Nat} (h : 2 ^ (8 * s) ≤ N) : ((N : Int) / 2 ^ (8 * s) != 0) = true := by
  rw [show ((N : Int) / 2 ^ (8 * s)) = ((N / 2 ^ (8 * s) : Nat) : Int) by push_cast; rfl, bne_iff_ne]
  have := Nat.div_pos h (Nat.pow_pos (by decide))
  omega

/-- What Put answers. -/
def putE (N : Nat) (s : Int) : Int := if s < 1 ∨ 8 < s then 1 else if s < 8 ∧ 2 ^ (8 * s.toNat) ≤ N then 3 else 0
def putV (bs : List Int) (N : Nat) (s : Int) : List Int := if s < 1 ∨ 8 < s then [] else if s < 8 ∧ 2 ^ (8 * s.toNat) ≤ N then [] else bs ++ be N s.toNat
theorem putV_le (bs : List Int) (N : Nat) (s : Int) : (putV bs N s).length ≤ bs.length + 8 := by
  unfold putV
  split
  · simp
  · split
    · simp
    · simp [be_length]; omega

end Go.Proofs.YthmdibagcbbgoaaGreat
