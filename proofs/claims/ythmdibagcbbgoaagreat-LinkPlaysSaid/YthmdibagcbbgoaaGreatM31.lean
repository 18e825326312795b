/- portagelaw09.both: two ends, up, nothing under way. portageref09.New: is it right?. Conditions: as they stand. -/
import Derived.Test.YthmdibagcbbgoaaGreatM30
namespace Go.Proofs.YthmdibagcbbgoaaGreat
open Go.RowKit

theorem set_box (w : World) (a b c d : Int) : ∃ w1, w.alloc (.cells #[.int .i64 a, .int .i64 b, .int .i64 c, .int .i64 d] 23) = w1 ∧ Below w.heap.size w w1 ∧ w1.heap.size = w.heap.size + 1 ∧ w1.cell? ⟨w.heap.size, 0, none⟩ = some (.int .i64 a) ∧ w1.cell? ⟨w.heap.size, 1, none⟩ = some (.int .i64 b) ∧ w1.cell? ⟨w.heap.size, 2, none⟩ = some (.int .i64 c) ∧ w1.cell? ⟨w.heap.size, 3, none⟩ = some (.int .i64 d) := by
  have hbx := heap_alloc_new w (.cells #[.int .i64 a, .int .i64 b, .int .i64 c, .int .i64 d] 23)
  refine ⟨_, rfl, bl_alloc (bl_refl w) _, by simp, ?_, ?_, ?_, ?_⟩ <;> (rw [cell_of_row _ _ _ _ _ _ hbx]; rfl)
def St.val (a : St) : Value := .agg #[.int .i64 a.me, .int .i64 a.size, .int .i64 a.timer, .int .i64 a.tries]

set_option maxRecDepth 100000 in
set_option maxHeartbeats 4000000 in
theorem both_ok (a b : St) (ha : a.Ok) (hb : b.Ok) (w : World) :
    Calls Tryz.prog 26 #[.agg #[.int .i64 a.me, .int .i64 a.size, .int .i64 a.timer, .int .i64 a.tries], .agg #[.int .i64 b.me, .int .i64 b.size, .int .i64 b.timer, .int .i64 b.tries]] w fun e w' => ∃ B a1 s1 r1 a2 s2 r2, e = .returned (.tuple #[.pointer (some ⟨a1, 0, none⟩), .pointer (some ⟨a2, 0, none⟩), .bool true]) ∧ w.heap.size ≤ B ∧ Ends B w' a1 s1 r1 a2 s2 r2 (a.met b) (b.met a) ∧ Below w.heap.size w w' := by
  obtain ⟨w1, hw1, hb1, hz1, d0, d1, d2, d3⟩ := set_box w a.me a.size a.timer a.tries
  obtain ⟨w2, hw2, hb2, hz2, k0, k1, k2, k3⟩ := set_box w1 b.me b.size b.timer b.tries
  replace d0 := below_cell hb2 d0
  replace d1 := below_cell hb2 d1
  replace d2 := below_cell hb2 d2
  replace d3 := below_cell hb2 d3
  obtain ⟨B, hB⟩ : ∃ B, B = w2.heap.size := ⟨_, rfl⟩
  have HN1 := lnew_ok a.me a.size a.timer a.tries ha.me ha.timer1 ha.timer2 ha.tries1 ha.tries2 ha.size1 ha.size2 B w2 (by omega)
  have HB2 : Hid (Below w.heap.size w w2) := hb1.trans (hb2.mono hb1.size)
  have HZ : Hid (B = w2.heap.size ∧ w2.heap.size = w1.heap.size + 1 ∧ w1.heap.size = w.heap.size + 1) := ⟨hB, hz2, hz1⟩
  have HA := Lib.hid ha
  have HBO := Lib.hid hb
  clear hb1 hb2 hz1 hz2 hB ha hb
  go_enter Tryz.func26, Tryz.ntmps26
  go_wp2_with fail
  try simp only [hw1, hw2]
  go_wp2_with fail
  refine HN1.mono ?_
  rintro e w3 ⟨a1, s1, r1, c1, o1, i1, rfl, hp1, hc1, hb3⟩
  have hB3 : B ≤ w3.heap.size := by have := HZ.out.1; have := hb3.size; omega
  have HN2 := lnew_ok b.me b.size b.timer b.tries HBO.out.me HBO.out.timer1 HBO.out.timer2 HBO.out.tries1 HBO.out.tries2 HBO.out.size1 HBO.out.size2 B w3 hB3
  replace k0 := below_cell hb3 k0
  replace k1 := below_cell hb3 k1
  replace k2 := below_cell hb3 k2
  replace k3 := below_cell hb3 k3
  replace d0 := below_cell hb3 d0
  have HP1 := Lib.hid hp1
  have HB3 := Lib.hid hb3
  have hz3 := hp1.c2
  clear hp1 hc1 hb3 HN1 d1 d2 d3 hz3 hB3
  go_wp2_with fail
  refine HN2.mono ?_
  rintro e w4 ⟨a2, s2, r2, c2, o2, i2, rfl, hp2, hc2, hb4⟩
  have HE : Hid (Ends B w4 a1 s1 r1 a2 s2 r2 (a.stage b 0) (b.stage a 0)) := ⟨⟨c1, o1, i1, c2, o2, i2, HP1.out.fr (G := fun _ => False) (.of_below hb4) (fun _ _ h => h), hp2, fun k hk => hc2 k (HP1.out.cols.2 k hk).2⟩⟩
  have HB4 : Hid (Below B w2 w4) := by
    have h1 := HZ.out.1
    rw [h1]
    exact HB3.out.trans (hb4.mono HB3.out.size)
  replace k0 := below_cell hb4 k0
  replace d0 := below_cell hb4 d0
  have hk0 := cell_lt k0
  clear hp2 hc2 hb4 HN2 k1 k2 k3 HP1 HB3
  go_wp2_with fail
  go_loopw [11] (fun iv wr => ∃ i : Nat, iv = .int .i64 i ∧ i ≤ 4 ∧ Hid (Ends B wr a1 s1 r1 a2 s2 r2 (a.stage b i) (b.stage a i)) ∧ Hid (Below B w4 wr)) (fun iv _ => 10 - (intOf iv).toNat)
  case atStart => exact ⟨0, rfl, by omega, HE, Below.refl _ _⟩
  case round =>
    clear HE
    obtain ⟨i, rfl, hi, HE, HBL⟩ := hrel
    by_cases hlt : i < 4
    · obtain ⟨x1, x2, x3⟩ := stage_ok (b := b) HA.out i
      obtain ⟨y1, y2, y3⟩ := stage_ok (b := a) HBO.out i
      have HC := cross_any B wr a1 s1 r1 a2 s2 r2 _ _ HE.out x1 y1 (by omega) (by omega) (by omega) (by omega)
      rw [stage_step HA.out HBO.out i, stage_step HBO.out HA.out i] at HC
      have j1 : (i : Int) < 4 := by omega
      clear x1 x2 x3 y1 y2 y3
      go_wp2_with fail
      refine HC.mono ?_
      rintro e w5 ⟨rfl, h5, hb5⟩
      have H5 := Lib.hid h5
      have HB5 : Hid (Below B w4 w5) := HBL.out.trans hb5
      clear h5 hb5 HC HE
      go_wp2
      go_roundw
      case rel => exact ⟨i + 1, by go_num, by omega, H5, HB5⟩
      case measure => simp [intOf]; omega
    · obtain rfl : i = 4 := by omega
      have HE4 : Hid (Ends B wr a1 s1 r1 a2 s2 r2 (a.met b) (b.met a)) := HE
      clear HE
      obtain ⟨ca, oa, ia, cb, ob, ib, hA, hB', hd⟩ := HE4.out.ex
      have hz := HZ.out
      have m0 : wr.cell? ⟨w.heap.size, 0, none⟩ = some (.int .i64 a.me) := (HBL.out.cell (p := ⟨w.heap.size, 0, none⟩) (by show w.heap.size < B; omega)).trans d0
      have m1 : wr.cell? ⟨w1.heap.size, 0, none⟩ = some (.int .i64 b.me) := (HBL.out.cell (p := ⟨w1.heap.size, 0, none⟩) (by show w1.heap.size < B; omega)).trans k0
      have HU1 : ∀ W, Below wr.heap.size wr W → Calls Tryz.prog 14 #[.pointer (some ⟨a1, 0, none⟩)] W fun e w' => e = .returned (.bool true) ∧ W = w' := fun W hb => lup_any B ca W a1 s1 r1 oa ia _ (hA.fr (G := fun _ => False) (.of_below hb) (fun _ _ h => h))
      have HU2 : ∀ W, Below wr.heap.size wr W → Calls Tryz.prog 14 #[.pointer (some ⟨a2, 0, none⟩)] W fun e w' => e = .returned (.bool true) ∧ W = w' := fun W hb => lup_any B cb W a2 s2 r2 ob ib _ (hB'.fr (G := fun _ => False) (.of_below hb) (fun _ _ h => h))
      have HQ1 : ∀ W, Below wr.heap.size wr W → Calls Tryz.prog 16 #[.pointer (some ⟨a1, 0, none⟩)] W fun e w' => e = .returned (.int .i64 b.me) ∧ W = w' := fun W hb => lpeer_any B ca W a1 s1 r1 oa ia _ (hA.fr (G := fun _ => False) (.of_below hb) (fun _ _ h => h))
      have HQ2 : ∀ W, Below wr.heap.size wr W → Calls Tryz.prog 16 #[.pointer (some ⟨a2, 0, none⟩)] W fun e w' => e = .returned (.int .i64 a.me) ∧ W = w' := fun W hb => lpeer_any B cb W a2 s2 r2 ob ib _ (hB'.fr (G := fun _ => False) (.of_below hb) (fun _ _ h => h))
      have HUP : ∀ (W : World) (p : Nat), Below wr.heap.size wr W → p = a1 ∨ p = a2 → Calls Tryz.prog 14 #[.pointer (some ⟨p, 0, none⟩)] W fun e w' => e = .returned (.bool true) ∧ W = w' := fun W p hb h => by
        rcases h with rfl | rfl
        · exact HU1 W hb
        · exact HU2 W hb
      have HPE : ∀ (W : World) (p : Nat) (n : Int), Below wr.heap.size wr W → (p = a1 ∧ n = (b.me : Int)) ∨ (p = a2 ∧ n = (a.me : Int)) → Calls Tryz.prog 16 #[.pointer (some ⟨p, 0, none⟩)] W fun e w' => e = .returned (.int .i64 n) ∧ W = w' := fun W p n hb h => by
        rcases h with ⟨rfl, rfl⟩ | ⟨rfl, rfl⟩
        · exact HQ1 W hb
        · exact HQ2 W hb
      have HEN : Hid (∀ W, Below wr.heap.size wr W → Ends B W a1 s1 r1 a2 s2 r2 (a.met b) (b.met a)) := fun W hb => ⟨⟨ca, oa, ia, cb, ob, ib, hA.fr (G := fun _ => False) (.of_below hb) (fun _ _ h => h), hB'.fr (G := fun _ => False) (.of_below hb) (fun _ _ h => h), hd⟩⟩
      have HBW : Hid (w.heap.size ≤ B ∧ Below w.heap.size w wr) := ⟨by omega, HB2.out.trans ((HB4.out.trans HBL.out).mono (by omega))⟩
      clear hA hB' hd HE4 hz HBL HB4 d0 k0 HB2 HZ HU1 HU2 HQ1 HQ2
      go_wp2_with fail
      go_region_held3 (fun w' => w'.cell? ⟨w.heap.size, 0, none⟩ = some (.int .i64 a.me) ∧ w'.cell? ⟨w1.heap.size, 0, none⟩ = some (.int .i64 b.me))
        (first | exact ⟨m0, m1⟩)
        (first | (go_at_call 14; refine (HUP _ _ (bl_drew (bl_refl _)) (by first | exact .inl rfl | exact .inr rfl)).mono ?_; rintro e w9 ⟨rfl, rfl⟩) | (go_at_call 16; refine (HPE _ _ _ (bl_drew (bl_refl _)) (by first | exact .inl ⟨rfl, rfl⟩ | exact .inr ⟨rfl, rfl⟩)).mono ?_; rintro e w9 ⟨rfl, rfl⟩))
      go_wp2
      go_ret3
      exact ⟨B, a1, s1, r1, a2, s2, r2, rfl, HBW.out.1, HEN.out _ (bl_drew (bl_refl _)), HBW.out.2.trans ((bl_drew (bl_refl wr)).mono HBW.out.2.size)⟩

/-- link.New at any numbers. -/
theorem lnew_some (me size timer tries : Int) (w : World) :
    Calls Tryz.prog 4 #[.int .i64 me, .int .i64 size, .int .i64 timer, .int .i64 tries] w fun e w' => (∃ v n, e = .returned (.tuple #[v, .int .i64 n]) ∧ ((setOk me size timer tries ∧ n = 0 ∧ ∃ p, v = .pointer (some ⟨p, 0, none⟩)) ∨ (¬ setOk me size timer tries ∧ n = 1 ∧ v = .pointer none))) ∧ Below w.heap.size w w' := by
  by_cases h : setOk me size timer tries
  · obtain ⟨m, rfl⟩ : ∃ m : Nat, me = m := ⟨me.toNat, by unfold setOk at h; omega⟩
    obtain ⟨s, rfl⟩ : ∃ m : Nat, size = m := ⟨size.toNat, by unfold setOk at h; omega⟩
    obtain ⟨t, rfl⟩ : ∃ m : Nat, timer = m := ⟨timer.toNat, by unfold setOk at h; omega⟩
    obtain ⟨r, rfl⟩ : ∃ m : Nat, tries = m := ⟨tries.toNat, by unfold setOk at h; omega⟩
    have h0 := h
    unfold setOk at h0
    refine (lnew_ok m s t r (by omega) (by omega) (by omega) (by omega) (by omega) (by omega) (by omega) w.heap.size w (Nat.le_refl _)).mono ?_
    rintro e w' ⟨a, sg, rg, col, ov, iv, rfl, _, _, hb⟩
    exact ⟨⟨_, _, rfl, .inl ⟨h, rfl, a, rfl⟩⟩, hb⟩
  · refine (lnew_bad me size timer tries h w).mono ?_
    rintro e w' ⟨rfl, rfl⟩
    exact ⟨⟨_, _, rfl, .inr ⟨h, rfl, rfl⟩⟩, bl_refl _⟩

set_option maxRecDepth 100000 in
set_option maxHeartbeats 4000000 in
theorem both_bad (a0 a1 a2 a3 b0 b1 b2 b3 : Int) (h : ¬ (setOk a0 a1 a2 a3 ∧ setOk b0 b1 b2 b3)) (w : World) :
    Calls Tryz.prog 26 #[.agg #[.int .i64 a0, .int .i64 a1, .int .i64 a2, .int .i64 a3], .agg #[.int .i64 b0, .int .i64 b1, .int .i64 b2, .int .i64 b3]] w fun e w' => (∃ v1 v2, e = .returned (.tuple #[v1, v2, .bool false])) ∧ Below w.heap.size w w' := by
  obtain ⟨w1, hw1, hb1, hz1, d0, d1, d2, d3⟩ := set_box w a0 a1 a2 a3
  obtain ⟨w2, hw2, hb2, hz2, k0, k1, k2, k3⟩ := set_box w1 b0 b1 b2 b3
  replace d0 := below_cell hb2 d0
  replace d1 := below_cell hb2 d1
  replace d2 := below_cell hb2 d2
  replace d3 := below_cell hb2 d3
  have HN1 := lnew_some a0 a1 a2 a3 w2
  have HB2 : Hid (Below w.heap.size w w2) := hb1.trans (hb2.mono hb1.size)
  clear hb1 hb2 hz1 hz2
  go_enter Tryz.func26, Tryz.ntmps26
  go_wp2_with fail
  try simp only [hw1, hw2]
  go_wp2_with fail
  refine HN1.mono ?_
  rintro e w3 ⟨⟨v, n, rfl, hv⟩, hb3⟩
  have HN2 := lnew_some b0 b1 b2 b3 w3
  replace k0 := below_cell hb3 k0
  replace k1 := below_cell hb3 k1
  replace k2 := below_cell hb3 k2
  replace k3 := below_cell hb3 k3
  have HB3 : Hid (Below w.heap.size w w3) := HB2.out.trans (hb3.mono HB2.out.size)
  clear hb3 HB2 HN1 d0 d1 d2 d3
  go_wp2_with fail
  refine HN2.mono ?_
  rintro e w4 ⟨⟨u, m, rfl, hu⟩, hb4⟩
  have HB4 : Hid (Below w.heap.size w w4) := HB3.out.trans (hb4.mono HB3.out.size)
  clear hb4 HB3 HN2 k0 k1 k2 k3
  rcases hv with ⟨hs1, rfl, p, rfl⟩ | ⟨hs1, rfl, rfl⟩
  · rcases hu with ⟨hs2, rfl, q, rfl⟩ | ⟨hs2, rfl, rfl⟩
    · exact absurd ⟨hs1, hs2⟩ h
    · clear h hs1 hs2
      go_wp2
      go_ret3
      exact ⟨⟨_, _, rfl⟩, HB4.out⟩
  · rcases hu with ⟨hs2, rfl, q, rfl⟩ | ⟨hs2, rfl, rfl⟩
    · clear h hs1 hs2
      go_wp2
      go_ret3
      exact ⟨⟨_, _, rfl⟩, HB4.out⟩
    · clear h hs1 hs2
      go_wp2
      go_ret3
      exact ⟨⟨_, _, rfl⟩, HB4.out⟩

end Go.Proofs.YthmdibagcbbgoaaGreat

namespace Go.Proofs.YthmdibagcbbgoaaGreat
open Go.RowKit

section
variable {P : Program} {ops : Array Oper} {rest : List Oper} {o : Oper} {a : Act} {Q : Exit → Act → World → Prop}
theorem wpList_ctls (w : World) (hgd : o.guard = none) (s x : Operand) (t : TypeId)
    (ho : o.op = .call { callee := .builtin .append, args := #[s, x], argTypes := #[t, t] }) {i : TypeInfo} {z : Value}
    (ht : P.underlying t = some (.slice 46)) (hi : P.info? 46 = some i) (hz : i.zero = some z) (hzs : z.cells.size = 7) (hsize : i.size = 7) {by_ : Nat} (hby : i.bytes = by_) (hby2 : by_ ≤ 100)
    {B : Nat} {col : Nat → Nat} {d : Nat} (hd : d ≠ 0) (hd7 : d ≠ 7) (hC : Cols B col w) {v : Value} {l : List Cn} (hs : a.eval s = v) (hR : CtlsAt B col d w v l) {g : Nat} (hx : a.eval x = .slice (some ⟨g, 0, none⟩) 1 1)
    {c : Cn} {y : Value} (hg : w.heap[g]? = some (.cells (c.agg y) 46 (0, 0))) (hY : Byt (fun k => col k = 7) w y c.data) (hm : l.length ≤ 1000000)
    (h : ∀ v' w', CtlsAt B (paint col w w' d) d w' v' (l ++ [c]) → Fr (fun k => col k = d) w w' → wpList P ops Q rest (a.put o.dst v') w') : wpList P ops Q (o :: rest) a w :=
  wpList_plain hgd fun _ hK => wp_ctls w s x t ho ht hi hz hzs hsize hby hby2 hd hd7 hC hs hR hx hg hY hm fun v' w' h1 h2 => hK _ _ (h v' w' h1 h2)
end

theorem infoLink9 : (Tryz.prog.info? 38).map (·.size) = some 20 := by kernel_rfl
theorem ctls_form {B : Nat} {col : Nat → Nat} {d : Nat} {w : World} {v : Value} {c : Cn} (h : CtlsAt B col d w v ([] ++ [c])) : ∃ lo lc, v = .slice lo 1 lc := by
  obtain ⟨cs, v2, _⟩ := h
  exact rc_form v2

set_option maxRecDepth 100000 in
theorem send_world (me peer timer tries left size : Int) (w : World) :
    ∃ W6, ((((((w.alloc (.cells #[.int .i64 me, .int .i64 peer, .bool false, .int .i64 timer, .int .i64 tries, .int .i64 left, .int .i64 0, .int .i64 0, .bool false, .bool false, .int .i64 size, .int .i64 0, .slice none 0 0, .int .i64 0, .int .i64 size, .int .i64 0, .slice none 0 0, .slice none 0 0, .slice none 0 0, .slice none 0 0] 38)).alloc (.cells #[.int .i64 5, .int .i64 0, .int .i64 0, .bool false, .int .i64 me, .int .i64 0, .slice none 0 0] 46)).alloc (.cells #[.int .i64 0, .int .i64 0, .bool false, .int .i64 0, .int .i64 0, .int .i64 0, .int .i64 0, .int .i64 0, .bool false, .bool false, .int .i64 0, .int .i64 0, .slice none 0 0, .int .i64 0, .int .i64 0, .int .i64 0, .slice none 0 0, .slice none 0 0, .slice none 0 0, .slice none 0 0] 38))).alloc (.cells #[] 46)).alloc (.cells #[.int .i64 5, .int .i64 0, .int .i64 0, .bool false, .int .i64 me, .int .i64 0, .slice none 0 0] 46)) = W6 ∧ Below w.heap.size w W6 ∧ W6.heap[w.heap.size]? = some (.cells #[.int .i64 me, .int .i64 peer, .bool false, .int .i64 timer, .int .i64 tries, .int .i64 left, .int .i64 0, .int .i64 0, .bool false, .bool false, .int .i64 size, .int .i64 0, .slice none 0 0, .int .i64 0, .int .i64 size, .int .i64 0, .slice none 0 0, .slice none 0 0, .slice none 0 0, .slice none 0 0] 38) ∧ W6.heap[w.heap.size + 1 + 1]? = some (.cells #[.int .i64 0, .int .i64 0, .bool false, .int .i64 0, .int .i64 0, .int .i64 0, .int .i64 0, .int .i64 0, .bool false, .bool false, .int .i64 0, .int .i64 0, .slice none 0 0, .int .i64 0, .int .i64 0, .int .i64 0, .slice none 0 0, .slice none 0 0, .slice none 0 0, .slice none 0 0] 38) ∧ W6.heap[w.heap.size + 1 + 1 + 1]? = some (.cells #[] 46) ∧ W6.heap[w.heap.size + 1 + 1 + 1 + 1]? = some (.cells #[.int .i64 5, .int .i64 0, .int .i64 0, .bool false, .int .i64 me, .int .i64 0, .slice none 0 0] 46) := by
  have b1 := bl_alloc (bl_refl w) (.cells #[.int .i64 me, .int .i64 peer, .bool false, .int .i64 timer, .int .i64 tries, .int .i64 left, .int .i64 0, .int .i64 0, .bool false, .bool false, .int .i64 size, .int .i64 0, .slice none 0 0, .int .i64 0, .int .i64 size, .int .i64 0, .slice none 0 0, .slice none 0 0, .slice none 0 0, .slice none 0 0] 38)
  have x1 := heap_alloc_new w (.cells #[.int .i64 me, .int .i64 peer, .bool false, .int .i64 timer, .int .i64 tries, .int .i64 left, .int .i64 0, .int .i64 0, .bool false, .bool false, .int .i64 size, .int .i64 0, .slice none 0 0, .int .i64 0, .int .i64 size, .int .i64 0, .slice none 0 0, .slice none 0 0, .slice none 0 0, .slice none 0 0] 38)
  have s1 : (w.alloc (.cells #[.int .i64 me, .int .i64 peer, .bool false, .int .i64 timer, .int .i64 tries, .int .i64 left, .int .i64 0, .int .i64 0, .bool false, .bool false, .int .i64 size, .int .i64 0, .slice none 0 0, .int .i64 0, .int .i64 size, .int .i64 0, .slice none 0 0, .slice none 0 0, .slice none 0 0, .slice none 0 0] 38)).heap.size = w.heap.size + 1 := by simp
  generalize w.alloc (.cells #[.int .i64 me, .int .i64 peer, .bool false, .int .i64 timer, .int .i64 tries, .int .i64 left, .int .i64 0, .int .i64 0, .bool false, .bool false, .int .i64 size, .int .i64 0, .slice none 0 0, .int .i64 0, .int .i64 size, .int .i64 0, .slice none 0 0, .slice none 0 0, .slice none 0 0, .slice none 0 0] 38) = w1 at b1 x1 s1
  have b2 := bl_alloc (bl_refl w1) (.cells #[.int .i64 5, .int .i64 0, .int .i64 0, .bool false, .int .i64 me, .int .i64 0, .slice none 0 0] 46)
  have s2 : (w1.alloc (.cells #[.int .i64 5, .int .i64 0, .int .i64 0, .bool false, .int .i64 me, .int .i64 0, .slice none 0 0] 46)).heap.size = w.heap.size + 1 + 1 := by simp [s1]
  replace x1 := bl_get b2 x1
  generalize w1.alloc (.cells #[.int .i64 5, .int .i64 0, .int .i64 0, .bool false, .int .i64 me, .int .i64 0, .slice none 0 0] 46) = w2 at b2 x1 s2
  have b3 := bl_alloc (bl_refl w2) (.cells #[.int .i64 0, .int .i64 0, .bool false, .int .i64 0, .int .i64 0, .int .i64 0, .int .i64 0, .int .i64 0, .bool false, .bool false, .int .i64 0, .int .i64 0, .slice none 0 0, .int .i64 0, .int .i64 0, .int .i64 0, .slice none 0 0, .slice none 0 0, .slice none 0 0, .slice none 0 0] 38)
  have x3 := heap_alloc_new w2 (.cells #[.int .i64 0, .int .i64 0, .bool false, .int .i64 0, .int .i64 0, .int .i64 0, .int .i64 0, .int .i64 0, .bool false, .bool false, .int .i64 0, .int .i64 0, .slice none 0 0, .int .i64 0, .int .i64 0, .int .i64 0, .slice none 0 0, .slice none 0 0, .slice none 0 0, .slice none 0 0] 38)
  have s3 : (w2.alloc (.cells #[.int .i64 0, .int .i64 0, .bool false, .int .i64 0, .int .i64 0, .int .i64 0, .int .i64 0, .int .i64 0, .bool false, .bool false, .int .i64 0, .int .i64 0, .slice none 0 0, .int .i64 0, .int .i64 0, .int .i64 0, .slice none 0 0, .slice none 0 0, .slice none 0 0, .slice none 0 0] 38)).heap.size = w.heap.size + 1 + 1 + 1 := by simp [s2]
  replace x1 := bl_get b3 x1
  rw [s2] at x3
  generalize w2.alloc (.cells #[.int .i64 0, .int .i64 0, .bool false, .int .i64 0, .int .i64 0, .int .i64 0, .int .i64 0, .int .i64 0, .bool false, .bool false, .int .i64 0, .int .i64 0, .slice none 0 0, .int .i64 0, .int .i64 0, .int .i64 0, .slice none 0 0, .slice none 0 0, .slice none 0 0, .slice none 0 0] 38) = w3 at b3 x1 x3 s3
  have b5 := bl_alloc (bl_refl w3) (.cells #[] 46)
  have x5 := heap_alloc_new w3 (.cells #[] 46)
  have s5 : (w3.alloc (.cells #[] 46)).heap.size = w.heap.size + 1 + 1 + 1 + 1 := by simp [s3]
  replace x1 := bl_get b5 x1
  replace x3 := bl_get b5 x3
  rw [s3] at x5
  generalize w3.alloc (.cells #[] 46) = w5 at b5 x1 x3 x5 s5
  have b6 := bl_alloc (bl_refl w5) (.cells #[.int .i64 5, .int .i64 0, .int .i64 0, .bool false, .int .i64 me, .int .i64 0, .slice none 0 0] 46)
  have x6 := heap_alloc_new w5 (.cells #[.int .i64 5, .int .i64 0, .int .i64 0, .bool false, .int .i64 me, .int .i64 0, .slice none 0 0] 46)
  rw [s5] at x6
  have h5 : Below w.heap.size w w5 := bl_trans (bl_trans b1 (bl_trans b2 b3)) b5
  exact ⟨_, rfl, bl_trans h5 b6, bl_get b6 x1, bl_get b6 x3, bl_get b6 x5, x6⟩

set_option maxRecDepth 100000 in
set_option maxHeartbeats 4000000 in
theorem r9send_new (me peer timer tries left size : Int) (w : World) :
    Calls Tryz.prog 40 #[.agg #[.int .i64 me, .int .i64 peer, .bool false, .int .i64 timer, .int .i64 tries, .int .i64 left, .int .i64 0, .int .i64 0, .bool false, .bool false, .int .i64 size, .int .i64 0, .slice none 0 0, .int .i64 0, .int .i64 size, .int .i64 0, .slice none 0 0, .slice none 0 0, .slice none 0 0, .slice none 0 0], .agg #[.int .i64 5, .int .i64 0, .int .i64 0, .bool false, .int .i64 0, .int .i64 0, .slice none 0 0]] w fun e w' => (∃ oo oc, e = .returned (.agg #[.int .i64 me, .int .i64 peer, .bool false, .int .i64 timer, .int .i64 tries, .int .i64 left, .int .i64 0, .int .i64 0, .bool false, .bool false, .int .i64 size, .int .i64 0, .slice none 0 0, .int .i64 0, .int .i64 size, .int .i64 0, .slice none 0 0, .slice none 0 0, .slice oo 1 oc, .slice none 0 0])) ∧ Below w.heap.size w w' := by
  obtain ⟨i1, gi, gz0, gz1, gz2⟩ := info_parts (infoCtl)
  obtain ⟨W6, hW6, hb6, x0, x2, x3, x4⟩ := send_world me peer timer tries left size w
  have hlt := lt_of_get x4
  have HC : Hid (Cols (w.heap.size + 1 + 1 + 1) (fun k => if k = w.heap.size + 1 + 1 + 1 then 4 else 0) W6) := ⟨by omega, fun k hk => by
    by_cases h : k = w.heap.size + 1 + 1 + 1
    · omega
    · exact absurd (if_neg h) hk⟩
  have HR : Hid (CtlsAt (w.heap.size + 1 + 1 + 1) (fun k => if k = w.heap.size + 1 + 1 + 1 then 4 else 0) 4 W6 (.slice (some ⟨w.heap.size + 1 + 1 + 1, 0, none⟩) 0 0) []) := ⟨[], ⟨rfl, .inr ⟨_, 0, #[], rfl, Nat.le_refl _, x3, by simp, by simp, rfl, rfl⟩⟩, fun k hk => by simp [Value.ownBlock] at hk; subst hk; simp, fun i c hc => by simp at hc⟩
  have HX : Hid (W6.heap[w.heap.size + 1 + 1 + 1 + 1]? = some (.cells ((⟨5, 0, 0, false, me, 0, []⟩ : Cn).agg (.slice none 0 0)) 46 (0, 0))) := x4
  have HB6 := Lib.hid hb6
  have X0 := Lib.hid x0
  have X2 := Lib.hid x2
  clear x3 x4 hb6 hlt
  go_enter Tryz.func40, Tryz.ntmps40
  have HFB : Hid (∀ k, (if k = w.heap.size + 1 + 1 + 1 then 4 else 0) = 4 → w.heap.size ≤ k) := fun k hk => by
    by_cases h : k = w.heap.size + 1 + 1 + 1
    · omega
    · rw [if_neg h] at hk; omega
  have hn0 : Hid (¬ (if w.heap.size = w.heap.size + 1 + 1 + 1 then 4 else 0) = 4) := by unfold Hid; rw [if_neg (by omega)]; omega
  have hn2 : Hid (¬ (if w.heap.size + 1 + 1 = w.heap.size + 1 + 1 + 1 then 4 else 0) = 4) := by unfold Hid; rw [if_neg (by omega)]; omega
  go_wp2_with (first | (at_builtin; refine wpList_ctls _ rfl (.tmp 13) (.tmp 15) 36 rfl Tryz.underlying36 gi gz0 rfl gz1 gz2 (by omega) (d := 4) (by omega) (by omega) HC.out rfl HR.out rfl HX.out (byt_nil _ _) (Nat.zero_le _) ?_; intro v' w' hR' hF'; obtain ⟨lo, lc, hl⟩ := ctls_form hR'; subst hl; have Y0 := Lib.hid (set_obj w' w.heap.size 18 _ _ (.slice lo 1 lc) (hF'.get X0.out hn0.out)); have z18 : w'.frozen? ⟨w.heap.size, 18, none⟩ = false := rc_frozen (hF'.get X0.out hn0.out); have d18 : w'.cell? ⟨w.heap.size, 18, none⟩ = some (.slice none 0 0) := (by rw [cell_of_row _ _ _ _ _ _ (hF'.get X0.out hn0.out)]; rfl); have Y2 := Lib.hid ((fr_cell w' w.heap.size 18 (.slice lo 1 lc)).get (hF'.get X2.out hn2.out) (by omega)); have HB7 : Hid (Below w.heap.size w w') := HB6.out.trans (fr_bl hF' HFB.out HB6.out.size); clear hR' hF') | (refine wpList_load_row rfl 38 (.tmp 2) rfl w.heap.size rfl 38 #[.int .i64 me, .int .i64 peer, .bool false, .int .i64 timer, .int .i64 tries, .int .i64 left, .int .i64 0, .int .i64 0, .bool false, .bool false, .int .i64 size, .int .i64 0, .slice none 0 0, .int .i64 0, .int .i64 size, .int .i64 0, .slice none 0 0, .slice none 0 0, .slice lo 1 lc, .slice none 0 0] (0, 0) _ Y0.out Tryz.underlying38 rfl infoLink9 ?_) | (refine wpList_store_row rfl 38 (.tmp 4) (.tmp 18) rfl (w.heap.size + 1 + 1) #[.int .i64 me, .int .i64 peer, .bool false, .int .i64 timer, .int .i64 tries, .int .i64 left, .int .i64 0, .int .i64 0, .bool false, .bool false, .int .i64 size, .int .i64 0, .slice none 0 0, .int .i64 0, .int .i64 size, .int .i64 0, .slice none 0 0, .slice none 0 0, .slice lo 1 lc, .slice none 0 0] rfl rfl 38 #[.int .i64 0, .int .i64 0, .bool false, .int .i64 0, .int .i64 0, .int .i64 0, .int .i64 0, .int .i64 0, .bool false, .bool false, .int .i64 0, .int .i64 0, .slice none 0 0, .int .i64 0, .int .i64 0, .int .i64 0, .slice none 0 0, .slice none 0 0, .slice none 0 0, .slice none 0 0] Y2.out infoLink9 rfl (by simp [Value.oneCell']) ?_))
  have hrow := setRow_heap (w'.setCell ⟨w.heap.size, 18, none⟩ (.slice lo 1 lc)) (w.heap.size + 1 + 1) _ #[.int .i64 me, .int .i64 peer, .bool false, .int .i64 timer, .int .i64 tries, .int .i64 left, .int .i64 0, .int .i64 0, .bool false, .bool false, .int .i64 size, .int .i64 0, .slice none 0 0, .int .i64 0, .int .i64 size, .int .i64 0, .slice none 0 0, .slice none 0 0, .slice lo 1 lc, .slice none 0 0] _ _ Y2.out
  refine bodyPost_ret (results_cell_row rfl _ _ (w.heap.size + 1 + 1) 38 #[.int .i64 me, .int .i64 peer, .bool false, .int .i64 timer, .int .i64 tries, .int .i64 left, .int .i64 0, .int .i64 0, .bool false, .bool false, .int .i64 size, .int .i64 0, .slice none 0 0, .int .i64 0, .int .i64 size, .int .i64 0, .slice none 0 0, .slice none 0 0, .slice lo 1 lc, .slice none 0 0] (0, 0) _ rfl hrow Tryz.underlying38 rfl infoLink9) rfl ?_
  refine ⟨⟨_, _, rfl⟩, ?_⟩
  have h8 := bl_fr HB7.out (fr_cell w' w.heap.size 18 (.slice lo 1 lc)) (fun k hk => by omega)
  exact bl_fr h8 (fr_row _ (w.heap.size + 1 + 1) _) (fun k hk => by omega)

set_option maxRecDepth 100000 in
set_option maxHeartbeats 4000000 in
theorem r9setup_new (me timer tries size : Int) (w : World) :
    Calls Tryz.prog 25 #[.agg #[.int .i64 me, .int .i64 (-1), .bool false, .int .i64 timer, .int .i64 tries, .int .i64 0, .int .i64 0, .int .i64 0, .bool false, .bool false, .int .i64 size, .int .i64 0, .slice none 0 0, .int .i64 0, .int .i64 size, .int .i64 0, .slice none 0 0, .slice none 0 0, .slice none 0 0, .slice none 0 0], .bool false] w fun e w' => (∃ oo oc, e = .returned (.agg #[.int .i64 me, .int .i64 (-1), .bool false, .int .i64 timer, .int .i64 tries, .int .i64 timer, .int .i64 0, .int .i64 0, .bool false, .bool false, .int .i64 size, .int .i64 0, .slice none 0 0, .int .i64 0, .int .i64 size, .int .i64 0, .slice none 0 0, .slice none 0 0, .slice oo 1 oc, .slice none 0 0])) ∧ Below w.heap.size w w' := by
  obtain ⟨W2, hW2, hb2, x0, x2⟩ : ∃ W2, (w.alloc (.cells #[.int .i64 me, .int .i64 (-1), .bool false, .int .i64 timer, .int .i64 tries, .int .i64 0, .int .i64 0, .int .i64 0, .bool false, .bool false, .int .i64 size, .int .i64 0, .slice none 0 0, .int .i64 0, .int .i64 size, .int .i64 0, .slice none 0 0, .slice none 0 0, .slice none 0 0, .slice none 0 0] 38)).alloc (.cells #[.int .i64 0, .int .i64 0, .bool false, .int .i64 0, .int .i64 0, .int .i64 0, .int .i64 0, .int .i64 0, .bool false, .bool false, .int .i64 0, .int .i64 0, .slice none 0 0, .int .i64 0, .int .i64 0, .int .i64 0, .slice none 0 0, .slice none 0 0, .slice none 0 0, .slice none 0 0] 38) = W2 ∧ Below w.heap.size w W2 ∧ W2.heap[w.heap.size]? = some (.cells #[.int .i64 me, .int .i64 (-1), .bool false, .int .i64 timer, .int .i64 tries, .int .i64 0, .int .i64 0, .int .i64 0, .bool false, .bool false, .int .i64 size, .int .i64 0, .slice none 0 0, .int .i64 0, .int .i64 size, .int .i64 0, .slice none 0 0, .slice none 0 0, .slice none 0 0, .slice none 0 0] 38 (0, 0)) ∧ W2.heap[w.heap.size + 1]? = some (.cells #[.int .i64 0, .int .i64 0, .bool false, .int .i64 0, .int .i64 0, .int .i64 0, .int .i64 0, .int .i64 0, .bool false, .bool false, .int .i64 0, .int .i64 0, .slice none 0 0, .int .i64 0, .int .i64 0, .int .i64 0, .slice none 0 0, .slice none 0 0, .slice none 0 0, .slice none 0 0] 38 (0, 0)) := by
    have b1 := bl_alloc (bl_refl w) (.cells #[.int .i64 me, .int .i64 (-1), .bool false, .int .i64 timer, .int .i64 tries, .int .i64 0, .int .i64 0, .int .i64 0, .bool false, .bool false, .int .i64 size, .int .i64 0, .slice none 0 0, .int .i64 0, .int .i64 size, .int .i64 0, .slice none 0 0, .slice none 0 0, .slice none 0 0, .slice none 0 0] 38)
    have x1 := heap_alloc_new w (.cells #[.int .i64 me, .int .i64 (-1), .bool false, .int .i64 timer, .int .i64 tries, .int .i64 0, .int .i64 0, .int .i64 0, .bool false, .bool false, .int .i64 size, .int .i64 0, .slice none 0 0, .int .i64 0, .int .i64 size, .int .i64 0, .slice none 0 0, .slice none 0 0, .slice none 0 0, .slice none 0 0] 38)
    have s1 : (w.alloc (.cells #[.int .i64 me, .int .i64 (-1), .bool false, .int .i64 timer, .int .i64 tries, .int .i64 0, .int .i64 0, .int .i64 0, .bool false, .bool false, .int .i64 size, .int .i64 0, .slice none 0 0, .int .i64 0, .int .i64 size, .int .i64 0, .slice none 0 0, .slice none 0 0, .slice none 0 0, .slice none 0 0] 38)).heap.size = w.heap.size + 1 := by simp
    generalize w.alloc (.cells #[.int .i64 me, .int .i64 (-1), .bool false, .int .i64 timer, .int .i64 tries, .int .i64 0, .int .i64 0, .int .i64 0, .bool false, .bool false, .int .i64 size, .int .i64 0, .slice none 0 0, .int .i64 0, .int .i64 size, .int .i64 0, .slice none 0 0, .slice none 0 0, .slice none 0 0, .slice none 0 0] 38) = w1 at b1 x1 s1
    have b2 := bl_alloc (bl_refl w1) (.cells #[.int .i64 0, .int .i64 0, .bool false, .int .i64 0, .int .i64 0, .int .i64 0, .int .i64 0, .int .i64 0, .bool false, .bool false, .int .i64 0, .int .i64 0, .slice none 0 0, .int .i64 0, .int .i64 0, .int .i64 0, .slice none 0 0, .slice none 0 0, .slice none 0 0, .slice none 0 0] 38)
    have x2 := heap_alloc_new w1 (.cells #[.int .i64 0, .int .i64 0, .bool false, .int .i64 0, .int .i64 0, .int .i64 0, .int .i64 0, .int .i64 0, .bool false, .bool false, .int .i64 0, .int .i64 0, .slice none 0 0, .int .i64 0, .int .i64 0, .int .i64 0, .slice none 0 0, .slice none 0 0, .slice none 0 0, .slice none 0 0] 38)
    rw [s1] at x2
    exact ⟨_, rfl, bl_trans b1 b2, bl_get b2 x1, x2⟩
  have HS := r9send_new me (-1) timer tries 0 size W2
  have hsz := lt_of_get x2
  have X0 := Lib.hid x0
  have X2 := Lib.hid x2
  have HB2 := Lib.hid hb2
  clear x0 x2 hb2
  go_enter Tryz.func25, Tryz.ntmps25
  go_wp2_with (refine wpList_load_row rfl 38 (.tmp 2) rfl w.heap.size rfl 38 #[.int .i64 me, .int .i64 (-1), .bool false, .int .i64 timer, .int .i64 tries, .int .i64 0, .int .i64 0, .int .i64 0, .bool false, .bool false, .int .i64 size, .int .i64 0, .slice none 0 0, .int .i64 0, .int .i64 size, .int .i64 0, .slice none 0 0, .slice none 0 0, .slice none 0 0, .slice none 0 0] (0, 0) _ X0.out Tryz.underlying38 rfl infoLink9 ?_)
  refine HS.mono ?_
  rintro e w3 ⟨⟨oo, oc, rfl⟩, hb3⟩
  have Y0 := Lib.hid (setRow_heap w3 w.heap.size _ #[.int .i64 me, .int .i64 (-1), .bool false, .int .i64 timer, .int .i64 tries, .int .i64 0, .int .i64 0, .int .i64 0, .bool false, .bool false, .int .i64 size, .int .i64 0, .slice none 0 0, .int .i64 0, .int .i64 size, .int .i64 0, .slice none 0 0, .slice none 0 0, .slice oo 1 oc, .slice none 0 0] _ _ (bl_get hb3 X0.out))
  have Y2 := Lib.hid ((fr_row w3 w.heap.size #[.int .i64 me, .int .i64 (-1), .bool false, .int .i64 timer, .int .i64 tries, .int .i64 0, .int .i64 0, .int .i64 0, .bool false, .bool false, .int .i64 size, .int .i64 0, .slice none 0 0, .int .i64 0, .int .i64 size, .int .i64 0, .slice none 0 0, .slice none 0 0, .slice oo 1 oc, .slice none 0 0]).get (bl_get hb3 X2.out) (by omega))
  have HB3 : Hid (Below w.heap.size w w3) := bl_trans HB2.out hb3
  have HB4 : Hid (Below w.heap.size w (w3.setRow w.heap.size #[.int .i64 me, .int .i64 (-1), .bool false, .int .i64 timer, .int .i64 tries, .int .i64 0, .int .i64 0, .int .i64 0, .bool false, .bool false, .int .i64 size, .int .i64 0, .slice none 0 0, .int .i64 0, .int .i64 size, .int .i64 0, .slice none 0 0, .slice none 0 0, .slice oo 1 oc, .slice none 0 0])) := bl_fr HB3.out (fr_row w3 w.heap.size #[.int .i64 me, .int .i64 (-1), .bool false, .int .i64 timer, .int .i64 tries, .int .i64 0, .int .i64 0, .int .i64 0, .bool false, .bool false, .int .i64 size, .int .i64 0, .slice none 0 0, .int .i64 0, .int .i64 size, .int .i64 0, .slice none 0 0, .slice none 0 0, .slice oo 1 oc, .slice none 0 0]) (fun k hk => by omega)
  have Z0 := Lib.hid (bl_get hb3 X0.out)
  clear hb3 HS
  obtain ⟨w4, hw4⟩ : ∃ w4, w3.setRow w.heap.size #[.int .i64 me, .int .i64 (-1), .bool false, .int .i64 timer, .int .i64 tries, .int .i64 0, .int .i64 0, .int .i64 0, .bool false, .bool false, .int .i64 size, .int .i64 0, .slice none 0 0, .int .i64 0, .int .i64 size, .int .i64 0, .slice none 0 0, .slice none 0 0, .slice oo 1 oc, .slice none 0 0] = w4 := ⟨_, rfl⟩
  rw [hw4] at Y0 Y2 HB4
  have e3 : w4.cell? ⟨w.heap.size, 3, none⟩ = some (.int .i64 timer) := by rw [cell_of_row _ _ _ _ _ _ Y0.out]; rfl
  have e5 : w4.cell? ⟨w.heap.size, 5, none⟩ = some (.int .i64 0) := by rw [cell_of_row _ _ _ _ _ _ Y0.out]; rfl
  have z5 : w4.frozen? ⟨w.heap.size, 5, none⟩ = false := rc_frozen Y0.out
  have T0 := Lib.hid (set_obj w4 w.heap.size 5 _ _ (.int .i64 timer) Y0.out)
  have T2 := Lib.hid ((fr_cell w4 w.heap.size 5 (.int .i64 timer)).get Y2.out (by omega))
  have HB5 : Hid (Below w.heap.size w (w4.setCell ⟨w.heap.size, 5, none⟩ (.int .i64 timer))) := bl_fr HB4.out (fr_cell w4 w.heap.size 5 (.int .i64 timer)) (fun k hk => by omega)
  go_wp2_with (first | (refine wpList_store_row rfl 38 (.tmp 2) (.tmp 8) rfl w.heap.size #[.int .i64 me, .int .i64 (-1), .bool false, .int .i64 timer, .int .i64 tries, .int .i64 0, .int .i64 0, .int .i64 0, .bool false, .bool false, .int .i64 size, .int .i64 0, .slice none 0 0, .int .i64 0, .int .i64 size, .int .i64 0, .slice none 0 0, .slice none 0 0, .slice oo 1 oc, .slice none 0 0] rfl rfl 38 #[.int .i64 me, .int .i64 (-1), .bool false, .int .i64 timer, .int .i64 tries, .int .i64 0, .int .i64 0, .int .i64 0, .bool false, .bool false, .int .i64 size, .int .i64 0, .slice none 0 0, .int .i64 0, .int .i64 size, .int .i64 0, .slice none 0 0, .slice none 0 0, .slice none 0 0, .slice none 0 0] Z0.out infoLink9 rfl (by simp [Value.oneCell']) ?_; rw [hw4]) | (refine wpList_load_row rfl 38 (.tmp 2) rfl w.heap.size rfl 38 #[.int .i64 me, .int .i64 (-1), .bool false, .int .i64 timer, .int .i64 tries, .int .i64 timer, .int .i64 0, .int .i64 0, .bool false, .bool false, .int .i64 size, .int .i64 0, .slice none 0 0, .int .i64 0, .int .i64 size, .int .i64 0, .slice none 0 0, .slice none 0 0, .slice oo 1 oc, .slice none 0 0] (0, 0) _ T0.out Tryz.underlying38 rfl infoLink9 ?_) | (refine wpList_store_row rfl 38 (.tmp 4) (.tmp 12) rfl (w.heap.size + 1) #[.int .i64 me, .int .i64 (-1), .bool false, .int .i64 timer, .int .i64 tries, .int .i64 timer, .int .i64 0, .int .i64 0, .bool false, .bool false, .int .i64 size, .int .i64 0, .slice none 0 0, .int .i64 0, .int .i64 size, .int .i64 0, .slice none 0 0, .slice none 0 0, .slice oo 1 oc, .slice none 0 0] rfl rfl 38 #[.int .i64 0, .int .i64 0, .bool false, .int .i64 0, .int .i64 0, .int .i64 0, .int .i64 0, .int .i64 0, .bool false, .bool false, .int .i64 0, .int .i64 0, .slice none 0 0, .int .i64 0, .int .i64 0, .int .i64 0, .slice none 0 0, .slice none 0 0, .slice none 0 0, .slice none 0 0] T2.out infoLink9 rfl (by simp [Value.oneCell']) ?_))
  have hrow := setRow_heap (w4.setCell ⟨w.heap.size, 5, none⟩ (.int .i64 timer)) (w.heap.size + 1) _ #[.int .i64 me, .int .i64 (-1), .bool false, .int .i64 timer, .int .i64 tries, .int .i64 timer, .int .i64 0, .int .i64 0, .bool false, .bool false, .int .i64 size, .int .i64 0, .slice none 0 0, .int .i64 0, .int .i64 size, .int .i64 0, .slice none 0 0, .slice none 0 0, .slice oo 1 oc, .slice none 0 0] _ _ T2.out
  refine bodyPost_ret (results_cell_row rfl _ _ (w.heap.size + 1) 38 #[.int .i64 me, .int .i64 (-1), .bool false, .int .i64 timer, .int .i64 tries, .int .i64 timer, .int .i64 0, .int .i64 0, .bool false, .bool false, .int .i64 size, .int .i64 0, .slice none 0 0, .int .i64 0, .int .i64 size, .int .i64 0, .slice none 0 0, .slice none 0 0, .slice oo 1 oc, .slice none 0 0] (0, 0) _ rfl hrow Tryz.underlying38 rfl infoLink9) rfl ?_
  refine ⟨⟨_, _, rfl⟩, ?_⟩
  exact bl_fr HB5.out (fr_row _ (w.heap.size + 1) _) (fun k hk => by omega)

end Go.Proofs.YthmdibagcbbgoaaGreat
