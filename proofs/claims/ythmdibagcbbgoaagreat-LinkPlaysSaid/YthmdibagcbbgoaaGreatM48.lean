/- The contracts of portageref05.Same and control.Same. Written by program (gen_same.py). portageref09.Same at two equal lists. Conditions: as they stand. -/
import Derived.WalkKit
import Derived.Lib.Hide
import Derived.Test.YthmdibagcbbgoaaGreatM06
import Derived.Test.YthmdibagcbbgoaaGreatM47
import Derived.Test.YthmdibagcbbgoaaGreatM33
import Derived.Test.YthmdibagcbbgoaaGreatM30
import Derived.Test.YthmdibagcbbgoaaGreatM09
namespace Go.Proofs.YthmdibagcbbgoaaGreat
open Go.RowKit

/-- Are two the same? -/
def sameB (a b : Ctl) : Bool := a.k == b.k && (a.ns == b.ns && (a.nr == b.nr && (a.p == b.p && (a.me == b.me && (a.peer == b.peer && ((strOfNums a.data).toList == (strOfNums b.data).toList))))))

theorem rsame_0 (k1 ns1 nr1 me1 peer1 : Int) (p1 : Bool) (k2 ns2 nr2 me2 peer2 : Int) (p2 : Bool) (xs ys : List Int) (ao bo : Option Addr) (cap cbp : Nat) (h : (k1 == k2) = false) (w : World) :
    Calls Tryz.prog 36 #[.agg #[.int .i64 k1, .int .i64 ns1, .int .i64 nr1, .bool p1, .int .i64 me1, .int .i64 peer1, .slice ao xs.length cap], .agg #[.int .i64 k2, .int .i64 ns2, .int .i64 nr2, .bool p2, .int .i64 me2, .int .i64 peer2, .slice bo ys.length cbp]] w fun e w' => e = .returned (.bool false) ∧ Below w.heap.size w w' := by
  go_enter Tryz.func36, Tryz.ntmps36
  go_wp2
  go_ret
  exact ⟨rfl, bl_alloc (bl_alloc (bl_refl w) _) _⟩

theorem rsame_1 (k1 ns1 nr1 me1 peer1 : Int) (p1 : Bool) (ns2 nr2 me2 peer2 : Int) (p2 : Bool) (xs ys : List Int) (ao bo : Option Addr) (cap cbp : Nat) (h : (ns1 == ns2) = false) (w : World) :
    Calls Tryz.prog 36 #[.agg #[.int .i64 k1, .int .i64 ns1, .int .i64 nr1, .bool p1, .int .i64 me1, .int .i64 peer1, .slice ao xs.length cap], .agg #[.int .i64 k1, .int .i64 ns2, .int .i64 nr2, .bool p2, .int .i64 me2, .int .i64 peer2, .slice bo ys.length cbp]] w fun e w' => e = .returned (.bool false) ∧ Below w.heap.size w w' := by
  go_enter Tryz.func36, Tryz.ntmps36
  go_wp2
  go_ret
  exact ⟨rfl, bl_alloc (bl_alloc (bl_refl w) _) _⟩

theorem rsame_2 (k1 ns1 nr1 me1 peer1 : Int) (p1 : Bool) (nr2 me2 peer2 : Int) (p2 : Bool) (xs ys : List Int) (ao bo : Option Addr) (cap cbp : Nat) (h : (nr1 == nr2) = false) (w : World) :
    Calls Tryz.prog 36 #[.agg #[.int .i64 k1, .int .i64 ns1, .int .i64 nr1, .bool p1, .int .i64 me1, .int .i64 peer1, .slice ao xs.length cap], .agg #[.int .i64 k1, .int .i64 ns1, .int .i64 nr2, .bool p2, .int .i64 me2, .int .i64 peer2, .slice bo ys.length cbp]] w fun e w' => e = .returned (.bool false) ∧ Below w.heap.size w w' := by
  go_enter Tryz.func36, Tryz.ntmps36
  go_wp2
  go_ret
  exact ⟨rfl, bl_alloc (bl_alloc (bl_refl w) _) _⟩

theorem rsame_3 (k1 ns1 nr1 me1 peer1 : Int) (p1 : Bool) (me2 peer2 : Int) (p2 : Bool) (xs ys : List Int) (ao bo : Option Addr) (cap cbp : Nat) (h : (p1 == p2) = false) (w : World) :
    Calls Tryz.prog 36 #[.agg #[.int .i64 k1, .int .i64 ns1, .int .i64 nr1, .bool p1, .int .i64 me1, .int .i64 peer1, .slice ao xs.length cap], .agg #[.int .i64 k1, .int .i64 ns1, .int .i64 nr1, .bool p2, .int .i64 me2, .int .i64 peer2, .slice bo ys.length cbp]] w fun e w' => e = .returned (.bool false) ∧ Below w.heap.size w w' := by
  go_enter Tryz.func36, Tryz.ntmps36
  go_wp2
  go_ret
  exact ⟨rfl, bl_alloc (bl_alloc (bl_refl w) _) _⟩

theorem rsame_4 (k1 ns1 nr1 me1 peer1 : Int) (p1 : Bool) (me2 peer2 : Int) (xs ys : List Int) (ao bo : Option Addr) (cap cbp : Nat) (h : (me1 == me2) = false) (w : World) :
    Calls Tryz.prog 36 #[.agg #[.int .i64 k1, .int .i64 ns1, .int .i64 nr1, .bool p1, .int .i64 me1, .int .i64 peer1, .slice ao xs.length cap], .agg #[.int .i64 k1, .int .i64 ns1, .int .i64 nr1, .bool p1, .int .i64 me2, .int .i64 peer2, .slice bo ys.length cbp]] w fun e w' => e = .returned (.bool false) ∧ Below w.heap.size w w' := by
  go_enter Tryz.func36, Tryz.ntmps36
  go_wp2
  go_ret
  exact ⟨rfl, bl_alloc (bl_alloc (bl_refl w) _) _⟩

theorem rsame_5 (k1 ns1 nr1 me1 peer1 : Int) (p1 : Bool) (peer2 : Int) (xs ys : List Int) (ao bo : Option Addr) (cap cbp : Nat) (h : (peer1 == peer2) = false) (w : World) :
    Calls Tryz.prog 36 #[.agg #[.int .i64 k1, .int .i64 ns1, .int .i64 nr1, .bool p1, .int .i64 me1, .int .i64 peer1, .slice ao xs.length cap], .agg #[.int .i64 k1, .int .i64 ns1, .int .i64 nr1, .bool p1, .int .i64 me1, .int .i64 peer2, .slice bo ys.length cbp]] w fun e w' => e = .returned (.bool false) ∧ Below w.heap.size w w' := by
  go_enter Tryz.func36, Tryz.ntmps36
  go_wp2
  go_ret
  exact ⟨rfl, bl_alloc (bl_alloc (bl_refl w) _) _⟩

theorem rsame_6 (k1 ns1 nr1 me1 peer1 : Int) (p1 : Bool) (xs ys : List Int) (ao bo : Option Addr) (cap cbp : Nat) (w : World) (hx : Reads (Value.int .u8) w (.slice ao xs.length cap) xs) (hy : Reads (Value.int .u8) w (.slice bo ys.length cbp) ys) :
    Calls Tryz.prog 36 #[.agg #[.int .i64 k1, .int .i64 ns1, .int .i64 nr1, .bool p1, .int .i64 me1, .int .i64 peer1, .slice ao xs.length cap], .agg #[.int .i64 k1, .int .i64 ns1, .int .i64 nr1, .bool p1, .int .i64 me1, .int .i64 peer1, .slice bo ys.length cbp]] w fun e w' => e = .returned (.bool ((strOfNums xs).toList == (strOfNums ys).toList)) ∧ Below w.heap.size w w' := by
  have s1 := conv_reads (hx.below (bl_alloc (bl_alloc (bl_refl w) (.cells #[.int .i64 k1, .int .i64 ns1, .int .i64 nr1, .bool p1, .int .i64 me1, .int .i64 peer1, .slice ao xs.length cap] 46)) (.cells #[.int .i64 k1, .int .i64 ns1, .int .i64 nr1, .bool p1, .int .i64 me1, .int .i64 peer1, .slice bo ys.length cbp] 46)))
  have s2 := conv_reads (hy.below (bl_alloc (bl_alloc (bl_refl w) (.cells #[.int .i64 k1, .int .i64 ns1, .int .i64 nr1, .bool p1, .int .i64 me1, .int .i64 peer1, .slice ao xs.length cap] 46)) (.cells #[.int .i64 k1, .int .i64 ns1, .int .i64 nr1, .bool p1, .int .i64 me1, .int .i64 peer1, .slice bo ys.length cbp] 46)))
  go_enter Tryz.func36, Tryz.ntmps36
  go_wp2
  go_ret
  exact ⟨rfl, bl_alloc (bl_alloc (bl_refl w) _) _⟩

theorem rsame_any (a b : Ctl) (ao bo : Option Addr) (cap cbp : Nat) (w : World) (hx : Reads (Value.int .u8) w (.slice ao a.data.length cap) a.data) (hy : Reads (Value.int .u8) w (.slice bo b.data.length cbp) b.data) :
    Calls Tryz.prog 36 #[a.val ao cap, b.val bo cbp] w fun e w' => e = .returned (.bool (sameB a b)) ∧ Below w.heap.size w w' := by
  obtain ⟨k1, ns1, nr1, p1, me1, peer1, xs⟩ := a
  obtain ⟨k2, ns2, nr2, p2, me2, peer2, ys⟩ := b
  simp only [Ctl.val, sameB]
  cases h0 : (k1 == k2)
  · simp only [Bool.false_and]
    exact rsame_0 _ _ _ _ _ _ _ _ _ _ _ _ _ _ _ _ _ _ h0 w
  obtain rfl : k1 = k2 := eq_of_beq h0
  simp only [Bool.true_and]
  clear h0
  cases h1 : (ns1 == ns2)
  · simp only [Bool.false_and]
    exact rsame_1 _ _ _ _ _ _ _ _ _ _ _ _ _ _ _ _ _ h1 w
  obtain rfl : ns1 = ns2 := eq_of_beq h1
  simp only [Bool.true_and]
  clear h1
  cases h2 : (nr1 == nr2)
  · simp only [Bool.false_and]
    exact rsame_2 _ _ _ _ _ _ _ _ _ _ _ _ _ _ _ _ h2 w
  obtain rfl : nr1 = nr2 := eq_of_beq h2
  simp only [Bool.true_and]
  clear h2
  cases h3 : (p1 == p2)
  · simp only [Bool.false_and]
    exact rsame_3 _ _ _ _ _ _ _ _ _ _ _ _ _ _ _ h3 w
  obtain rfl : p1 = p2 := eq_of_beq h3
  simp only [Bool.true_and]
  clear h3
  cases h4 : (me1 == me2)
  · simp only [Bool.false_and]
    exact rsame_4 _ _ _ _ _ _ _ _ _ _ _ _ _ _ h4 w
  obtain rfl : me1 = me2 := eq_of_beq h4
  simp only [Bool.true_and]
  clear h4
  cases h5 : (peer1 == peer2)
  · simp only [Bool.false_and]
    exact rsame_5 _ _ _ _ _ _ _ _ _ _ _ _ _ h5 w
  obtain rfl : peer1 = peer2 := eq_of_beq h5
  simp only [Bool.true_and]
  clear h5
  exact rsame_6 _ _ _ _ _ _ _ _ _ _ _ _ w hx hy

end Go.Proofs.YthmdibagcbbgoaaGreat

namespace Go.Proofs.YthmdibagcbbgoaaGreat
open Go.RowKit

theorem same_refl (c : Ctl) : sameB c c = true := by simp [sameB]

set_option maxRecDepth 100000 in
set_option maxHeartbeats 4000000 in
theorem r9same_any (F G : Nat → Prop) (v u : Value) (l : List Cn) (w : World) (h1 : CtlsR F w v l) (h2 : Els kCtl G w u l) :
    Calls Tryz.prog 10 #[v, u] w fun e w' => e = .returned (.bool true) ∧ Below w.heap.size w w' := by
  have hm := h1.1
  simp only [maxLen] at hm
  obtain ⟨ao1, cap1, rfl, _⟩ := h1.form
  obtain ⟨ao2, cap2, rfl, _⟩ := h2.form
  have H1 := Lib.hid h1
  have H2 := Lib.hid h2
  clear h1 h2
  go_enter Tryz.func10, Tryz.ntmps10
  go_wp2
  go_loopw [5] (fun k wr => ∃ i : Nat, i ≤ l.length ∧ k = .int .i64 i ∧ Hid (Below w.heap.size w wr)) (fun k _ => l.length - (intOf k).toNat)
  case atStart => exact ⟨0, by omega, rfl, Below.refl _ _⟩
  case round =>
    obtain ⟨k, hk, rfl, HB⟩ := hrel
    by_cases hlt : k < l.length
    · obtain ⟨c, hc⟩ := get_some hlt
      obtain ⟨⟨hm1, ao', cap', hv', hl', hc'⟩⟩ : Nonempty (CtlsR F wr (.slice ao1 l.length cap1) l) := ⟨H1.out.fr (G := fun _ => False) (.of_below HB.out) fun _ _ g => g⟩
      cases hv'
      obtain ⟨b1, x1, rfl, _, hcell1, hx1⟩ := hc' k c hc
      obtain ⟨b2, o2, x2, rfl, _, hcell2, hx2⟩ := ((H2.out.below HB.out).at_) hc
      obtain ⟨s1, t1, rfl⟩ : ∃ s t, x1 = .slice s c.data.length t := by
        obtain ⟨⟨⟨_, ao, cap, h, _⟩, _⟩, _⟩ := hx1
        exact ⟨ao, cap, h⟩
      obtain ⟨s2, t2, rfl⟩ : ∃ s t, x2 = .slice s c.data.length t := by
        obtain ⟨⟨⟨_, ao, cap, h, _⟩, _⟩, _⟩ := hx2
        exact ⟨ao, cap, h⟩
      have HS : Hid (∀ w' : World, Below wr.heap.size wr w' → (fun w' => (w'.cell? ⟨b1, k * 7, none⟩ = some (.int .i64 c.kind) ∧ w'.cell? ⟨b1, k * 7 + 1, none⟩ = some (.int .i64 c.ns) ∧ w'.cell? ⟨b1, k * 7 + 2, none⟩ = some (.int .i64 c.nr) ∧ w'.cell? ⟨b1, k * 7 + 3, none⟩ = some (.bool c.p) ∧ w'.cell? ⟨b1, k * 7 + 4, none⟩ = some (.int .i64 c.me) ∧ w'.cell? ⟨b1, k * 7 + 5, none⟩ = some (.int .i64 c.peer) ∧ w'.cell? ⟨b1, k * 7 + 6, none⟩ = some (.slice s1 c.data.length t1)) ∧
          (w'.cell? ⟨b2, o2 + k * 7, none⟩ = some (.int .i64 c.kind) ∧ w'.cell? ⟨b2, o2 + k * 7 + 1, none⟩ = some (.int .i64 c.ns) ∧ w'.cell? ⟨b2, o2 + k * 7 + 2, none⟩ = some (.int .i64 c.nr) ∧ w'.cell? ⟨b2, o2 + k * 7 + 3, none⟩ = some (.bool c.p) ∧ w'.cell? ⟨b2, o2 + k * 7 + 4, none⟩ = some (.int .i64 c.me) ∧ w'.cell? ⟨b2, o2 + k * 7 + 5, none⟩ = some (.int .i64 c.peer) ∧ w'.cell? ⟨b2, o2 + k * 7 + 6, none⟩ = some (.slice s2 c.data.length t2))) w') := fun w' hb =>
        ⟨⟨below_cell hb (hcell1 0 _ rfl), below_cell hb (hcell1 1 _ rfl), below_cell hb (hcell1 2 _ rfl), below_cell hb (hcell1 3 _ rfl), below_cell hb (hcell1 4 _ rfl), below_cell hb (hcell1 5 _ rfl), below_cell hb (hcell1 6 _ rfl)⟩,
         ⟨below_cell hb (hcell2 0 _ rfl), below_cell hb (hcell2 1 _ rfl), below_cell hb (hcell2 2 _ rfl), below_cell hb (hcell2 3 _ rfl), below_cell hb (hcell2 4 _ rfl), below_cell hb (hcell2 5 _ rfl), below_cell hb (hcell2 6 _ rfl)⟩⟩
      have HSM : Hid (∀ W, Below wr.heap.size wr W → Calls Tryz.prog 36 #[.agg #[.int .i64 c.kind, .int .i64 c.ns, .int .i64 c.nr, .bool c.p, .int .i64 c.me, .int .i64 c.peer, .slice s1 c.data.length t1], .agg #[.int .i64 c.kind, .int .i64 c.ns, .int .i64 c.nr, .bool c.p, .int .i64 c.me, .int .i64 c.peer, .slice s2 c.data.length t2]] W fun e w' => e = .returned (.bool true) ∧ Below W.heap.size W w') := fun W hb => by
        have := rsame_any ⟨c.kind, c.ns, c.nr, c.p, c.me, c.peer, c.data⟩ ⟨c.kind, c.ns, c.nr, c.p, c.me, c.peer, c.data⟩ s1 s2 t1 t2 W (hx1.below hb).1.1 (hx2.below hb).1.1
        rw [same_refl] at this
        exact this
      have i0 : (0 : Int) ≤ (k : Int) := by omega
      have i1 : (k : Int) < (l.length : Int) := by omega
      clear hc hc' hcell1 hcell2 hx1 hx2 hl' hm1
      go_wp2_with fail
      refine wp_region_order (fun w' => (w'.cell? ⟨b1, k * 7, none⟩ = some (.int .i64 c.kind) ∧ w'.cell? ⟨b1, k * 7 + 1, none⟩ = some (.int .i64 c.ns) ∧ w'.cell? ⟨b1, k * 7 + 2, none⟩ = some (.int .i64 c.nr) ∧ w'.cell? ⟨b1, k * 7 + 3, none⟩ = some (.bool c.p) ∧ w'.cell? ⟨b1, k * 7 + 4, none⟩ = some (.int .i64 c.me) ∧ w'.cell? ⟨b1, k * 7 + 5, none⟩ = some (.int .i64 c.peer) ∧ w'.cell? ⟨b1, k * 7 + 6, none⟩ = some (.slice s1 c.data.length t1)) ∧
          (w'.cell? ⟨b2, o2 + k * 7, none⟩ = some (.int .i64 c.kind) ∧ w'.cell? ⟨b2, o2 + k * 7 + 1, none⟩ = some (.int .i64 c.ns) ∧ w'.cell? ⟨b2, o2 + k * 7 + 2, none⟩ = some (.int .i64 c.nr) ∧ w'.cell? ⟨b2, o2 + k * 7 + 3, none⟩ = some (.bool c.p) ∧ w'.cell? ⟨b2, o2 + k * 7 + 4, none⟩ = some (.int .i64 c.me) ∧ w'.cell? ⟨b2, o2 + k * 7 + 5, none⟩ = some (.int .i64 c.peer) ∧ w'.cell? ⟨b2, o2 + k * 7 + 6, none⟩ = some (.slice s2 c.data.length t2)))
        [(0, 0), (1, 0), (2, 0), (3, 1), (4, 0), (5, 0), (6, 0), (7, 1), (8, 2)] [(9, true)] [9] []
        (by kernel_rfl) (fun _ _ d _ _ h => by cases d <;> exact h) (by decide +kernel) (HS.out _ (bl_drew (bl_refl wr))) ?_
      refine wpHead_free (v := ?_) rfl (by rfl) ?_ ?_
      rotate_left
      focus (intro w1; go_simp; try with_reducible rfl)
      simp only [Act.put, List.setIfInBounds_toArray]
      iterate 2
        refine wpHead_free (v := ?_) rfl (by rfl) ?_ ?_
        rotate_left
        focus (intro w1; go_simp; try with_reducible rfl)
        simp only [Act.put]
      refine wpHead_take (v := ?_) rfl (by rfl) ?_ ?_
      rotate_left
      focus (rintro w1 ⟨⟨q0, q1, q2, q3, q4, q5, q6⟩, p0, p1, p2, p3, p4, p5, p6⟩; go_simp; try with_reducible rfl)
      simp only [Act.put]
      iterate 3
        refine wpHead_free (v := ?_) rfl (by rfl) ?_ ?_
        rotate_left
        focus (intro w1; go_simp; try with_reducible rfl)
        simp only [Act.put]
      refine wpHead_take (v := ?_) rfl (by rfl) ?_ ?_
      rotate_left
      focus (rintro w1 ⟨⟨q0, q1, q2, q3, q4, q5, q6⟩, p0, p1, p2, p3, p4, p5, p6⟩; go_simp; try with_reducible rfl)
      simp only [Act.put]
      refine wpHead_step rfl (by rfl) (fun K hK => ?_)
      go_simp; go_at_call 36
      refine (HSM.out _ (bl_drew (bl_refl wr))).mono ?_; rintro e w9 ⟨rfl, hb9⟩; simp only []
      have hb9' := bl_trans (bl_drew (bl_refl wr)) hb9
      refine hK.out _ _ (HS.out _ hb9') ?_
      clear hK K
      try simp only [Act.put, List.setIfInBounds_toArray]
      refine wpHead_nil ?_
      refine wpTail_free (v := ?_) rfl (by rfl) ?_ ?_
      rotate_left
      focus (intro w1; go_simp; try with_reducible rfl)
      simp only [Act.put, List.getElem_toArray, List.getElem_cons_zero, List.getElem_cons_succ, List.setIfInBounds_toArray]
      refine wpTail_nil ?_
      have HB9 : Hid (Below w.heap.size w w9) := bl_trans HB.out hb9'
      clear hb9 hb9'
      go_wp2
      go_roundw
      case rel => exact ⟨k + 1, by omega, by go_num, HB9⟩
      case measure => simp [intOf]; omega
    · obtain rfl : k = l.length := by omega
      go_wp2
      go_ret
      exact ⟨rfl, HB.out⟩

end Go.Proofs.YthmdibagcbbgoaaGreat
