/- The contracts of portageref05.Same and control.Same. Written by program (gen_same.py). Conditions: none. -/
import Derived.WalkKit
import Derived.Lib.Hide
import Derived.Test.YtcglpdbnggekdaaStr
import Derived.Test.YtcglpdbnggekdaaCtlBase
namespace Go.Proofs.Ytcglpdbnggekdaa
open Go.RowKit

/-- Are two the same? -/
def sameB (a b : Ctl) : Bool := a.k == b.k && (a.ns == b.ns && (a.nr == b.nr && (a.p == b.p && (a.me == b.me && (a.peer == b.peer && ((strOfNums a.data).toList == (strOfNums b.data).toList))))))

theorem rsame_0 (k1 ns1 nr1 me1 peer1 : Int) (p1 : Bool) (k2 ns2 nr2 me2 peer2 : Int) (p2 : Bool) (xs ys : List Int) (ao bo : Option Addr) (cap cbp : Nat) (h : (k1 == k2) = false) (w : World) :
    Calls Try.prog 16 #[.agg #[.int .i64 k1, .int .i64 ns1, .int .i64 nr1, .bool p1, .int .i64 me1, .int .i64 peer1, .slice ao xs.length cap], .agg #[.int .i64 k2, .int .i64 ns2, .int .i64 nr2, .bool p2, .int .i64 me2, .int .i64 peer2, .slice bo ys.length cbp]] w fun e w' => e = .returned (.bool false) ∧ Below w.heap.size w w' := by
  go_enter Try.func16, Try.ntmps16
  go_wp2
  go_ret
  exact ⟨rfl, bl_alloc (bl_alloc (bl_refl w) _) _⟩

theorem rsame_1 (k1 ns1 nr1 me1 peer1 : Int) (p1 : Bool) (ns2 nr2 me2 peer2 : Int) (p2 : Bool) (xs ys : List Int) (ao bo : Option Addr) (cap cbp : Nat) (h : (ns1 == ns2) = false) (w : World) :
    Calls Try.prog 16 #[.agg #[.int .i64 k1, .int .i64 ns1, .int .i64 nr1, .bool p1, .int .i64 me1, .int .i64 peer1, .slice ao xs.length cap], .agg #[.int .i64 k1, .int .i64 ns2, .int .i64 nr2, .bool p2, .int .i64 me2, .int .i64 peer2, .slice bo ys.length cbp]] w fun e w' => e = .returned (.bool false) ∧ Below w.heap.size w w' := by
  go_enter Try.func16, Try.ntmps16
  go_wp2
  go_ret
  exact ⟨rfl, bl_alloc (bl_alloc (bl_refl w) _) _⟩

theorem rsame_2 (k1 ns1 nr1 me1 peer1 : Int) (p1 : Bool) (nr2 me2 peer2 : Int) (p2 : Bool) (xs ys : List Int) (ao bo : Option Addr) (cap cbp : Nat) (h : (nr1 == nr2) = false) (w : World) :
    Calls Try.prog 16 #[.agg #[.int .i64 k1, .int .i64 ns1, .int .i64 nr1, .bool p1, .int .i64 me1, .int .i64 peer1, .slice ao xs.length cap], .agg #[.int .i64 k1, .int .i64 ns1, .int .i64 nr2, .bool p2, .int .i64 me2, .int .i64 peer2, .slice bo ys.length cbp]] w fun e w' => e = .returned (.bool false) ∧ Below w.heap.size w w' := by
  go_enter Try.func16, Try.ntmps16
  go_wp2
  go_ret
  exact ⟨rfl, bl_alloc (bl_alloc (bl_refl w) _) _⟩

theorem rsame_3 (k1 ns1 nr1 me1 peer1 : Int) (p1 : Bool) (me2 peer2 : Int) (p2 : Bool) (xs ys : List Int) (ao bo : Option Addr) (cap cbp : Nat) (h : (p1 == p2) = false) (w : World) :
    Calls Try.prog 16 #[.agg #[.int .i64 k1, .int .i64 ns1, .int .i64 nr1, .bool p1, .int .i64 me1, .int .i64 peer1, .slice ao xs.length cap], .agg #[.int .i64 k1, .int .i64 ns1, .int .i64 nr1, .bool p2, .int .i64 me2, .int .i64 peer2, .slice bo ys.length cbp]] w fun e w' => e = .returned (.bool false) ∧ Below w.heap.size w w' := by
  go_enter Try.func16, Try.ntmps16
  go_wp2
  go_ret
  exact ⟨rfl, bl_alloc (bl_alloc (bl_refl w) _) _⟩

theorem rsame_4 (k1 ns1 nr1 me1 peer1 : Int) (p1 : Bool) (me2 peer2 : Int) (xs ys : List Int) (ao bo : Option Addr) (cap cbp : Nat) (h : (me1 == me2) = false) (w : World) :
    Calls Try.prog 16 #[.agg #[.int .i64 k1, .int .i64 ns1, .int .i64 nr1, .bool p1, .int .i64 me1, .int .i64 peer1, .slice ao xs.length cap], .agg #[.int .i64 k1, .int .i64 ns1, .int .i64 nr1, .bool p1, .int .i64 me2, .int .i64 peer2, .slice bo ys.length cbp]] w fun e w' => e = .returned (.bool false) ∧ Below w.heap.size w w' := by
  go_enter Try.func16, Try.ntmps16
  go_wp2
  go_ret
  exact ⟨rfl, bl_alloc (bl_alloc (bl_refl w) _) _⟩

theorem rsame_5 (k1 ns1 nr1 me1 peer1 : Int) (p1 : Bool) (peer2 : Int) (xs ys : List Int) (ao bo : Option Addr) (cap cbp : Nat) (h : (peer1 == peer2) = false) (w : World) :
    Calls Try.prog 16 #[.agg #[.int .i64 k1, .int .i64 ns1, .int .i64 nr1, .bool p1, .int .i64 me1, .int .i64 peer1, .slice ao xs.length cap], .agg #[.int .i64 k1, .int .i64 ns1, .int .i64 nr1, .bool p1, .int .i64 me1, .int .i64 peer2, .slice bo ys.length cbp]] w fun e w' => e = .returned (.bool false) ∧ Below w.heap.size w w' := by
  go_enter Try.func16, Try.ntmps16
  go_wp2
  go_ret
  exact ⟨rfl, bl_alloc (bl_alloc (bl_refl w) _) _⟩

theorem rsame_6 (k1 ns1 nr1 me1 peer1 : Int) (p1 : Bool) (xs ys : List Int) (ao bo : Option Addr) (cap cbp : Nat) (w : World) (hx : Reads (Value.int .u8) w (.slice ao xs.length cap) xs) (hy : Reads (Value.int .u8) w (.slice bo ys.length cbp) ys) :
    Calls Try.prog 16 #[.agg #[.int .i64 k1, .int .i64 ns1, .int .i64 nr1, .bool p1, .int .i64 me1, .int .i64 peer1, .slice ao xs.length cap], .agg #[.int .i64 k1, .int .i64 ns1, .int .i64 nr1, .bool p1, .int .i64 me1, .int .i64 peer1, .slice bo ys.length cbp]] w fun e w' => e = .returned (.bool ((strOfNums xs).toList == (strOfNums ys).toList)) ∧ Below w.heap.size w w' := by
  have s1 := conv_reads (hx.below (bl_alloc (bl_alloc (bl_refl w) (.cells #[.int .i64 k1, .int .i64 ns1, .int .i64 nr1, .bool p1, .int .i64 me1, .int .i64 peer1, .slice ao xs.length cap] 24)) (.cells #[.int .i64 k1, .int .i64 ns1, .int .i64 nr1, .bool p1, .int .i64 me1, .int .i64 peer1, .slice bo ys.length cbp] 24)))
  have s2 := conv_reads (hy.below (bl_alloc (bl_alloc (bl_refl w) (.cells #[.int .i64 k1, .int .i64 ns1, .int .i64 nr1, .bool p1, .int .i64 me1, .int .i64 peer1, .slice ao xs.length cap] 24)) (.cells #[.int .i64 k1, .int .i64 ns1, .int .i64 nr1, .bool p1, .int .i64 me1, .int .i64 peer1, .slice bo ys.length cbp] 24)))
  go_enter Try.func16, Try.ntmps16
  go_wp2
  go_ret
  exact ⟨rfl, bl_alloc (bl_alloc (bl_refl w) _) _⟩

theorem rsame_any (a b : Ctl) (ao bo : Option Addr) (cap cbp : Nat) (w : World) (hx : Reads (Value.int .u8) w (.slice ao a.data.length cap) a.data) (hy : Reads (Value.int .u8) w (.slice bo b.data.length cbp) b.data) :
    Calls Try.prog 16 #[a.val ao cap, b.val bo cbp] w fun e w' => e = .returned (.bool (sameB a b)) ∧ Below w.heap.size w w' := by
  obtain ⟨k1, ns1, nr1, p1, me1, peer1, xs⟩ := a
  obtain ⟨k2, ns2, nr2, p2, me2, peer2, ys⟩ := b
  simp only [Ctl.val, sameB]
  cases h0 : (k1 == k2)
  · simp only [Bool.false_and]
    exact rsame_0 _ _ _ _ _ _ _ _ _ _ _ _ _ _ _ _ _ _ h0 w
  obtain rfl : k1 = k2 := eq_of_beq h0
  simp only [Bool.true_and]
  clear h0
  cases h1 : (ns1 == ns2)
  · simp only [Bool.false_and]
    exact rsame_1 _ _ _ _ _ _ _ _ _ _ _ _ _ _ _ _ _ h1 w
  obtain rfl : ns1 = ns2 := eq_of_beq h1
  simp only [Bool.true_and]
  clear h1
  cases h2 : (nr1 == nr2)
  · simp only [Bool.false_and]
    exact rsame_2 _ _ _ _ _ _ _ _ _ _ _ _ _ _ _ _ h2 w
  obtain rfl : nr1 = nr2 := eq_of_beq h2
  simp only [Bool.true_and]
  clear h2
  cases h3 : (p1 == p2)
  · simp only [Bool.false_and]
    exact rsame_3 _ _ _ _ _ _ _ _ _ _ _ _ _ _ _ h3 w
  obtain rfl : p1 = p2 := eq_of_beq h3
  simp only [Bool.true_and]
  clear h3
  cases h4 : (me1 == me2)
  · simp only [Bool.false_and]
    exact rsame_4 _ _ _ _ _ _ _ _ _ _ _ _ _ _ h4 w
  obtain rfl : me1 = me2 := eq_of_beq h4
  simp only [Bool.true_and]
  clear h4
  cases h5 : (peer1 == peer2)
  · simp only [Bool.false_and]
    exact rsame_5 _ _ _ _ _ _ _ _ _ _ _ _ _ h5 w
  obtain rfl : peer1 = peer2 := eq_of_beq h5
  simp only [Bool.true_and]
  clear h5
  exact rsame_6 _ _ _ _ _ _ _ _ _ _ _ _ w hx hy

theorem psame_0 (k1 ns1 nr1 me1 peer1 : Int) (p1 : Bool) (k2 ns2 nr2 me2 peer2 : Int) (p2 : Bool) (xs ys : List Int) (ao bo : Option Addr) (cap cbp : Nat) (h : (k1 == k2) = false) (w : World) :
    Calls Try.prog 17 #[.agg #[.int .i64 k1, .int .i64 ns1, .int .i64 nr1, .bool p1, .int .i64 me1, .int .i64 peer1, .slice ao xs.length cap], .agg #[.int .i64 k2, .int .i64 ns2, .int .i64 nr2, .bool p2, .int .i64 me2, .int .i64 peer2, .slice bo ys.length cbp]] w fun e w' => e = .returned (.bool false) ∧ Below w.heap.size w w' := by
  go_enter Try.func17, Try.ntmps17
  go_wp2
  go_ret
  exact ⟨rfl, bl_alloc (bl_alloc (bl_refl w) _) _⟩

theorem psame_1 (k1 ns1 nr1 me1 peer1 : Int) (p1 : Bool) (ns2 nr2 me2 peer2 : Int) (p2 : Bool) (xs ys : List Int) (ao bo : Option Addr) (cap cbp : Nat) (h : (ns1 == ns2) = false) (w : World) :
    Calls Try.prog 17 #[.agg #[.int .i64 k1, .int .i64 ns1, .int .i64 nr1, .bool p1, .int .i64 me1, .int .i64 peer1, .slice ao xs.length cap], .agg #[.int .i64 k1, .int .i64 ns2, .int .i64 nr2, .bool p2, .int .i64 me2, .int .i64 peer2, .slice bo ys.length cbp]] w fun e w' => e = .returned (.bool false) ∧ Below w.heap.size w w' := by
  go_enter Try.func17, Try.ntmps17
  go_wp2
  go_ret
  exact ⟨rfl, bl_alloc (bl_alloc (bl_refl w) _) _⟩

theorem psame_2 (k1 ns1 nr1 me1 peer1 : Int) (p1 : Bool) (nr2 me2 peer2 : Int) (p2 : Bool) (xs ys : List Int) (ao bo : Option Addr) (cap cbp : Nat) (h : (nr1 == nr2) = false) (w : World) :
    Calls Try.prog 17 #[.agg #[.int .i64 k1, .int .i64 ns1, .int .i64 nr1, .bool p1, .int .i64 me1, .int .i64 peer1, .slice ao xs.length cap], .agg #[.int .i64 k1, .int .i64 ns1, .int .i64 nr2, .bool p2, .int .i64 me2, .int .i64 peer2, .slice bo ys.length cbp]] w fun e w' => e = .returned (.bool false) ∧ Below w.heap.size w w' := by
  go_enter Try.func17, Try.ntmps17
  go_wp2
  go_ret
  exact ⟨rfl, bl_alloc (bl_alloc (bl_refl w) _) _⟩

theorem psame_3 (k1 ns1 nr1 me1 peer1 : Int) (p1 : Bool) (me2 peer2 : Int) (p2 : Bool) (xs ys : List Int) (ao bo : Option Addr) (cap cbp : Nat) (h : (p1 == p2) = false) (w : World) :
    Calls Try.prog 17 #[.agg #[.int .i64 k1, .int .i64 ns1, .int .i64 nr1, .bool p1, .int .i64 me1, .int .i64 peer1, .slice ao xs.length cap], .agg #[.int .i64 k1, .int .i64 ns1, .int .i64 nr1, .bool p2, .int .i64 me2, .int .i64 peer2, .slice bo ys.length cbp]] w fun e w' => e = .returned (.bool false) ∧ Below w.heap.size w w' := by
  go_enter Try.func17, Try.ntmps17
  go_wp2
  go_ret
  exact ⟨rfl, bl_alloc (bl_alloc (bl_refl w) _) _⟩

theorem psame_4 (k1 ns1 nr1 me1 peer1 : Int) (p1 : Bool) (me2 peer2 : Int) (xs ys : List Int) (ao bo : Option Addr) (cap cbp : Nat) (h : (me1 == me2) = false) (w : World) :
    Calls Try.prog 17 #[.agg #[.int .i64 k1, .int .i64 ns1, .int .i64 nr1, .bool p1, .int .i64 me1, .int .i64 peer1, .slice ao xs.length cap], .agg #[.int .i64 k1, .int .i64 ns1, .int .i64 nr1, .bool p1, .int .i64 me2, .int .i64 peer2, .slice bo ys.length cbp]] w fun e w' => e = .returned (.bool false) ∧ Below w.heap.size w w' := by
  go_enter Try.func17, Try.ntmps17
  go_wp2
  go_ret
  exact ⟨rfl, bl_alloc (bl_alloc (bl_refl w) _) _⟩

theorem psame_5 (k1 ns1 nr1 me1 peer1 : Int) (p1 : Bool) (peer2 : Int) (xs ys : List Int) (ao bo : Option Addr) (cap cbp : Nat) (h : (peer1 == peer2) = false) (w : World) :
    Calls Try.prog 17 #[.agg #[.int .i64 k1, .int .i64 ns1, .int .i64 nr1, .bool p1, .int .i64 me1, .int .i64 peer1, .slice ao xs.length cap], .agg #[.int .i64 k1, .int .i64 ns1, .int .i64 nr1, .bool p1, .int .i64 me1, .int .i64 peer2, .slice bo ys.length cbp]] w fun e w' => e = .returned (.bool false) ∧ Below w.heap.size w w' := by
  go_enter Try.func17, Try.ntmps17
  go_wp2
  go_ret
  exact ⟨rfl, bl_alloc (bl_alloc (bl_refl w) _) _⟩

theorem psame_6 (k1 ns1 nr1 me1 peer1 : Int) (p1 : Bool) (xs ys : List Int) (ao bo : Option Addr) (cap cbp : Nat) (w : World) (hx : Reads (Value.int .u8) w (.slice ao xs.length cap) xs) (hy : Reads (Value.int .u8) w (.slice bo ys.length cbp) ys) :
    Calls Try.prog 17 #[.agg #[.int .i64 k1, .int .i64 ns1, .int .i64 nr1, .bool p1, .int .i64 me1, .int .i64 peer1, .slice ao xs.length cap], .agg #[.int .i64 k1, .int .i64 ns1, .int .i64 nr1, .bool p1, .int .i64 me1, .int .i64 peer1, .slice bo ys.length cbp]] w fun e w' => e = .returned (.bool ((strOfNums xs).toList == (strOfNums ys).toList)) ∧ Below w.heap.size w w' := by
  have s1 := conv_reads (hx.below (bl_alloc (bl_alloc (bl_refl w) (.cells #[.int .i64 k1, .int .i64 ns1, .int .i64 nr1, .bool p1, .int .i64 me1, .int .i64 peer1, .slice ao xs.length cap] 24)) (.cells #[.int .i64 k1, .int .i64 ns1, .int .i64 nr1, .bool p1, .int .i64 me1, .int .i64 peer1, .slice bo ys.length cbp] 24)))
  have s2 := conv_reads (hy.below (bl_alloc (bl_alloc (bl_refl w) (.cells #[.int .i64 k1, .int .i64 ns1, .int .i64 nr1, .bool p1, .int .i64 me1, .int .i64 peer1, .slice ao xs.length cap] 24)) (.cells #[.int .i64 k1, .int .i64 ns1, .int .i64 nr1, .bool p1, .int .i64 me1, .int .i64 peer1, .slice bo ys.length cbp] 24)))
  go_enter Try.func17, Try.ntmps17
  go_wp2
  go_ret
  exact ⟨rfl, bl_alloc (bl_alloc (bl_refl w) _) _⟩

theorem psame_any (a b : Ctl) (ao bo : Option Addr) (cap cbp : Nat) (w : World) (hx : Reads (Value.int .u8) w (.slice ao a.data.length cap) a.data) (hy : Reads (Value.int .u8) w (.slice bo b.data.length cbp) b.data) :
    Calls Try.prog 17 #[a.val ao cap, b.val bo cbp] w fun e w' => e = .returned (.bool (sameB a b)) ∧ Below w.heap.size w w' := by
  obtain ⟨k1, ns1, nr1, p1, me1, peer1, xs⟩ := a
  obtain ⟨k2, ns2, nr2, p2, me2, peer2, ys⟩ := b
  simp only [Ctl.val, sameB]
  cases h0 : (k1 == k2)
  · simp only [Bool.false_and]
    exact psame_0 _ _ _ _ _ _ _ _ _ _ _ _ _ _ _ _ _ _ h0 w
  obtain rfl : k1 = k2 := eq_of_beq h0
  simp only [Bool.true_and]
  clear h0
  cases h1 : (ns1 == ns2)
  · simp only [Bool.false_and]
    exact psame_1 _ _ _ _ _ _ _ _ _ _ _ _ _ _ _ _ _ h1 w
  obtain rfl : ns1 = ns2 := eq_of_beq h1
  simp only [Bool.true_and]
  clear h1
  cases h2 : (nr1 == nr2)
  · simp only [Bool.false_and]
    exact psame_2 _ _ _ _ _ _ _ _ _ _ _ _ _ _ _ _ h2 w
  obtain rfl : nr1 = nr2 := eq_of_beq h2
  simp only [Bool.true_and]
  clear h2
  cases h3 : (p1 == p2)
  · simp only [Bool.false_and]
    exact psame_3 _ _ _ _ _ _ _ _ _ _ _ _ _ _ _ h3 w
  obtain rfl : p1 = p2 := eq_of_beq h3
  simp only [Bool.true_and]
  clear h3
  cases h4 : (me1 == me2)
  · simp only [Bool.false_and]
    exact psame_4 _ _ _ _ _ _ _ _ _ _ _ _ _ _ h4 w
  obtain rfl : me1 = me2 := eq_of_beq h4
  simp only [Bool.true_and]
  clear h4
  cases h5 : (peer1 == peer2)
  · simp only [Bool.false_and]
    exact psame_5 _ _ _ _ _ _ _ _ _ _ _ _ _ h5 w
  obtain rfl : peer1 = peer2 := eq_of_beq h5
  simp only [Bool.true_and]
  clear h5
  exact psame_6 _ _ _ _ _ _ _ _ _ _ _ _ w hx hy

end Go.Proofs.Ytcglpdbnggekdaa
