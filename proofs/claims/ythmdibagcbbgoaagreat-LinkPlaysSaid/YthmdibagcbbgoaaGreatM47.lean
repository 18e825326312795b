/- The contracts of bits.Get and of its reference: the number of any bytes at any place. Plain laws on numbers' bits and bytes: mirrored twice; what was put is got. No program in sight. A region that draws its order and whose operations read, or call what only makes new memory and answers one value whatever that memory: one walk in the order of the text. No program in sight. What a control is in Lean, its bytes; small laws for the walks. Conditions: as they stand. -/
import Derived.WalkKit
import Derived.Lib.Hide
import Derived.OpenShut
import Derived.Test.YthmdibagcbbgoaaGreatM46
import Derived.Test.YthmdibagcbbgoaaGreatM00
import Derived.Test.YthmdibagcbbgoaaGreatProg
import Derived.WalkArith
import Derived.BigQuiet
import Derived.Deep.QuietTactic
import Derived.Maps.AppendAt
import Derived.Test.YthmdibagcbbgoaaGreatM25
namespace Go.Proofs.YthmdibagcbbgoaaGreat
open Go.RowKit

/-- The number of k bytes from a place on. -/
def getTo (bs : List Int) (at_ : Nat) : Nat → Nat
  | 0 => 0
  | k + 1 => 256 * getTo bs at_ k + (bs.getD (at_ + k) 0).toNat
theorem getTo_zero (bs : List Int) (a : Nat) : getTo bs a 0 = 0 := rfl
theorem getTo_succ (bs : List Int) (a k : Nat) : getTo bs a (k + 1) = 256 * getTo bs a k + (bs.getD (a + k) 0).toNat := rfl
theorem getTo_lt (bs : List Int) (a k : Nat) (hw : ∀ n ∈ bs, (Lit.int .u8 n).wf = true) : getTo bs a k < 256 ^ k := by
  induction k with
  | zero => simp [getTo]
  | succ k ih =>
    have hb : (bs.getD (a + k) 0).toNat < 256 := by
      rw [List.getD_eq_getElem?_getD]
      cases h : bs[a + k]? with
      | none => simp
      | some x =>
        have := hw x (List.mem_of_getElem? h)
        have := bounds_u8 this
        simp; omega
    rw [getTo, Nat.pow_succ]; omega
attribute [irreducible] getTo


theorem get_step {bs : List Int} {a i : Nat} {x : Int} (hx : Hid (bs[a + i]? = some x)) (hw : Hid (∀ n ∈ bs, (Lit.int .u8 n).wf = true)) (hi : i < 8) :
    IntKind.u64.wrap (IntKind.u64.wrap (256 * ((getTo bs a i : Nat) : Int)) + IntKind.u64.wrap x) = ((getTo bs a (i + 1) : Nat) : Int) := by
  have hb := bounds_u8 (hw.out x (List.mem_of_getElem? hx.out))
  have hlt := getTo_lt bs a i hw.out
  have hp : 256 ^ i ≤ 256 ^ 7 := Nat.pow_le_pow_right (by decide) (by omega)
  obtain ⟨y, rfl⟩ := Int.eq_ofNat_of_zero_le hb.1
  have h7 : 256 ^ 7 = 72057594037927936 := by decide
  rw [getTo_succ, List.getD_eq_getElem?_getD, hx.out, show (256 * ((getTo bs a i : Nat) : Int)) = ((256 * getTo bs a i : Nat) : Int) by omega, wrap_u64 (by omega), wrap_u64 (by omega), ← Int.natCast_add, wrap_u64 (by omega)]
  simp
theorem get_step2 {bs : List Int} {a i : Nat} {x : Int} (hx : Hid (bs[a + i]? = some x)) (hw : Hid (∀ n ∈ bs, (Lit.int .u8 n).wf = true)) (hi : i < 8) :
    bits .or .u64 (IntKind.u64.wrap (((getTo bs a i : Nat) : Int) * 256)) (IntKind.u64.wrap x) = ((getTo bs a (i + 1) : Nat) : Int) := by
  have hb := bounds_u8 (hw.out x (List.mem_of_getElem? hx.out))
  have hlt := getTo_lt bs a i hw.out
  have hp : 256 ^ i ≤ 256 ^ 7 := Nat.pow_le_pow_right (by decide) (by omega)
  obtain ⟨y, rfl⟩ := Int.eq_ofNat_of_zero_le hb.1
  have h7 : 256 ^ 7 = 72057594037927936 := by decide
  rw [getTo_succ, List.getD_eq_getElem?_getD, hx.out, show (((getTo bs a i : Nat) : Int) * 256) = ((2 ^ 8 * getTo bs a i : Nat) : Int) by omega, wrap_u64 (by omega), wrap_u64 (by omega), or_u64 (by omega) (by omega), nat_join 8 _ _ (by omega) (by omega)]
  simp

/-- What Get answers. -/
def getE (bs : List Int) (a s : Int) : Int := if (s < 1 ∨ 8 < s) ∨ a < 0 then 1 else if (bs.length : Int) < a ∨ (bs.length : Int) - a < s then 2 else 0
def getV (bs : List Int) (a s : Int) : Nat := if (s < 1 ∨ 8 < s) ∨ a < 0 then 0 else if (bs.length : Int) < a ∨ (bs.length : Int) - a < s then 0 else getTo bs a.toNat s.toNat
theorem get_bad' {bs : List Int} {a s : Int} (h : (s < 1 ∨ 8 < s) ∨ a < 0) : getE bs a s = 1 ∧ getV bs a s = 0 := by unfold getE getV; rw [if_pos h, if_pos h]; exact ⟨rfl, rfl⟩
theorem get_form' {bs : List Int} {a s : Int} (h : ¬ ((s < 1 ∨ 8 < s) ∨ a < 0)) (k : (bs.length : Int) < a ∨ (bs.length : Int) - a < s) : getE bs a s = 2 ∧ getV bs a s = 0 := by unfold getE getV; rw [if_neg h, if_neg h, if_pos k, if_pos k]; exact ⟨rfl, rfl⟩
theorem get_good' {bs : List Int} {a s : Nat} (h : ¬ (((s : Int) < 1 ∨ 8 < (s : Int)) ∨ (a : Int) < 0)) (k : ¬ ((bs.length : Int) < a ∨ (bs.length : Int) - a < s)) : getE bs a s = 0 ∧ getV bs a s = getTo bs a s := by unfold getE getV; rw [if_neg h, if_neg h, if_neg k, if_neg k]; exact ⟨rfl, rfl⟩

end Go.Proofs.YthmdibagcbbgoaaGreat

namespace Go.Proofs.YthmdibagcbbgoaaGreat
open Go Go.RowKit

theorem testBit_mirTo (N k j : Nat) : (mirTo N k).testBit j = (decide (j < k) && N.testBit (k - 1 - j)) := by
  induction k generalizing j with
  | zero => simp [mirTo_zero]
  | succ k ih =>
    rw [mirTo_succ]
    cases j with
    | zero => rw [Nat.testBit_zero, show k + 1 - 1 - 0 = k by omega, testBit_shrN]; simp only [Nat.zero_lt_succ, decide_true, Bool.true_and, decide_eq_decide]; omega
    | succ j =>
      rw [Nat.testBit_succ, show (2 * mirTo N k + shrN N k % 2) / 2 = mirTo N k by omega, ih, show k + 1 - 1 - (j + 1) = k - 1 - j by omega]
      simp
theorem mir_twice {N s : Nat} (h : N < 2 ^ s) : mirTo (mirTo N s) s = N := by
  apply Nat.eq_of_testBit_eq
  intro j
  rw [testBit_mirTo, testBit_mirTo]
  by_cases hj : j < s
  · simp only [hj, decide_true, Bool.true_and, show s - 1 - j < s by omega, show s - 1 - (s - 1 - j) = j by omega]
  · have : N.testBit j = false := Nat.testBit_lt_two_pow (Nat.lt_of_lt_of_le h (Nat.pow_le_pow_right (by decide) (by omega)))
    simp [hj, this]
theorem cnt_low (X b k : Nat) (hb : b < 2) : cntTo (2 * X + b) (k + 1) = b + cntTo X k := by
  induction k with
  | zero => rw [cntTo_succ, cntTo_zero, cntTo_zero, shrN_zero]; omega
  | succ k ih => rw [cntTo_succ, ih, cntTo_succ, ← shrN_succ]; unfold shrN; rw [Nat.div_div_eq_div_mul, Nat.mul_comm (2 ^ k) 2, ← Nat.div_div_eq_div_mul, show (2 * X + b) / 2 = X by omega]; omega
theorem cnt_mir (N s : Nat) : cntTo (mirTo N s) s = cntTo N s := by
  induction s with
  | zero => rw [cntTo_zero, cntTo_zero]
  | succ s ih => rw [mirTo_succ, cnt_low _ _ _ (Nat.mod_lt _ (by decide)), ih, cntTo_succ]; omega
theorem cnt_above {X s : Nat} (h : X < 2 ^ s) (d : Nat) : cntTo X (s + d) = cntTo X s := by
  induction d with
  | zero => rfl
  | succ d ih =>
    rw [show s + (d + 1) = (s + d) + 1 by omega, cntTo_succ, ih]
    have : shrN X (s + d) = 0 := by unfold shrN; exact Nat.div_eq_of_lt (Nat.lt_of_lt_of_le h (Nat.pow_le_pow_right (by decide) (by omega)))
    rw [this]; omega
theorem cnt_twice {N s : Nat} (h : N < 2 ^ s) (hs : s ≤ 64) : cntTo (mirTo N s) 64 = cntTo N 64 := by
  rw [show 64 = s + (64 - s) by omega, cnt_above (mirTo_lt N s), cnt_above h, cnt_mir]

theorem be_get (N s i : Nat) (h : i < s) : (be N s)[i]? = some ((N / 2 ^ (8 * (s - 1 - i)) % 256 : Nat) : Int) := by
  induction s generalizing i with
  | zero => omega
  | succ s ih =>
    cases i with
    | zero => simp [be]
    | succ i => rw [be, List.getElem?_cons_succ, ih i (by omega), show s + 1 - 1 - (i + 1) = s - 1 - i by omega]
theorem get_put {bs : List Int} {N s : Nat} (h : N < 2 ^ (8 * s)) (i : Nat) (hi : i ≤ s) : getTo (bs ++ be N s) bs.length i = N / 2 ^ (8 * (s - i)) := by
  induction i with
  | zero => rw [getTo_zero, Nat.div_eq_of_lt (by simpa using h)]
  | succ i ih =>
    rw [getTo_succ, ih (by omega), List.getD_eq_getElem?_getD, List.getElem?_append_right (by omega), show bs.length + i - bs.length = i by omega, be_get N s i (by omega),
      show 8 * (s - i) = 8 * (s - 1 - i) + 8 by omega, show 8 * (s - (i + 1)) = 8 * (s - 1 - i) by omega, Nat.pow_add, ← Nat.div_div_eq_div_mul]
    generalize N / 2 ^ (8 * (s - 1 - i)) = M
    simp only [Option.getD_some, Int.toNat_natCast]
    omega
theorem be_wf (N s : Nat) : ∀ n ∈ be N s, (Lit.int .u8 n).wf = true := by
  induction s with
  | zero => simp [be]
  | succ s ih =>
    intro n hn
    rw [be] at hn
    rcases List.mem_cons.1 hn with rfl | hn
    · exact Go.WalkArith.wf_u8 (by omega)
    · exact ih n hn
theorem putV_wf {bs : List Int} (hw : ∀ n ∈ bs, (Lit.int .u8 n).wf = true) (N : Nat) (s : Int) : ∀ n ∈ putV bs N s, (Lit.int .u8 n).wf = true := by
  unfold putV
  split
  · simp
  · split
    · simp
    · intro n hn
      rcases List.mem_append.1 hn with h | h
      · exact hw n h
      · exact be_wf _ _ n h
theorem get_back {bs : List Int} {N s : Nat} (h1 : 1 ≤ s) (h2 : s ≤ 8) (h : N < 2 ^ (8 * s)) : getV (bs ++ be N s) bs.length s = N ∧ getE (bs ++ be N s) bs.length s = 0 := by
  have e1 : ¬ (((s : Int) < 1 ∨ 8 < (s : Int)) ∨ ((bs.length : Nat) : Int) < 0) := by omega
  have e2 : ¬ (((bs ++ be N s).length : Int) < (bs.length : Int) ∨ ((bs ++ be N s).length : Int) - (bs.length : Int) < s) := by rw [List.length_append, be_length]; omega
  rw [(get_good' e1 e2).1, (get_good' e1 e2).2, get_put h s (Nat.le_refl _)]
  simp

end Go.Proofs.YthmdibagcbbgoaaGreat

namespace Go.Proofs.YthmdibagcbbgoaaGreat
open Go.RowKit

/-- A world in which all that was there in w is as it was. -/
structure Later (w0 : World) where
  w : World
  h : Below w0.heap.size w0 w

instance (w0 : World) : Nonempty (Later w0) := ⟨⟨w0, bl_refl w0⟩⟩

theorem Later.cell {w0 : World} {b o : Nat} {v : Value} (h : w0.cell? ⟨b, o, none⟩ = some v) (x : Later w0) : x.w.cell? ⟨b, o, none⟩ = some v := below_cell x.h h
theorem Later.reads {α : Type} {f : α → Value} {w0 : World} {v : Value} {xs : List α} (h : Reads f w0 v xs) (x : Later w0) : Reads f x.w v xs := h.below x.h

theorem calls_later {P : Program} {f : FuncId} {args : Array Value} {w0 : World} {x : Later w0} {v : Value} (h : Calls P f args x.w fun e w' => e = .returned v ∧ Below x.w.heap.size x.w w') :
    Calls P f args x.w fun e w'' => e = .returned v ∧ ∃ y : Later w0, w'' = y.w :=
  h.mono fun _ w' ⟨he, hb⟩ => ⟨he, ⟨w', bl_trans x.h hb⟩, rfl⟩
theorem calls_later_same {P : Program} {f : FuncId} {args : Array Value} {w0 : World} {x : Later w0} {v : Value} (h : Calls P f args x.w fun e w' => e = .returned v ∧ x.w = w') :
    Calls P f args x.w fun e w'' => e = .returned v ∧ ∃ y : Later w0, w'' = y.w :=
  h.mono fun _ _ ⟨he, hb⟩ => ⟨he, x, hb.symm⟩

theorem wp_region_later {P : Program} {id : Nat} {Q : Exit → Act → World → Prop} {a : Act} {w : World} {l : List Oper} (hm : P.follows .mixedOrders = true) (hB : Region.lexB .any l.toArray = true)
    (h : wpQuiet P l.toArray (fun w' => ∃ x : Later w, w' = x.w) (fun a' => ∀ w', (∃ x : Later w, w' = x.w) → Q .normal a' w') l a) : (Code.region id l.toArray true).wp P Q a w :=
  wp_region_quiet (C := fun w' => ∃ x : Later w, w' = x.w) hm hB ⟨⟨w.drew, bl_drew (bl_refl w)⟩, rfl⟩ (by simpa using h)

end Go.Proofs.YthmdibagcbbgoaaGreat

namespace Go.Proofs.YthmdibagcbbgoaaGreat
open Go.RowKit

/-- A control. -/
structure Ctl where
  k : Int
  ns : Int
  nr : Int
  p : Bool
  me : Int
  peer : Int
  data : List Int
/-- A control as a value; what its data reads as. -/
def Ctl.val (c : Ctl) (ao : Option Addr) (cap : Nat) : Value := .agg #[.int .i64 c.k, .int .i64 c.ns, .int .i64 c.nr, .bool c.p, .int .i64 c.me, .int .i64 c.peer, .slice ao c.data.length cap]
def Ctl.chk (c : Ctl) : Int := chkN c.k c.ns c.nr c.me c.peer c.data.length
def bitN (p : Bool) : Nat := if p then 1 else 0
theorem bitN_t : bitN true = 1 := rfl
theorem bitN_f : bitN false = 0 := rfl
theorem bitN_lt (p : Bool) : bitN p < 2 := by cases p <;> decide
attribute [irreducible] bitN
/-- The bytes behind the address, up to Me. -/
def Ctl.sec (c : Ctl) : List Int :=
  if c.k = 1 then [2 * c.ns, 2 * c.nr + bitN c.p] else if c.k = 2 then [1, 2 * c.nr + bitN c.p] else if c.k = 3 then [5, 2 * c.nr + bitN c.p] else if c.k = 4 then [13, 2 * c.nr + bitN c.p]
  else if c.k = 5 then [111 + 16 * bitN c.p] else if c.k = 6 then [99 + 16 * bitN c.p] else [15 + 16 * bitN c.p]
/-- A control's bytes. -/
def Ctl.bytes (c : Ctl) : List Int := 3 :: (c.sec ++ (be c.me.toNat 2 ++ (be c.peer.toNat 2 ++ c.data)))

/-- A literal of one or two elements owns them. -/
theorem owns_one (w : World) {base : Nat} (x : Value) (e : TypeId) (hb : base ≤ w.heap.size) : (w.alloc (.cells #[x] e)).ownsRow base e 1 (.slice (some ⟨w.heap.size, 0, none⟩) 1 1) 1 [x] :=
  ⟨by simp, .inr ⟨w.heap.size, 1, #[x], rfl, hb, heap_alloc_new w _, Nat.le_refl _, by simp [maxLen], by simp, by simp⟩⟩
theorem reads_two' {α : Type} (f : α → Value) (w : World) (x y : α) (e : TypeId) : Reads f (w.alloc (.cells #[f x, f y] e)) (.slice (some ⟨w.heap.size, 0, none⟩) 2 2) [x, y] := by
  refine ⟨by simp [maxLen], _, _, rfl, ⟨by simp, fun h => by cases h⟩, fun i z hz => ⟨_, _, rfl, ?_⟩⟩
  rw [cell_of_row _ _ _ _ _ _ (heap_alloc_new _ _)]
  match i, hz with
  | 0, hz => simp at hz; subst hz; simp
  | 1, hz => simp at hz; subst hz; simp
  | n + 2, hz => simp at hz

theorem cells7 (w : World) (a b c d e f g : Value) (t : TypeId) :
    (w.alloc (.cells #[a, b, c, d, e, f, g] t)).cell? ⟨w.heap.size, 0, none⟩ = some a ∧ (w.alloc (.cells #[a, b, c, d, e, f, g] t)).cell? ⟨w.heap.size, 1, none⟩ = some b ∧
    (w.alloc (.cells #[a, b, c, d, e, f, g] t)).cell? ⟨w.heap.size, 2, none⟩ = some c ∧ (w.alloc (.cells #[a, b, c, d, e, f, g] t)).cell? ⟨w.heap.size, 3, none⟩ = some d ∧
    (w.alloc (.cells #[a, b, c, d, e, f, g] t)).cell? ⟨w.heap.size, 4, none⟩ = some e ∧ (w.alloc (.cells #[a, b, c, d, e, f, g] t)).cell? ⟨w.heap.size, 5, none⟩ = some f ∧
    (w.alloc (.cells #[a, b, c, d, e, f, g] t)).cell? ⟨w.heap.size, 6, none⟩ = some g := by
  refine ⟨?_, ?_, ?_, ?_, ?_, ?_, ?_⟩ <;> (rw [cell_of_row _ _ _ _ _ _ (heap_alloc_new _ _)]; rfl)
theorem owns_below' {w w' : World} {base : Nat} {e : TypeId} {s : Nat} {v : Value} {n : Nat} {xs : List Value} (h : w.ownsRow base e s v n xs) (hb : Below w.heap.size w w') : w'.ownsRow base e s v n xs := by
  refine ⟨h.1, ?_⟩
  rcases h.2 with h2 | ⟨g, cap, cur, hv, hg, hrow, r⟩
  · exact .inl h2
  · exact .inr ⟨g, cap, cur, hv, hg, (hb.block g (lt_of_get hrow)).trans hrow, r⟩

theorem owns_form {w : World} {base : Nat} {e : TypeId} {s : Nat} {v : Value} {n : Nat} {xs : List Value} (h : w.ownsRow base e s v n xs) : ∃ ao cap, v = .slice ao n cap := by
  rcases h.2 with ⟨rfl, h0⟩ | ⟨g, cap, cur, rfl, _⟩
  · exact ⟨none, 0, by rw [h0]⟩
  · exact ⟨_, _, rfl⟩
theorem owns_mono {w : World} {b0 b1 : Nat} {e : TypeId} {s : Nat} {v : Value} {n : Nat} {xs : List Value} (h : w.ownsRow b1 e s v n xs) (hle : b0 ≤ b1) : w.ownsRow b0 e s v n xs := by
  refine ⟨h.1, ?_⟩
  rcases h.2 with h2 | ⟨g, cap, cur, hv, hb, r⟩
  · exact .inl h2
  · exact .inr ⟨g, cap, cur, hv, by omega, r⟩
theorem low_val {nr : Nat} (p : Bool) (h : nr ≤ 127) : bits .or .u8 ((nr : Int) * 2) (bitN p : Nat) = 2 * (nr : Int) + (bitN p : Nat) := by
  have hb := bitN_lt p
  have hn : ∀ (n : Fin 128) (b : Fin 2), bits .or .u8 ((n.val : Int) * 2) (b.val : Nat) = 2 * (n.val : Int) + (b.val : Nat) := by decide +kernel
  exact hn ⟨nr, by omega⟩ ⟨bitN p, hb⟩

theorem poll_val (p : Bool) : (bits .or .u8 111 (IntKind.u8.wrap (16 * (bitN p : Nat))) = 111 + 16 * (bitN p : Nat) ∧ bits .or .u8 99 (IntKind.u8.wrap (16 * (bitN p : Nat))) = 99 + 16 * (bitN p : Nat) ∧ bits .or .u8 15 (IntKind.u8.wrap (16 * (bitN p : Nat))) = 15 + 16 * (bitN p : Nat)) ∧ bits .or .u8 111 (16 * (bitN p : Nat)) = 111 + 16 * (bitN p : Nat) ∧ bits .or .u8 99 (16 * (bitN p : Nat)) = 99 + 16 * (bitN p : Nat) ∧ bits .or .u8 15 (16 * (bitN p : Nat)) = 15 + 16 * (bitN p : Nat) := by
  cases p
  · rw [bitN_f]; decide +kernel
  · rw [bitN_t]; decide +kernel

end Go.Proofs.YthmdibagcbbgoaaGreat
