/- What a control is in Lean, its bytes; small laws for the walks. Conditions: none. -/
import Derived.WalkKit
import Derived.Lib.Hide
import Derived.Maps.AppendAt
import Derived.Test.YtcglpdbnggekdaaApp
import Derived.Test.YtcglpdbnggekdaaBitsLaw
import Derived.Test.YtcglpdbnggekdaaLater
import Derived.Test.YtcglpdbnggekdaaCtlChk
namespace Go.Proofs.Ytcglpdbnggekdaa
open Go.RowKit

/-- A control. -/
structure Ctl where
  k : Int
  ns : Int
  nr : Int
  p : Bool
  me : Int
  peer : Int
  data : List Int
/-- A control as a value; what its data reads as. -/
def Ctl.val (c : Ctl) (ao : Option Addr) (cap : Nat) : Value := .agg #[.int .i64 c.k, .int .i64 c.ns, .int .i64 c.nr, .bool c.p, .int .i64 c.me, .int .i64 c.peer, .slice ao c.data.length cap]
def Ctl.chk (c : Ctl) : Int := chkN c.k c.ns c.nr c.me c.peer c.data.length
def bitN (p : Bool) : Nat := if p then 1 else 0
theorem bitN_t : bitN true = 1 := rfl
theorem bitN_f : bitN false = 0 := rfl
theorem bitN_lt (p : Bool) : bitN p < 2 := by cases p <;> decide
attribute [irreducible] bitN
/-- The bytes behind the address, up to Me. -/
def Ctl.sec (c : Ctl) : List Int :=
  if c.k = 1 then [2 * c.ns, 2 * c.nr + bitN c.p] else if c.k = 2 then [1, 2 * c.nr + bitN c.p] else if c.k = 3 then [5, 2 * c.nr + bitN c.p] else if c.k = 4 then [13, 2 * c.nr + bitN c.p]
  else if c.k = 5 then [111 + 16 * bitN c.p] else if c.k = 6 then [99 + 16 * bitN c.p] else [15 + 16 * bitN c.p]
/-- A control's bytes. -/
def Ctl.bytes (c : Ctl) : List Int := 3 :: (c.sec ++ (be c.me.toNat 2 ++ (be c.peer.toNat 2 ++ c.data)))

theorem bit_one (p : Bool) (w : World) :
    Calls Try.prog 22 #[.bool p] w fun e w' => e = .returned (.int .u8 (bitN p : Nat)) ∧ w = w' := by
  have ht : Hid (bitN true = 1) := bitN_t
  have hf : Hid (bitN false = 0) := bitN_f
  cases p
  · rw [hf.out]
    go_enter Try.func22, Try.ntmps22
    go_wp2
    go_ret
    exact ⟨rfl, rfl⟩
  · rw [ht.out]
    go_enter Try.func22, Try.ntmps22
    go_wp2
    go_ret
    exact ⟨rfl, rfl⟩

/-- A literal of one or two elements owns them. -/
theorem owns_one (w : World) {base : Nat} (x : Value) (e : TypeId) (hb : base ≤ w.heap.size) : (w.alloc (.cells #[x] e)).ownsRow base e 1 (.slice (some ⟨w.heap.size, 0, none⟩) 1 1) 1 [x] :=
  ⟨by simp, .inr ⟨w.heap.size, 1, #[x], rfl, hb, heap_alloc_new w _, Nat.le_refl _, by simp [maxLen], by simp, by simp⟩⟩
theorem reads_two' {α : Type} (f : α → Value) (w : World) (x y : α) (e : TypeId) : Reads f (w.alloc (.cells #[f x, f y] e)) (.slice (some ⟨w.heap.size, 0, none⟩) 2 2) [x, y] := by
  refine ⟨by simp [maxLen], _, _, rfl, ⟨by simp, fun h => by cases h⟩, fun i z hz => ⟨_, _, rfl, ?_⟩⟩
  rw [cell_of_row _ _ _ _ _ _ (heap_alloc_new _ _)]
  match i, hz with
  | 0, hz => simp at hz; subst hz; simp
  | 1, hz => simp at hz; subst hz; simp
  | n + 2, hz => simp at hz

theorem cells7 (w : World) (a b c d e f g : Value) (t : TypeId) :
    (w.alloc (.cells #[a, b, c, d, e, f, g] t)).cell? ⟨w.heap.size, 0, none⟩ = some a ∧ (w.alloc (.cells #[a, b, c, d, e, f, g] t)).cell? ⟨w.heap.size, 1, none⟩ = some b ∧
    (w.alloc (.cells #[a, b, c, d, e, f, g] t)).cell? ⟨w.heap.size, 2, none⟩ = some c ∧ (w.alloc (.cells #[a, b, c, d, e, f, g] t)).cell? ⟨w.heap.size, 3, none⟩ = some d ∧
    (w.alloc (.cells #[a, b, c, d, e, f, g] t)).cell? ⟨w.heap.size, 4, none⟩ = some e ∧ (w.alloc (.cells #[a, b, c, d, e, f, g] t)).cell? ⟨w.heap.size, 5, none⟩ = some f ∧
    (w.alloc (.cells #[a, b, c, d, e, f, g] t)).cell? ⟨w.heap.size, 6, none⟩ = some g := by
  refine ⟨?_, ?_, ?_, ?_, ?_, ?_, ?_⟩ <;> (rw [cell_of_row _ _ _ _ _ _ (heap_alloc_new _ _)]; rfl)
theorem owns_below' {w w' : World} {base : Nat} {e : TypeId} {s : Nat} {v : Value} {n : Nat} {xs : List Value} (h : w.ownsRow base e s v n xs) (hb : Below w.heap.size w w') : w'.ownsRow base e s v n xs := by
  refine ⟨h.1, ?_⟩
  rcases h.2 with h2 | ⟨g, cap, cur, hv, hg, hrow, r⟩
  · exact .inl h2
  · exact .inr ⟨g, cap, cur, hv, hg, (hb.block g (lt_of_get hrow)).trans hrow, r⟩

theorem owns_form {w : World} {base : Nat} {e : TypeId} {s : Nat} {v : Value} {n : Nat} {xs : List Value} (h : w.ownsRow base e s v n xs) : ∃ ao cap, v = .slice ao n cap := by
  rcases h.2 with ⟨rfl, h0⟩ | ⟨g, cap, cur, rfl, _⟩
  · exact ⟨none, 0, by rw [h0]⟩
  · exact ⟨_, _, rfl⟩
theorem owns_mono {w : World} {b0 b1 : Nat} {e : TypeId} {s : Nat} {v : Value} {n : Nat} {xs : List Value} (h : w.ownsRow b1 e s v n xs) (hle : b0 ≤ b1) : w.ownsRow b0 e s v n xs := by
  refine ⟨h.1, ?_⟩
  rcases h.2 with h2 | ⟨g, cap, cur, hv, hb, r⟩
  · exact .inl h2
  · exact .inr ⟨g, cap, cur, hv, by omega, r⟩
theorem low_val {nr : Nat} (p : Bool) (h : nr ≤ 127) : bits .or .u8 ((nr : Int) * 2) (bitN p : Nat) = 2 * (nr : Int) + (bitN p : Nat) := by
  have hb := bitN_lt p
  have hn : ∀ (n : Fin 128) (b : Fin 2), bits .or .u8 ((n.val : Int) * 2) (b.val : Nat) = 2 * (n.val : Int) + (b.val : Nat) := by decide +kernel
  exact hn ⟨nr, by omega⟩ ⟨bitN p, hb⟩

theorem poll_val (p : Bool) : (bits .or .u8 111 (IntKind.u8.wrap (16 * (bitN p : Nat))) = 111 + 16 * (bitN p : Nat) ∧ bits .or .u8 99 (IntKind.u8.wrap (16 * (bitN p : Nat))) = 99 + 16 * (bitN p : Nat) ∧ bits .or .u8 15 (IntKind.u8.wrap (16 * (bitN p : Nat))) = 15 + 16 * (bitN p : Nat)) ∧ bits .or .u8 111 (16 * (bitN p : Nat)) = 111 + 16 * (bitN p : Nat) ∧ bits .or .u8 99 (16 * (bitN p : Nat)) = 99 + 16 * (bitN p : Nat) ∧ bits .or .u8 15 (16 * (bitN p : Nat)) = 15 + 16 * (bitN p : Nat) := by
  cases p
  · rw [bitN_f]; decide +kernel
  · rw [bitN_t]; decide +kernel

end Go.Proofs.Ytcglpdbnggekdaa
