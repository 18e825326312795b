/- A sender: what it is in Lean, how it lies in memory; sender.New, Base, Len. Conditions: none. -/
import Derived.WalkKit
import Derived.Lib.Hide
import Derived.Test.YtagbaoakablfpaaSteps
import Derived.Test.YtagbaoakablfpaaStr
namespace Go.Proofs.Ytagbaoakablfpaa
open Go.RowKit

/-- A sender. -/
structure Snd where
  size : Nat
  base : Nat
  ps : List (List Int)
  under : Nat
/-- What holds of every sender. -/
structure Snd.Ok (s : Snd) : Prop where
  size1 : 1 ≤ s.size
  size2 : s.size ≤ 63
  base : s.base < 128
  under1 : s.under ≤ s.ps.length
  under2 : s.under ≤ s.size
  len : s.ps.length ≤ 64
  pay : ∀ p ∈ s.ps, 1 ≤ p.length ∧ p.length ≤ 121

/-- A sender behind a pointer: all that it has lies in F; its own block is a, the payloads' blocks are neither a nor the row's. -/
def SndAt (F : Nat → Prop) (w : World) (a : Nat) (s : Snd) : Prop :=
  (∀ k, F k → k < w.heap.size) ∧ F a ∧ ∃ (av : Value) (vs : List Value) (D : Nat → Prop), w.heap[a]? = some (.cells #[.int .i64 s.size, .int .i64 s.base, av, .int .i64 s.under] 73 (0, 0)) ∧
    ArrAt w 32 av vs ∧ vs.length = s.ps.length ∧ (∀ k, av.ownBlock = some k → F k ∧ k ≠ a ∧ ¬ D k) ∧ (∀ k, D k → F k ∧ k ≠ a) ∧
    ∀ (i : Nat) (x : Value) (p : List Int), vs[i]? = some x → s.ps[i]? = some p → Byt D w x p
theorem SndAt.fr {F G : Nat → Prop} {w w' : World} {a : Nat} {s : Snd} (h : SndAt F w a s) (hf : Fr G w w') (hd : ∀ k, F k → ¬ G k) : SndAt F w' a s := by
  obtain ⟨h1, h2, av, vs, D, hb, hA, hl, hav, hD, hp⟩ := h
  exact ⟨fun k hk => Nat.lt_of_lt_of_le (h1 k hk) hf.size, h2, av, vs, D, hf.get hb (hd a h2), hA.fr hf (fun k hk => hd k (hav k hk).1), hl, hav, hD, fun i x p hx hq => (hp i x p hx hq).fr hf (fun k hk => hd k (hD k hk).1)⟩
theorem SndAt.below {F : Nat → Prop} {w w' : World} {a : Nat} {s : Snd} (h : SndAt F w a s) (hb : Below w.heap.size w w') : SndAt F w' a s := h.fr (G := fun _ => False) (.of_below hb) (fun _ _ h => h)
theorem SndAt.drew {F : Nat → Prop} {w : World} {a : Nat} {s : Snd} (h : SndAt F w a s) : SndAt F w.drew a s := h.below (bl_drew (bl_refl w))
/-- Its four cells. -/
theorem cells_of4 {W : World} {g : Nat} {a b c d : Value} {t : TypeId} (hb : W.heap[g]? = some (.cells #[a, b, c, d] t (0, 0))) :
    W.cell? ⟨g, 0, none⟩ = some a ∧ W.cell? ⟨g, 1, none⟩ = some b ∧ W.cell? ⟨g, 2, none⟩ = some c ∧ W.cell? ⟨g, 3, none⟩ = some d := by
  refine ⟨?_, ?_, ?_, ?_⟩ <;> (rw [cell_of_row _ _ _ _ _ _ hb]; rfl)
theorem frozen_of' {W : World} {g j : Nat} {cs : Array Value} {t : TypeId} (h : W.heap[g]? = some (.cells cs t (0, 0))) : W.frozen? ⟨g, j, none⟩ = false := by
  simp [World.frozen?, h]
theorem heap_set_box' (W : World) (g j : Nat) (cs : Array Value) (t : TypeId) (v : Value) (h : W.heap[g]? = some (.cells cs t (0, 0))) : (W.setCell ⟨g, j, none⟩ v).heap[g]? = some (.cells (cs.setIfInBounds j v) t (0, 0)) := by
  simp [World.setCell, Array.getElem?_modify, h]
theorem infoBytes : (Try.prog.info? 32).map (fun i => (i.zero, i.size, i.bytes)) = some (some (.slice none 0 0), 1, 24) := by kernel_rfl
theorem infoByte' : (Try.prog.info? 5).map (fun i => (i.zero, i.size, i.bytes)) = some (some (.int .u8 0), 1, 1) := by kernel_rfl

theorem owns_form' {w : World} {base : Nat} {e : TypeId} {s : Nat} {v : Value} {n : Nat} {xs : List Value} (h : w.ownsRow base e s v n xs) : ∃ ao cap, v = .slice ao n cap := by
  rcases h.2 with ⟨rfl, h0⟩ | ⟨g, cap, cur, rfl, _⟩
  · exact ⟨none, 0, by rw [h0]⟩
  · exact ⟨_, _, rfl⟩

theorem snew_bad (n : Int) (h : n < 1 ∨ 63 < n) (w : World) :
    Calls Try.prog 30 #[.int .i64 n] w fun e w' => e = .returned (.tuple #[.pointer none, .int .i64 1]) ∧ w = w' := by
  rcases h with h | h
  · go_enter Try.func30, Try.ntmps30
    go_wp2
    go_ret2
    exact ⟨rfl, rfl⟩
  · have h1 : ¬ n < 1 := by omega
    go_enter Try.func30, Try.ntmps30
    go_wp2
    go_ret2
    exact ⟨rfl, rfl⟩

theorem snew_ok (n : Nat) (h1 : 1 ≤ n) (h2 : n ≤ 63) (w : World) :
    Calls Try.prog 30 #[.int .i64 n] w fun e w' => e = .returned (.tuple #[.pointer (some ⟨w.heap.size, 0, none⟩), .int .i64 0]) ∧ SndAt (fun k => k = w.heap.size) w' w.heap.size ⟨n, 0, [], 0⟩ ∧ Below w.heap.size w w' := by
  go_enter Try.func30, Try.ntmps30
  go_wp2
  go_ret2
  refine ⟨rfl, ⟨fun k hk => by subst hk; simp, rfl, .slice none 0 0, [], fun _ => False, heap_alloc_new _ _, ArrAt.nil _ _, rfl, fun k hk => by simp [Value.ownBlock] at hk, fun _ h => h.elim, fun i x p hx => by simp at hx⟩, bl_alloc (bl_refl w) _⟩

theorem slen_any (F : Nat → Prop) (a : Nat) (s : Snd) (w : World) (hs : SndAt F w a s) :
    Calls Try.prog 19 #[.pointer (some ⟨a, 0, none⟩)] w fun e w' => e = .returned (.int .i64 s.ps.length) ∧ w = w' := by
  obtain ⟨h1, h2, av, vs, D, hb, hA, hl, hav, hD, hp⟩ := hs
  obtain ⟨ao, cap, rfl, _⟩ := hA.form
  rw [hl] at hb
  obtain ⟨c0, c1, c2, c3⟩ := cells_of4 hb
  clear hp hav hD h1 hA hl
  go_enter Try.func19, Try.ntmps19
  go_wp2
  go_ret
  exact ⟨rfl, rfl⟩

end Go.Proofs.Ytagbaoakablfpaa
