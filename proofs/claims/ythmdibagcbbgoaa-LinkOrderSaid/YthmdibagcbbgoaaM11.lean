/- A slice of slices of bytes reads as a list of lists; portageref03.Same at two lists that are one. The contract of portageref06.Same: are two lists of ints the same?. recv.Take at any receiver in order, any bytes; portagelaw08.awake. Conditions: as they stand. -/
import Derived.WalkKit
import Derived.Lib.Hide
import Derived.BigQuiet
import Derived.Test.YthmdibagcbbgoaaM01
import Derived.Test.YthmdibagcbbgoaaM10
import Derived.Deep.QuietTactic
import Derived.WalkSmall
import Derived.Test.YthmdibagcbbgoaaM00
import Derived.Test.YthmdibagcbbgoaaProg
import Derived.Lib.SlBytesConst
import Derived.Test.YthmdibagcbbgoaaM08
namespace Go.Proofs.Ythmdibagcbbgoaa
open Go.RowKit

theorem owns_fr {F : Nat → Prop} {w w' : World} {base : Nat} {e : TypeId} {s : Nat} {v : Value} {n : Nat} {xs : List Value} (h : w.ownsRow base e s v n xs) (hf : Fr F w w') (hn : ∀ k, v.ownBlock = some k → ¬ F k) : w'.ownsRow base e s v n xs := by
  refine ⟨h.1, ?_⟩
  rcases h.2 with h | ⟨g, cap, cur, rfl, hb, hg, r⟩
  · exact .inl h
  · exact .inr ⟨g, cap, cur, rfl, hb, hf.get hg (hn g rfl), r⟩

/-- A slice of slices of bytes reads as a list of lists. -/
def Lst (w : World) (v : Value) (ps : List (List Int)) : Prop :=
  ∃ vs : List Value, vs.length = ps.length ∧ Reads id w v vs ∧ ∀ (i : Nat) (x : Value) (p : List Int), vs[i]? = some x → ps[i]? = some p → Reads (Value.int .u8) w x p
theorem Lst.of_pays {F : Nat → Prop} {w : World} {v : Value} {ps : List (List Int)} (h : Pays F w v ps) : Lst w v ps := by
  obtain ⟨vs, h1, h2, h3⟩ := h
  exact ⟨vs, h1, h2.1, fun i x p hx hp => (h3 i x p hx hp).1.1⟩
theorem Lst.below {w w' : World} {v : Value} {ps : List (List Int)} (h : Lst w v ps) (hb : Below w.heap.size w w') : Lst w' v ps := by
  obtain ⟨vs, h1, h2, h3⟩ := h
  exact ⟨vs, h1, h2.below hb, fun i x p hx hp => (h3 i x p hx hp).below hb⟩
theorem Lst.form {w : World} {v : Value} {ps : List (List Int)} (h : Lst w v ps) : ∃ ao cap, v = .slice ao ps.length cap ∧ ps.length ≤ cap ∧ ps.length ≤ maxLen := by
  obtain ⟨vs, h1, ⟨hm, ao, cap, rfl, ⟨hc, _⟩, _⟩, _⟩ := h
  exact ⟨ao, cap, by rw [h1], by omega, by omega⟩
theorem Lst.at_ {w : World} {ao : Option Addr} {n cap : Nat} {ps : List (List Int)} (h : Lst w (.slice ao n cap) ps) {i : Nat} {p : List Int} (hp : ps[i]? = some p) :
    ∃ b o x, ao = some ⟨b, o, none⟩ ∧ w.cell? ⟨b, o + i, none⟩ = some x ∧ Reads (Value.int .u8) w x p := by
  obtain ⟨vs, h1, ⟨hm, ao', cap', hv, _, hc⟩, h3⟩ := h
  cases hv
  have hi : i < ps.length := (List.getElem?_eq_some_iff.1 hp).1
  obtain ⟨x, hx⟩ := get_some (xs := vs) (k := i) (by omega)
  obtain ⟨b, o, rfl, hcell⟩ := hc i x hx
  exact ⟨b, o, x, rfl, hcell, h3 i x p hx hp⟩

end Go.Proofs.Ythmdibagcbbgoaa

namespace Go.Proofs.Ythmdibagcbbgoaa
open Go.RowKit

theorem take_next {xs ys : List Int} {k : Nat} {x y : Int} (hx : xs[k]? = some x) (hy : ys[k]? = some y) (h : xs.take k = ys.take k) (e : x = y) : xs.take (k + 1) = ys.take (k + 1) := by
  rw [take_snoc' hx, take_snoc' hy, h, e]
theorem take_all {xs ys : List Int} (hl : xs.length = ys.length) (h : xs.take xs.length = ys.take xs.length) : xs = ys := by
  rw [List.take_length, hl, List.take_length] at h; exact h
theorem ne_of_at {xs ys : List Int} {k : Nat} {x y : Int} (hx : xs[k]? = some x) (hy : ys[k]? = some y) (h : (x != y) = true) : xs ≠ ys := by
  rintro rfl
  rw [hx] at hy
  simp at hy
  subst hy
  simp at h

end Go.Proofs.Ythmdibagcbbgoaa

namespace Go.Proofs.Ythmdibagcbbgoaa
open Go.RowKit

theorem rctake_any (C D : Nat → Prop) (a : Nat) (r : Rcv) (hok : r.Ok) (ns : Int) (v : Value) (p : List Int) (w : World) (hs : RcvAt C D w a r) (hC : ∀ k, C k ∨ D k → k < w.heap.size) (hr : Reads (Value.int .u8) w v p) (hpw : ∀ n ∈ p, (Lit.int .u8 n).wf = true) :
    Calls Try.prog 67 #[.pointer (some ⟨a, 0, none⟩), .int .i64 ns, v] w fun e w' => ∃ tv av, e = .returned (.tuple #[tv, av, .int .i64 (r.chk ns p.length)]) ∧
      RcvAt C (fun k => D k ∨ (w.heap.size ≤ k ∧ k < w'.heap.size)) w' a (r.take ns p) ∧ Fr C w w' ∧ Pays (fun k => D k ∨ (w.heap.size ≤ k ∧ k < w'.heap.size)) w' tv (r.tells ns p) ∧
      w'.ownsRow w.heap.size 3 1 av (r.wants ns p).length ((r.wants ns p).map (Value.int .i64)) := by
  obtain ⟨hm, ao, cap, rfl, hca, hcc⟩ := hr
  by_cases hE : r.chk ns p.length = 0
  · obtain ⟨_, _, hpl, hnew⟩ := hok.put hE p
    have hl := hok.len
    have := hok.size2
    rw [hE]
    unfold Rcv.take Rcv.tells Rcv.wants
    rw [if_pos hE, if_pos hE, if_pos hE]
    exact rctake_ok C D a r ns ao cap p w hs hC ⟨hm, ao, cap, rfl, hca, hcc⟩ hpw hE hpl (by omega) hnew
  · unfold Rcv.take Rcv.tells Rcv.wants
    rw [if_neg hE, if_neg hE, if_neg hE]
    refine (rctake_bad C D a r ns ao p.length cap w hs hE).mono ?_
    rintro e w' ⟨rfl, k, rfl⟩
    have hb := bl_drewN (bl_refl w) k
    refine ⟨_, _, rfl, (hs.below hb).mono (fun _ h => h) (fun _ h => .inl h) (fun i hi hc => ?_), .of_below hb, Pays.nil _ _, rfl, .inl ⟨rfl, rfl⟩⟩
    rcases hi with hi | hi
    · exact hs.dis i hi hc
    · have := hC i (.inl hc); omega

theorem aw8_ok : (Rcv.mk 4 0 [] []).Ok := new_ok (by omega) (by omega)
theorem aw8_1 : (Rcv.mk 4 0 [] []).chk 1 1 = 0 ∧ (Rcv.mk 4 0 [] []).wants 1 [98] = [0] ∧ (Rcv.mk 4 0 [] []).take 1 [98] = ⟨4, 0, [(1, [98])], [(0, 1)]⟩ := ⟨by kernel_rfl, by kernel_rfl, by kernel_rfl⟩
theorem aw8_2 : (Rcv.mk 4 0 [(1, [98])] [(0, 1)]).chk 0 1 = 0 ∧ (Rcv.mk 4 0 [(1, [98])] [(0, 1)]).tells 0 [97] = [[97], [98]] ∧ ((Rcv.mk 4 0 [(1, [98])] [(0, 1)]).take 0 [97]).waits = 2 := ⟨by kernel_rfl, by kernel_rfl, by kernel_rfl⟩

/-- A pair of one-byte slices, as a slice. -/
theorem lst_two (W : World) (b1 b2 : Nat) (x y : Int) (h1 : Reads (Value.int .u8) W (.slice (some ⟨b1, 0, none⟩) 1 1) [x]) (h2 : Reads (Value.int .u8) W (.slice (some ⟨b2, 0, none⟩) 1 1) [y]) (e : TypeId) :
    Lst (W.alloc (.cells #[.slice (some ⟨b1, 0, none⟩) 1 1, .slice (some ⟨b2, 0, none⟩) 1 1] e)) (.slice (some ⟨W.heap.size, 0, none⟩) 2 2) [[x], [y]] := by
  have hb := bl_alloc (bl_refl W) (.cells #[.slice (some ⟨b1, 0, none⟩) 1 1, .slice (some ⟨b2, 0, none⟩) 1 1] e)
  have hc := heap_alloc_new W (.cells #[.slice (some ⟨b1, 0, none⟩) 1 1, .slice (some ⟨b2, 0, none⟩) 1 1] e)
  refine ⟨[.slice (some ⟨b1, 0, none⟩) 1 1, .slice (some ⟨b2, 0, none⟩) 1 1], rfl, ⟨by simp [maxLen], _, _, rfl, ⟨by simp, fun h => by cases h⟩, fun i z hz => ⟨_, _, rfl, ?_⟩⟩, fun i z p hz hp => ?_⟩
  · rw [cell_of_row _ _ _ _ _ _ hc]
    match i, hz with
    | 0, hz => simp at hz; subst hz; simp
    | 1, hz => simp at hz; subst hz; simp
    | n + 2, hz => simp at hz
  · match i, hz, hp with
    | 0, hz, hp => simp at hz hp; subst hz hp; exact h1.below hb
    | 1, hz, hp => simp at hz hp; subst hz hp; exact h2.below hb
    | n + 2, hz, hp => simp at hz

end Go.Proofs.Ythmdibagcbbgoaa
