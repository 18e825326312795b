/- A slice of slices of bytes reads as a list of lists; portageref03.Same at two lists that are one. The contract of portageref06.Same: are two lists of ints the same?. recv.Take at any receiver in order, any bytes; portagelaw08.awake. A sender: what it is in Lean, how it lies in memory; sender.New, Base, Len. Conditions: as they stand. -/
import Derived.WalkKit
import Derived.Lib.Hide
import Derived.BigQuiet
import Derived.Test.YthmdibagcbbgoaaGreatM01
import Derived.Test.YthmdibagcbbgoaaGreatM06
import Derived.Deep.QuietTactic
import Derived.WalkSmall
import Derived.Test.YthmdibagcbbgoaaGreatM00
import Derived.Test.YthmdibagcbbgoaaGreatProg
import Derived.Lib.SlBytesConst
import Derived.Test.YthmdibagcbbgoaaGreatM05
namespace Go.Proofs.YthmdibagcbbgoaaGreat
open Go.RowKit

theorem owns_fr {F : Nat → Prop} {w w' : World} {base : Nat} {e : TypeId} {s : Nat} {v : Value} {n : Nat} {xs : List Value} (h : w.ownsRow base e s v n xs) (hf : Fr F w w') (hn : ∀ k, v.ownBlock = some k → ¬ F k) : w'.ownsRow base e s v n xs := by
  refine ⟨h.1, ?_⟩
  rcases h.2 with h | ⟨g, cap, cur, rfl, hb, hg, r⟩
  · exact .inl h
  · exact .inr ⟨g, cap, cur, rfl, hb, hf.get hg (hn g rfl), r⟩

/-- A slice of slices of bytes reads as a list of lists. -/
def Lst (w : World) (v : Value) (ps : List (List Int)) : Prop :=
  ∃ vs : List Value, vs.length = ps.length ∧ Reads id w v vs ∧ ∀ (i : Nat) (x : Value) (p : List Int), vs[i]? = some x → ps[i]? = some p → Reads (Value.int .u8) w x p
theorem Lst.of_pays {F : Nat → Prop} {w : World} {v : Value} {ps : List (List Int)} (h : Pays F w v ps) : Lst w v ps := by
  obtain ⟨vs, h1, h2, h3⟩ := h
  exact ⟨vs, h1, h2.1, fun i x p hx hp => (h3 i x p hx hp).1.1⟩
theorem Lst.below {w w' : World} {v : Value} {ps : List (List Int)} (h : Lst w v ps) (hb : Below w.heap.size w w') : Lst w' v ps := by
  obtain ⟨vs, h1, h2, h3⟩ := h
  exact ⟨vs, h1, h2.below hb, fun i x p hx hp => (h3 i x p hx hp).below hb⟩
theorem Lst.form {w : World} {v : Value} {ps : List (List Int)} (h : Lst w v ps) : ∃ ao cap, v = .slice ao ps.length cap ∧ ps.length ≤ cap ∧ ps.length ≤ maxLen := by
  obtain ⟨vs, h1, ⟨hm, ao, cap, rfl, ⟨hc, _⟩, _⟩, _⟩ := h
  exact ⟨ao, cap, by rw [h1], by omega, by omega⟩
theorem Lst.at_ {w : World} {ao : Option Addr} {n cap : Nat} {ps : List (List Int)} (h : Lst w (.slice ao n cap) ps) {i : Nat} {p : List Int} (hp : ps[i]? = some p) :
    ∃ b o x, ao = some ⟨b, o, none⟩ ∧ w.cell? ⟨b, o + i, none⟩ = some x ∧ Reads (Value.int .u8) w x p := by
  obtain ⟨vs, h1, ⟨hm, ao', cap', hv, _, hc⟩, h3⟩ := h
  cases hv
  have hi : i < ps.length := (List.getElem?_eq_some_iff.1 hp).1
  obtain ⟨x, hx⟩ := get_some (xs := vs) (k := i) (by omega)
  obtain ⟨b, o, rfl, hcell⟩ := hc i x hx
  exact ⟨b, o, x, rfl, hcell, h3 i x p hx hp⟩

set_option maxRecDepth 100000 in
set_option maxHeartbeats 1000000 in
theorem same03_eq (v u : Value) (ps : List (List Int)) (w : World) (h1 : Lst w v ps) (h2 : Lst w u ps) :
    Calls Tryz.prog 12 #[v, u] w fun e w' => e = .returned (.bool true) ∧ Below w.heap.size w w' := by
  obtain ⟨ao1, cap1, rfl, hc1, hm1⟩ := h1.form
  obtain ⟨ao2, cap2, rfl, hc2, _⟩ := h2.form
  simp only [maxLen] at hm1
  go_enter Tryz.func12, Tryz.ntmps12
  go_wp2
  go_loopw [5] (fun k wr => ∃ i : Nat, i ≤ ps.length ∧ k = .int .i64 i ∧ Below w.heap.size w wr) (fun k _ => ps.length - (intOf k).toNat)
  case atStart => exact ⟨0, by omega, rfl, Below.refl _ _⟩
  case round =>
    obtain ⟨k, hk, rfl, hB⟩ := hrel
    by_cases hlt : k < ps.length
    · obtain ⟨p, hp⟩ := get_some hlt
      obtain ⟨b1, o1, x1, rfl, hx1, hr1⟩ := (h1.below hB).at_ hp
      obtain ⟨b2, o2, x2, rfl, hx2, hr2⟩ := (h2.below hB).at_ hp
      have i1 : (k : Int) < (ps.length : Int) := by omega
      have v1 : ∀ nq, (convert 44 9 x1).run Tryz.prog (wr.drewN nq) = .ok (.string (strOfNums p)) (wr.drewN nq) := fun nq => conv_reads (hr1.below (bl_drewN (bl_refl _) nq))
      have v2 : ∀ nq, (convert 44 9 x2).run Tryz.prog (wr.drewN nq) = .ok (.string (strOfNums p)) (wr.drewN nq) := fun nq => conv_reads (hr2.below (bl_drewN (bl_refl _) nq))
      clear hp hr1 hr2 h1 h2
      go_wp2_with fail
      go_quiet (fail)
      go_wp2
      go_roundw
      case rel => exact ⟨k + 1, by omega, by go_num, below_drewN hB _⟩
      case measure => simp [intOf]; omega
    · obtain rfl : k = ps.length := by omega
      clear h1 h2
      go_wp2
      go_ret
      exact ⟨rfl, hB⟩

end Go.Proofs.YthmdibagcbbgoaaGreat

namespace Go.Proofs.YthmdibagcbbgoaaGreat
open Go.RowKit

theorem take_next {xs ys : List Int} {k : Nat} {x y : Int} (hx : xs[k]? = some x) (hy : ys[k]? = some y) (h : xs.take k = ys.take k) (e : x = y) : xs.take (k + 1) = ys.take (k + 1) := by
  rw [take_snoc' hx, take_snoc' hy, h, e]
theorem take_all {xs ys : List Int} (hl : xs.length = ys.length) (h : xs.take xs.length = ys.take xs.length) : xs = ys := by
  rw [List.take_length, hl, List.take_length] at h; exact h
theorem ne_of_at {xs ys : List Int} {k : Nat} {x y : Int} (hx : xs[k]? = some x) (hy : ys[k]? = some y) (h : (x != y) = true) : xs ≠ ys := by
  rintro rfl
  rw [hx] at hy
  simp at hy
  subst hy
  simp at h

end Go.Proofs.YthmdibagcbbgoaaGreat

namespace Go.Proofs.YthmdibagcbbgoaaGreat
open Go.RowKit

theorem rctake_any (C D : Nat → Prop) (a : Nat) (r : Rcv) (hok : r.Ok) (ns : Int) (v : Value) (p : List Int) (w : World) (hs : RcvAt C D w a r) (hC : ∀ k, C k ∨ D k → k < w.heap.size) (hr : Reads (Value.int .u8) w v p) (hpw : ∀ n ∈ p, (Lit.int .u8 n).wf = true) :
    Calls Tryz.prog 96 #[.pointer (some ⟨a, 0, none⟩), .int .i64 ns, v] w fun e w' => ∃ tv av, e = .returned (.tuple #[tv, av, .int .i64 (r.chk ns p.length)]) ∧
      RcvAt C (fun k => D k ∨ (w.heap.size ≤ k ∧ k < w'.heap.size)) w' a (r.take ns p) ∧ Fr C w w' ∧ Pays (fun k => D k ∨ (w.heap.size ≤ k ∧ k < w'.heap.size)) w' tv (r.tells ns p) ∧
      w'.ownsRow w.heap.size 3 1 av (r.wants ns p).length ((r.wants ns p).map (Value.int .i64)) := by
  obtain ⟨hm, ao, cap, rfl, hca, hcc⟩ := hr
  by_cases hE : r.chk ns p.length = 0
  · obtain ⟨_, _, hpl, hnew⟩ := hok.put hE p
    have hl := hok.len
    have := hok.size2
    rw [hE]
    unfold Rcv.take Rcv.tells Rcv.wants
    rw [if_pos hE, if_pos hE, if_pos hE]
    exact rctake_ok C D a r ns ao cap p w hs hC ⟨hm, ao, cap, rfl, hca, hcc⟩ hpw hE hpl (by omega) hnew
  · unfold Rcv.take Rcv.tells Rcv.wants
    rw [if_neg hE, if_neg hE, if_neg hE]
    refine (rctake_bad C D a r ns ao p.length cap w hs hE).mono ?_
    rintro e w' ⟨rfl, k, rfl⟩
    have hb := bl_drewN (bl_refl w) k
    refine ⟨_, _, rfl, (hs.below hb).mono (fun _ h => h) (fun _ h => .inl h) (fun i hi hc => ?_), .of_below hb, Pays.nil _ _, rfl, .inl ⟨rfl, rfl⟩⟩
    rcases hi with hi | hi
    · exact hs.dis i hi hc
    · have := hC i (.inl hc); omega

theorem aw8_ok : (Rcv.mk 4 0 [] []).Ok := new_ok (by omega) (by omega)
theorem aw8_1 : (Rcv.mk 4 0 [] []).chk 1 1 = 0 ∧ (Rcv.mk 4 0 [] []).wants 1 [98] = [0] ∧ (Rcv.mk 4 0 [] []).take 1 [98] = ⟨4, 0, [(1, [98])], [(0, 1)]⟩ := ⟨by kernel_rfl, by kernel_rfl, by kernel_rfl⟩
theorem aw8_2 : (Rcv.mk 4 0 [(1, [98])] [(0, 1)]).chk 0 1 = 0 ∧ (Rcv.mk 4 0 [(1, [98])] [(0, 1)]).tells 0 [97] = [[97], [98]] ∧ ((Rcv.mk 4 0 [(1, [98])] [(0, 1)]).take 0 [97]).waits = 2 := ⟨by kernel_rfl, by kernel_rfl, by kernel_rfl⟩

/-- A pair of one-byte slices, as a slice. -/
theorem lst_two (W : World) (b1 b2 : Nat) (x y : Int) (h1 : Reads (Value.int .u8) W (.slice (some ⟨b1, 0, none⟩) 1 1) [x]) (h2 : Reads (Value.int .u8) W (.slice (some ⟨b2, 0, none⟩) 1 1) [y]) (e : TypeId) :
    Lst (W.alloc (.cells #[.slice (some ⟨b1, 0, none⟩) 1 1, .slice (some ⟨b2, 0, none⟩) 1 1] e)) (.slice (some ⟨W.heap.size, 0, none⟩) 2 2) [[x], [y]] := by
  have hb := bl_alloc (bl_refl W) (.cells #[.slice (some ⟨b1, 0, none⟩) 1 1, .slice (some ⟨b2, 0, none⟩) 1 1] e)
  have hc := heap_alloc_new W (.cells #[.slice (some ⟨b1, 0, none⟩) 1 1, .slice (some ⟨b2, 0, none⟩) 1 1] e)
  refine ⟨[.slice (some ⟨b1, 0, none⟩) 1 1, .slice (some ⟨b2, 0, none⟩) 1 1], rfl, ⟨by simp [maxLen], _, _, rfl, ⟨by simp, fun h => by cases h⟩, fun i z hz => ⟨_, _, rfl, ?_⟩⟩, fun i z p hz hp => ?_⟩
  · rw [cell_of_row _ _ _ _ _ _ hc]
    match i, hz with
    | 0, hz => simp at hz; subst hz; simp
    | 1, hz => simp at hz; subst hz; simp
    | n + 2, hz => simp at hz
  · match i, hz, hp with
    | 0, hz, hp => simp at hz hp; subst hz hp; exact h1.below hb
    | 1, hz, hp => simp at hz hp; subst hz hp; exact h2.below hb
    | n + 2, hz, hp => simp at hz

end Go.Proofs.YthmdibagcbbgoaaGreat

namespace Go.Proofs.YthmdibagcbbgoaaGreat
open Go.RowKit

/-- A sender. -/
structure Snd where
  size : Nat
  base : Nat
  ps : List (List Int)
  under : Nat
/-- What holds of every sender. -/
structure Snd.Ok (s : Snd) : Prop where
  size1 : 1 ≤ s.size
  size2 : s.size ≤ 63
  base : s.base < 128
  under1 : s.under ≤ s.ps.length
  under2 : s.under ≤ s.size
  len : s.ps.length ≤ 64
  pay : ∀ p ∈ s.ps, 1 ≤ p.length ∧ p.length ≤ 121

/-- A sender behind a pointer: all that it has lies in F; its own block is a, the payloads' blocks are neither a nor the row's. -/
def SndAt (F : Nat → Prop) (w : World) (a : Nat) (s : Snd) : Prop :=
  (∀ k, F k → k < w.heap.size) ∧ F a ∧ ∃ (av : Value) (vs : List Value) (D : Nat → Prop), w.heap[a]? = some (.cells #[.int .i64 s.size, .int .i64 s.base, av, .int .i64 s.under] 86 (0, 0)) ∧
    ArrAt w 44 av vs ∧ vs.length = s.ps.length ∧ (∀ k, av.ownBlock = some k → F k ∧ k ≠ a ∧ ¬ D k) ∧ (∀ k, D k → F k ∧ k ≠ a) ∧
    ∀ (i : Nat) (x : Value) (p : List Int), vs[i]? = some x → s.ps[i]? = some p → Byt D w x p
theorem SndAt.fr {F G : Nat → Prop} {w w' : World} {a : Nat} {s : Snd} (h : SndAt F w a s) (hf : Fr G w w') (hd : ∀ k, F k → ¬ G k) : SndAt F w' a s := by
  obtain ⟨h1, h2, av, vs, D, hb, hA, hl, hav, hD, hp⟩ := h
  exact ⟨fun k hk => Nat.lt_of_lt_of_le (h1 k hk) hf.size, h2, av, vs, D, hf.get hb (hd a h2), hA.fr hf (fun k hk => hd k (hav k hk).1), hl, hav, hD, fun i x p hx hq => (hp i x p hx hq).fr hf (fun k hk => hd k (hD k hk).1)⟩
theorem SndAt.below {F : Nat → Prop} {w w' : World} {a : Nat} {s : Snd} (h : SndAt F w a s) (hb : Below w.heap.size w w') : SndAt F w' a s := h.fr (G := fun _ => False) (.of_below hb) (fun _ _ h => h)
theorem SndAt.drew {F : Nat → Prop} {w : World} {a : Nat} {s : Snd} (h : SndAt F w a s) : SndAt F w.drew a s := h.below (bl_drew (bl_refl w))
/-- Its four cells. -/
theorem cells_of4 {W : World} {g : Nat} {a b c d : Value} {t : TypeId} (hb : W.heap[g]? = some (.cells #[a, b, c, d] t (0, 0))) :
    W.cell? ⟨g, 0, none⟩ = some a ∧ W.cell? ⟨g, 1, none⟩ = some b ∧ W.cell? ⟨g, 2, none⟩ = some c ∧ W.cell? ⟨g, 3, none⟩ = some d := by
  refine ⟨?_, ?_, ?_, ?_⟩ <;> (rw [cell_of_row _ _ _ _ _ _ hb]; rfl)
theorem frozen_of' {W : World} {g j : Nat} {cs : Array Value} {t : TypeId} (h : W.heap[g]? = some (.cells cs t (0, 0))) : W.frozen? ⟨g, j, none⟩ = false := by
  simp [World.frozen?, h]
theorem heap_set_box' (W : World) (g j : Nat) (cs : Array Value) (t : TypeId) (v : Value) (h : W.heap[g]? = some (.cells cs t (0, 0))) : (W.setCell ⟨g, j, none⟩ v).heap[g]? = some (.cells (cs.setIfInBounds j v) t (0, 0)) := by
  simp [World.setCell, Array.getElem?_modify, h]
theorem infoBytes : (Tryz.prog.info? 44).map (fun i => (i.zero, i.size, i.bytes)) = some (some (.slice none 0 0), 1, 24) := by kernel_rfl
theorem infoByte' : (Tryz.prog.info? 5).map (fun i => (i.zero, i.size, i.bytes)) = some (some (.int .u8 0), 1, 1) := by kernel_rfl

theorem owns_form' {w : World} {base : Nat} {e : TypeId} {s : Nat} {v : Value} {n : Nat} {xs : List Value} (h : w.ownsRow base e s v n xs) : ∃ ao cap, v = .slice ao n cap := by
  rcases h.2 with ⟨rfl, h0⟩ | ⟨g, cap, cur, rfl, _⟩
  · exact ⟨none, 0, by rw [h0]⟩
  · exact ⟨_, _, rfl⟩

theorem snew_bad (n : Int) (h : n < 1 ∨ 63 < n) (w : World) :
    Calls Tryz.prog 19 #[.int .i64 n] w fun e w' => e = .returned (.tuple #[.pointer none, .int .i64 1]) ∧ w = w' := by
  rcases h with h | h
  · go_enter Tryz.func19, Tryz.ntmps19
    go_wp2
    go_ret2
    exact ⟨rfl, rfl⟩
  · have h1 : ¬ n < 1 := by omega
    go_enter Tryz.func19, Tryz.ntmps19
    go_wp2
    go_ret2
    exact ⟨rfl, rfl⟩

theorem snew_ok (n : Nat) (h1 : 1 ≤ n) (h2 : n ≤ 63) (w : World) :
    Calls Tryz.prog 19 #[.int .i64 n] w fun e w' => e = .returned (.tuple #[.pointer (some ⟨w.heap.size, 0, none⟩), .int .i64 0]) ∧ SndAt (fun k => k = w.heap.size) w' w.heap.size ⟨n, 0, [], 0⟩ ∧ Below w.heap.size w w' := by
  go_enter Tryz.func19, Tryz.ntmps19
  go_wp2
  go_ret2
  refine ⟨rfl, ⟨fun k hk => by subst hk; simp, rfl, .slice none 0 0, [], fun _ => False, heap_alloc_new _ _, ArrAt.nil _ _, rfl, fun k hk => by simp [Value.ownBlock] at hk, fun _ h => h.elim, fun i x p hx => by simp at hx⟩, bl_alloc (bl_refl w) _⟩

theorem slen_any (F : Nat → Prop) (a : Nat) (s : Snd) (w : World) (hs : SndAt F w a s) :
    Calls Tryz.prog 37 #[.pointer (some ⟨a, 0, none⟩)] w fun e w' => e = .returned (.int .i64 s.ps.length) ∧ w = w' := by
  obtain ⟨h1, h2, av, vs, D, hb, hA, hl, hav, hD, hp⟩ := hs
  obtain ⟨ao, cap, rfl, _⟩ := hA.form
  rw [hl] at hb
  obtain ⟨c0, c1, c2, c3⟩ := cells_of4 hb
  clear hp hav hD h1 hA hl
  go_enter Tryz.func37, Tryz.ntmps37
  go_wp2
  go_ret
  exact ⟨rfl, rfl⟩

end Go.Proofs.YthmdibagcbbgoaaGreat
