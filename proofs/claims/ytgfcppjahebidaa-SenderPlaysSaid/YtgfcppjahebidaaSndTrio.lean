/- A sender, a row of slices and their bytes side by side, all the call's own; portageref03.Same at two lists that are one. Conditions: none. -/
import Derived.WalkKit
import Derived.Lib.Hide
import Derived.BigQuiet
import Derived.Test.YtgfcppjahebidaaSndBoth
import Derived.Test.YtgfcppjahebidaaSndReset
namespace Go.Proofs.Ytgfcppjahebidaa
open Go.RowKit

/-- A slice of slices of bytes reads as a list of lists. -/
def Lst (w : World) (v : Value) (ps : List (List Int)) : Prop :=
  ∃ vs : List Value, vs.length = ps.length ∧ Reads id w v vs ∧ ∀ (i : Nat) (x : Value) (p : List Int), vs[i]? = some x → ps[i]? = some p → Reads (Value.int .u8) w x p
theorem Lst.of_pays {F : Nat → Prop} {w : World} {v : Value} {ps : List (List Int)} (h : Pays F w v ps) : Lst w v ps := by
  obtain ⟨vs, h1, h2, h3⟩ := h
  exact ⟨vs, h1, h2.1, fun i x p hx hp => (h3 i x p hx hp).1.1⟩
theorem Lst.below {w w' : World} {v : Value} {ps : List (List Int)} (h : Lst w v ps) (hb : Below w.heap.size w w') : Lst w' v ps := by
  obtain ⟨vs, h1, h2, h3⟩ := h
  exact ⟨vs, h1, h2.below hb, fun i x p hx hp => (h3 i x p hx hp).below hb⟩
theorem Lst.form {w : World} {v : Value} {ps : List (List Int)} (h : Lst w v ps) : ∃ ao cap, v = .slice ao ps.length cap ∧ ps.length ≤ cap ∧ ps.length ≤ maxLen := by
  obtain ⟨vs, h1, ⟨hm, ao, cap, rfl, ⟨hc, _⟩, _⟩, _⟩ := h
  exact ⟨ao, cap, by rw [h1], by omega, by omega⟩
theorem Lst.at_ {w : World} {ao : Option Addr} {n cap : Nat} {ps : List (List Int)} (h : Lst w (.slice ao n cap) ps) {i : Nat} {p : List Int} (hp : ps[i]? = some p) :
    ∃ b o x, ao = some ⟨b, o, none⟩ ∧ w.cell? ⟨b, o + i, none⟩ = some x ∧ Reads (Value.int .u8) w x p := by
  obtain ⟨vs, h1, ⟨hm, ao', cap', hv, _, hc⟩, h3⟩ := h
  cases hv
  have hi : i < ps.length := (List.getElem?_eq_some_iff.1 hp).1
  obtain ⟨x, hx⟩ := get_some (xs := vs) (k := i) (by omega)
  obtain ⟨b, o, rfl, hcell⟩ := hc i x hx
  exact ⟨b, o, x, rfl, hcell, h3 i x p hx hp⟩

set_option maxRecDepth 100000 in
set_option maxHeartbeats 1000000 in
theorem same03_eq (v u : Value) (ps : List (List Int)) (w : World) (h1 : Lst w v ps) (h2 : Lst w u ps) :
    Calls Try.prog 19 #[v, u] w fun e w' => e = .returned (.bool true) ∧ Below w.heap.size w w' := by
  obtain ⟨ao1, cap1, rfl, hc1, hm1⟩ := h1.form
  obtain ⟨ao2, cap2, rfl, hc2, _⟩ := h2.form
  simp only [maxLen] at hm1
  go_enter Try.func19, Try.ntmps19
  go_wp2
  go_loopw [5] (fun k wr => ∃ i : Nat, i ≤ ps.length ∧ k = .int .i64 i ∧ Below w.heap.size w wr) (fun k _ => ps.length - (intOf k).toNat)
  case atStart => exact ⟨0, by omega, rfl, Below.refl _ _⟩
  case round =>
    obtain ⟨k, hk, rfl, hB⟩ := hrel
    by_cases hlt : k < ps.length
    · obtain ⟨p, hp⟩ := get_some hlt
      obtain ⟨b1, o1, x1, rfl, hx1, hr1⟩ := (h1.below hB).at_ hp
      obtain ⟨b2, o2, x2, rfl, hx2, hr2⟩ := (h2.below hB).at_ hp
      have i1 : (k : Int) < (ps.length : Int) := by omega
      have v1 : ∀ nq, (convert 28 9 x1).run Try.prog (wr.drewN nq) = .ok (.string (strOfNums p)) (wr.drewN nq) := fun nq => conv_reads (hr1.below (bl_drewN (bl_refl _) nq))
      have v2 : ∀ nq, (convert 28 9 x2).run Try.prog (wr.drewN nq) = .ok (.string (strOfNums p)) (wr.drewN nq) := fun nq => conv_reads (hr2.below (bl_drewN (bl_refl _) nq))
      clear hp hr1 hr2 h1 h2
      go_wp2_with fail
      go_quiet (fail)
      go_wp2
      go_roundw
      case rel => exact ⟨k + 1, by omega, by go_num, below_drewN hB _⟩
      case measure => simp [intOf]; omega
    · obtain rfl : k = ps.length := by omega
      clear h1 h2
      go_wp2
      go_ret
      exact ⟨rfl, hB⟩

/-- A sender, a row of slices, and their bytes, all of it the call's own and apart. -/
def Trio (w : World) (g : Nat) (s : Snd) (v : Value) (vs : List Value) (qs : List (List Int)) (wr : World) : Prop :=
  ∃ F D : Nat → Prop, (∀ k, F k → w.heap.size ≤ k) ∧ SndAt F wr g s ∧ wr.ownsRow w.heap.size 28 1 v vs.length vs ∧ vs.length = qs.length ∧ (∀ k, v.ownBlock = some k → ¬ F k ∧ ¬ D k) ∧ (∀ k, D k → k < wr.heap.size ∧ ¬ F k) ∧
    (∀ (i : Nat) (x : Value) (p : List Int), vs[i]? = some x → qs[i]? = some p → Byt D wr x p) ∧ Below w.heap.size w wr
section
variable {w wr w' : World} {g : Nat} {s : Snd} {v : Value} {vs : List Value} {qs : List (List Int)}
theorem Trio.bl (h : Trio w g s v vs qs wr) : Below w.heap.size w wr := by
  obtain ⟨F, D, _, _, _, _, _, _, _, hB⟩ := h
  exact hB
theorem Trio.len' (h : Trio w g s v vs qs wr) : vs.length = qs.length := by
  obtain ⟨F, D, _, _, _, hl, _⟩ := h
  exact hl
theorem Trio.owns (h : Trio w g s v vs qs wr) : wr.ownsRow w.heap.size 28 1 v vs.length vs := by
  obtain ⟨F, D, _, _, hO, _⟩ := h
  exact hO
/-- One step of the sender's: what it writes lies in G, which is neither the row's nor the bytes'. -/
theorem Trio.step (h : Trio w g s v vs qs wr) : ∃ F : Nat → Prop, (∀ k, F k → w.heap.size ≤ k) ∧ SndAt F wr g s ∧ ∀ (F' G : Nat → Prop) (s' : Snd) (w' : World), (∀ k, F' k → F k ∨ wr.heap.size ≤ k) → (∀ k, G k → F k) → SndAt F' w' g s' → Fr G wr w' → Trio w g s' v vs qs w' := by
  obtain ⟨F, D, hF, hs, hO, hl, hn, hD, hp, hB⟩ := h
  refine ⟨F, hF, hs, fun F' G s' w' hF' hG hs' hFr => ?_⟩
  refine ⟨F', D, fun k hk => ?_, hs', owns_fr hO hFr (fun k hk h => (hn k hk).1 (hG k h)), hl, fun k hk => ⟨fun h => ?_, (hn k hk).2⟩, fun k hk => ⟨Nat.lt_of_lt_of_le (hD k hk).1 hFr.size, fun h => ?_⟩, fun i x p hx hq => (hp i x p hx hq).fr hFr (fun k hk h => (hD k hk).2 (hG k h)), bl_fr hB hFr (fun k hk => hF k (hG k hk))⟩
  · have := hB.size
    rcases hF' k hk with h | h
    · exact hF k h
    · omega
  · have := hO.lt k hk
    rcases hF' k h with h | h
    · exact (hn k hk).1 h
    · omega
  · have := (hD k hk).1
    rcases hF' k h with h | h
    · exact (hD k hk).2 h
    · omega
theorem Trio.below (h : Trio w g s v vs qs wr) (hb : Below wr.heap.size wr w') : Trio w g s v vs qs w' := by
  obtain ⟨F, hF, hs, hst⟩ := h.step
  exact hst F (fun _ => False) s w' (fun k hk => .inl hk) (fun k h => h.elim) (hs.below hb) (.of_below hb)
theorem Trio.push (h : Trio w g s v vs qs wr) {u : Value} {p : List Int} (hr : Reads (Value.int .u8) wr u p) (hw : ∀ n ∈ p, (Lit.int .u8 n).wf = true) :
    Calls Try.prog 11 #[.pointer (some ⟨g, 0, none⟩), u] wr fun e w' => e = .returned (.int .i64 (s.pushE p)) ∧ Trio w g (s.push p) v vs qs w' ∧ Below w.heap.size wr w' := by
  obtain ⟨F, hF, hs, hst⟩ := h.step
  have hsz := h.bl.size
  refine (spush_any F g s u p wr hs hr hw).mono ?_
  rintro e w' ⟨rfl, hs', hFr⟩
  exact ⟨rfl, hst _ _ _ _ (fun k hk => by rcases hk with hk | hk; exact .inl hk; exact .inr hk.1) (fun k hk => by rw [hk]; exact hs.2.1) hs' hFr, ⟨hFr.os, hFr.tape, hFr.output, hFr.size, fun k hk => hFr.block k (Nat.lt_of_lt_of_le hk hsz) (by intro e; have := hF g hs.2.1; omega)⟩⟩
theorem Trio.send (h : Trio w g s v vs qs wr) (hok : s.Ok) :
    Calls Try.prog 13 #[.pointer (some ⟨g, 0, none⟩)] wr fun e w' => ∃ u, e = .returned (.tuple #[.int .i64 s.sendN, u, .bool s.can]) ∧ Byt (fun k => wr.heap.size ≤ k) w' u s.sendP ∧ Trio w g s.send v vs qs w' := by
  obtain ⟨F, hF, hs, hst⟩ := h.step
  refine (ssend_any F g s hok wr hs).mono ?_
  rintro e w' ⟨u, rfl, hu, hs', hFr⟩
  exact ⟨u, rfl, hu, hst _ _ _ _ (fun k hk => .inl hk) (fun k hk => by rw [hk]; exact hs.2.1) hs' hFr⟩
theorem Trio.ack (h : Trio w g s v vs qs wr) (hok : s.Ok) (nr : Int) :
    Calls Try.prog 14 #[.pointer (some ⟨g, 0, none⟩), .int .i64 nr] wr fun e w' => e = .returned (.tuple #[.int .i64 (s.ackN nr), .int .i64 (s.ackE nr)]) ∧ Trio w g (s.ack nr) v vs qs w' := by
  obtain ⟨F, hF, hs, hst⟩ := h.step
  refine (sack_any F g s hok nr wr hs).mono ?_
  rintro e w' ⟨rfl, hs', hFr⟩
  exact ⟨rfl, hst _ _ _ _ (fun k hk => .inl hk) (fun k hk => hk) hs' hFr⟩
theorem Trio.reset (h : Trio w g s v vs qs wr) :
    Calls Try.prog 18 #[.pointer (some ⟨g, 0, none⟩)] wr fun e w' => ∃ u, e = .returned u ∧ Lst w' u s.ps ∧ Trio w g ⟨s.size, 0, [], 0⟩ v vs qs w' := by
  obtain ⟨F, hF, hs, hst⟩ := h.step
  refine (sreset_any F g s wr hs).mono ?_
  rintro e w' ⟨u, rfl, hu, hs', hFr⟩
  exact ⟨u, rfl, .of_pays hu, hst _ _ _ _ (fun k hk => .inl hk) (fun k hk => by rw [hk]; exact hs.2.1) hs' hFr⟩
theorem Trio.under (h : Trio w g s v vs qs wr) (hok : s.Ok) :
    Calls Try.prog 16 #[.pointer (some ⟨g, 0, none⟩)] wr fun e w' => ∃ ao cap, e = .returned (.slice ao s.under cap) ∧ Reads (Value.int .i64) w' (.slice ao s.under cap) s.unders ∧ Trio w g s v vs qs w' := by
  obtain ⟨F, hF, hs, hst⟩ := h.step
  refine (sunder_any F g s hok wr hs).mono ?_
  rintro e w' ⟨u, rfl, hu, hb⟩
  obtain ⟨ao, cap, rfl⟩ : ∃ ao cap, u = .slice ao s.under cap := by
    obtain ⟨⟨_, ao, cap, rfl, _⟩, _⟩ := hu
    exact ⟨ao, cap, by simp [Snd.unders, vals, win_length]⟩
  exact ⟨ao, cap, rfl, hu.1, h.below hb⟩
theorem Trio.len (h : Trio w g s v vs qs wr) :
    Calls Try.prog 12 #[.pointer (some ⟨g, 0, none⟩)] wr fun e w' => e = .returned (.int .i64 s.ps.length) ∧ wr = w' := by
  obtain ⟨F, hF, hs, _⟩ := h.step
  exact slen_any F g s wr hs
theorem Trio.base (h : Trio w g s v vs qs wr) :
    Calls Try.prog 17 #[.pointer (some ⟨g, 0, none⟩)] wr fun e w' => e = .returned (.int .i64 s.base) ∧ wr = w' := by
  obtain ⟨F, hF, hs, _⟩ := h.step
  exact sbase_any F g s wr hs
theorem Trio.start (h : Mine w g s wr) (e : Array Value) (he : e = #[]) : Trio w g s (.slice (some ⟨wr.heap.size, 0, none⟩) 0 0) [] [] (wr.alloc (.cells e 28)) := by
  obtain ⟨F, hF, hs, hO, hn, hB⟩ := Both.start h e he
  exact ⟨F, fun _ => False, hF, hs, hO, rfl, fun k hk => ⟨hn k hk, fun h => h⟩, fun k h => h.elim, fun i x p hx => by simp at hx, hB⟩
/-- The row grew by one slice, whose bytes are new. -/
theorem Trio.grown (h : Trio w g s v vs qs wr) {w1 w2 : World} {v' x : Value} {p : List Int} (hb : Below wr.heap.size wr w1) (hx : Byt (fun k => wr.heap.size ≤ k ∧ k < w1.heap.size) w1 x p)
    (hO' : w2.ownsRow w.heap.size 28 1 v' (vs.length + 1) (vs ++ [x])) (hg : w1.grownBy w2 v.ownBlock) (hk : ∀ K, K < w1.heap.size → some K ≠ v.ownBlock → some K ≠ v'.ownBlock) : Trio w g s v' (vs ++ [x]) (qs ++ [p]) w2 := by
  obtain ⟨F, D, hF, hs, hO, hl, hn, hD, hp, hB⟩ := h
  have hFr : Fr (fun k => v.ownBlock = some k) w1 w2 := (Fr.refl _ _).grown hg (fun k hk => .inl hk)
  have hs1 := hs.1
  have hsz := hb.size
  refine ⟨F, fun k => D k ∨ (wr.heap.size ≤ k ∧ k < w1.heap.size), hF, (hs.below hb).fr hFr (fun k hk h => (hn k h).1 hk), by rw [List.length_append]; exact hO', by simp [hl], fun k hk' => ⟨fun h => ?_, fun h => ?_⟩, fun k h => ⟨?_, fun h2 => ?_⟩, fun i y q hy hq => ?_, bl_fr (bl_trans hB hb) hFr (fun k hk => (hO.lt k hk).1)⟩
  · have := hs1 k h
    exact hk k (by omega) (fun e => (hn k e.symm).1 h) hk'.symm
  · rcases h with h | h
    · have := (hD k h).1
      exact hk k (by omega) (fun e => (hn k e.symm).2 h) hk'.symm
    · exact hk k (by omega) (fun e => by have := (hO.lt k e.symm).2; omega) hk'.symm
  · have := hFr.size
    rcases h with h | h
    · have := (hD k h).1
      omega
    · omega
  · rcases h with h | h
    · exact (hD k h).2 h2
    · have := hs1 k h2
      omega
  · by_cases hj : i < vs.length
    · rw [List.getElem?_append_left hj] at hy
      rw [List.getElem?_append_left (by rw [← hl]; exact hj)] at hq
      exact (((hp i y q hy hq).below hb).fr hFr (fun k hk h => (hn k h).2 hk)).mono (fun k hk => .inl hk)
    · have hlt := (List.getElem?_eq_some_iff.1 hy).1
      have e : i = vs.length := by simp at hlt; omega
      subst e
      rw [List.getElem?_append_right (Nat.le_refl _), Nat.sub_self] at hy
      rw [hl, List.getElem?_append_right (Nat.le_refl _), Nat.sub_self] at hq
      cases hy
      cases hq
      exact (hx.fr hFr (fun k hk h => by have := (hO.lt k h).2; omega)).mono (fun k hk => .inr hk)
/-- The row, cut: what is behind the first k. -/
theorem Trio.drop (h : Trio w g s v vs qs wr) (k : Nat) (hk : k ≤ qs.length) : ∃ ao cap, v = .slice ao vs.length cap ∧ k ≤ vs.length ∧ vs.length ≤ cap ∧ Lst wr (.slice (if cap = k then ao else ao.map (·.add k)) (vs.length - k) (cap - k)) (qs.drop k) := by
  obtain ⟨F, D, hF, hs, hO, hl, hn, hD, hp, hB⟩ := h
  rcases hO.2 with ⟨rfl, h0⟩ | ⟨a, cap, cur, rfl, _, hg, hle, hcm, _, ht⟩
  · refine ⟨none, 0, by rw [h0], by omega, by omega, [], ?_, ?_, fun i x p hx => by simp at hx⟩
    · rw [List.length_drop]; simp; omega
    · have : k = 0 := by omega
      subst this
      rw [h0]
      exact Reads.nil _ _
  · refine ⟨_, cap, rfl, by omega, hle, vs.drop k, by simp [hl], ?_, fun i x p hx hq => ?_⟩
    · refine ⟨by rw [List.length_drop]; omega, _, _, by rw [List.length_drop], ⟨by rw [List.length_drop]; omega, fun h => by split at h <;> simp at h⟩, fun i x hx => ?_⟩
      rw [List.getElem?_drop] at hx
      have hlt := (List.getElem?_eq_some_iff.1 hx).1
      rw [if_neg (by omega)]
      refine ⟨a, 0 + k, by rw [← Addr.add_lit a 0 k]; rfl, ?_⟩
      rw [cell_of_row _ _ _ _ _ _ hg, Nat.zero_add]
      rw [← ht, List.getElem?_take, if_pos (by omega)] at hx
      simpa using hx
    · rw [List.getElem?_drop] at hx hq
      exact (hp (k + i) x p hx hq).1.1
end

end Go.Proofs.Ytgfcppjahebidaa
