/- A sender and a row of slices side by side, both the call's own; portagelaw07.cut. Conditions: none. -/
import Derived.WalkKit
import Derived.Lib.Hide
import Derived.Test.YtgfcppjahebidaaSndAwake
import Derived.Test.YtgfcppjahebidaaOpenActs
import Derived.Test.YtgfcppjahebidaaLawSndRooms
namespace Go.Proofs.Ytgfcppjahebidaa
open Go.RowKit

theorem cut_any {B : Nat} {w : World} {v : Value} {l : List Act3} (h : ActsAt B w v l) :
    Calls Try.prog 15 #[v] w fun e w' => ∃ v' l', e = .returned v' ∧ l'.length ≤ 300 ∧ (∀ W, ActsAt B W v l → ActsAt B W v' l') ∧ w = w' := by
  obtain ⟨ao, cap, rfl, hlc, hm⟩ : ∃ ao cap, v = .slice ao l.length cap ∧ l.length ≤ cap ∧ l.length ≤ maxLen := by
    obtain ⟨hm, ao, cap, hv, hl, _⟩ := h
    exact ⟨ao, cap, hv, hl, hm⟩
  by_cases hl : 300 < l.length
  · have ha : ∀ W, ActsAt B W (.slice ao l.length cap) l → ActsAt B W (.slice ao 300 cap) (l.take 300) := fun W h => h.take 300 (by omega)
    clear h
    go_enter Try.func15, Try.ntmps15
    go_wp2
    go_ret
    exact ⟨_, _, rfl, by rw [List.length_take]; omega, ha, rfl⟩
  · go_enter Try.func15, Try.ntmps15
    go_wp2
    go_ret
    exact ⟨_, _, rfl, by omega, fun _ h => h, rfl⟩

theorem owns_fr {F : Nat → Prop} {w w' : World} {base : Nat} {e : TypeId} {s : Nat} {v : Value} {n : Nat} {xs : List Value} (h : w.ownsRow base e s v n xs) (hf : Fr F w w') (hn : ∀ k, v.ownBlock = some k → ¬ F k) : w'.ownsRow base e s v n xs := by
  refine ⟨h.1, ?_⟩
  rcases h.2 with h | ⟨g, cap, cur, rfl, hb, hg, r⟩
  · exact .inl h
  · exact .inr ⟨g, cap, cur, rfl, hb, hf.get hg (hn g rfl), r⟩

/-- A sender that is the call's own, and a row of the call's own beside it. -/
def Both (w : World) (g : Nat) (s : Snd) (v : Value) (vs : List Value) (wr : World) : Prop :=
  ∃ F : Nat → Prop, (∀ k, F k → w.heap.size ≤ k) ∧ SndAt F wr g s ∧ wr.ownsRow w.heap.size 28 1 v vs.length vs ∧ (∀ k, v.ownBlock = some k → ¬ F k) ∧ Below w.heap.size w wr
theorem Both.bl {w wr : World} {g : Nat} {s : Snd} {v : Value} {vs : List Value} (h : Both w g s v vs wr) : Below w.heap.size w wr := by
  obtain ⟨F, _, _, _, _, hB⟩ := h
  exact hB
theorem Both.below {w wr w' : World} {g : Nat} {s : Snd} {v : Value} {vs : List Value} (h : Both w g s v vs wr) (hb : Below wr.heap.size wr w') : Both w g s v vs w' := by
  obtain ⟨F, hF, hs, hO, hn, hB⟩ := h
  exact ⟨F, hF, hs.below hb, owns_fr (F := fun _ => False) hO (.of_below hb) (fun _ _ h => h), hn, bl_trans hB hb⟩
theorem Both.alloc {w wr : World} {g : Nat} {s : Snd} {v : Value} {vs : List Value} (h : Both w g s v vs wr) (o : Obj) : Both w g s v vs (wr.alloc o) := h.below (bl_alloc (bl_refl wr) o)
theorem Both.start {w wr : World} {g : Nat} {s : Snd} (h : Mine w g s wr) (e : Array Value) (he : e = #[]) : Both w g s (.slice (some ⟨wr.heap.size, 0, none⟩) 0 0) [] (wr.alloc (.cells e 28)) := by
  subst he
  obtain ⟨⟨F, hF, hs⟩, hB⟩ := h
  exact ⟨F, hF, hs.below (bl_alloc (bl_refl wr) _), owns_empty wr 28 hB.size, fun k hk => by
    simp [Value.ownBlock] at hk
    subst hk
    intro h
    have := hs.1 _ h
    omega, bl_alloc hB _⟩
theorem Both.push {w wr : World} {g : Nat} {s : Snd} {v : Value} {vs : List Value} (h : Both w g s v vs wr) {u : Value} {p : List Int} (hr : Reads (Value.int .u8) wr u p) (hw : ∀ n ∈ p, (Lit.int .u8 n).wf = true) :
    Calls Try.prog 11 #[.pointer (some ⟨g, 0, none⟩), u] wr fun e w' => e = .returned (.int .i64 (s.pushE p)) ∧ Both w g (s.push p) v vs w' ∧ Below w.heap.size wr w' := by
  obtain ⟨F, hF, hs, hO, hn, hB⟩ := h
  refine (spush_any F g s u p wr hs hr hw).mono ?_
  rintro e w' ⟨rfl, hs', hFr⟩
  refine ⟨rfl, ⟨_, fun k hk => ?_, hs', owns_fr hO hFr (fun k hk e => ?_), fun k hk h => ?_, bl_fr hB hFr (by intro i hi; rw [hi]; exact hF g hs.2.1)⟩, ⟨hFr.os, hFr.tape, hFr.output, hFr.size, fun k hk => hFr.block k (Nat.lt_of_lt_of_le hk hB.size) (by intro e; have := hF g hs.2.1; omega)⟩⟩
  · rcases hk with hk | hk
    · exact hF k hk
    · have := hB.size; omega
  · exact hn k hk (by rw [e]; exact hs.2.1)
  · have := hO.lt k hk
    rcases h with h | h
    · exact hn k hk h
    · omega
theorem Both.send {w wr : World} {g : Nat} {s : Snd} {v : Value} {vs : List Value} (h : Both w g s v vs wr) (hok : s.Ok) :
    Calls Try.prog 13 #[.pointer (some ⟨g, 0, none⟩)] wr fun e w' => ∃ u, e = .returned (.tuple #[.int .i64 s.sendN, u, .bool s.can]) ∧ Byt (fun k => wr.heap.size ≤ k) w' u s.sendP ∧ Both w g s.send v vs w' := by
  obtain ⟨F, hF, hs, hO, hn, hB⟩ := h
  refine (ssend_any F g s hok wr hs).mono ?_
  rintro e w' ⟨u, rfl, hu, hs', hFr⟩
  exact ⟨u, rfl, hu, F, hF, hs', owns_fr hO hFr (fun k hk e => hn k hk (by rw [e]; exact hs.2.1)), hn, bl_fr hB hFr (by intro i hi; rw [hi]; exact hF g hs.2.1)⟩
theorem Both.ack {w wr : World} {g : Nat} {s : Snd} {v : Value} {vs : List Value} (h : Both w g s v vs wr) (hok : s.Ok) (nr : Int) :
    Calls Try.prog 14 #[.pointer (some ⟨g, 0, none⟩), .int .i64 nr] wr fun e w' => e = .returned (.tuple #[.int .i64 (s.ackN nr), .int .i64 (s.ackE nr)]) ∧ Both w g (s.ack nr) v vs w' := by
  obtain ⟨F, hF, hs, hO, hn, hB⟩ := h
  refine (sack_any F g s hok nr wr hs).mono ?_
  rintro e w' ⟨rfl, hs', hFr⟩
  exact ⟨rfl, F, hF, hs', owns_fr hO hFr hn, hn, bl_fr hB hFr hF⟩
theorem Both.under {w wr : World} {g : Nat} {s : Snd} {v : Value} {vs : List Value} (h : Both w g s v vs wr) (hok : s.Ok) :
    Calls Try.prog 16 #[.pointer (some ⟨g, 0, none⟩)] wr fun e w' => ∃ ao cap, e = .returned (.slice ao s.under cap) ∧ Reads (Value.int .i64) w' (.slice ao s.under cap) s.unders ∧ Both w g s v vs w' := by
  obtain ⟨F, hF, hs, hO, hn, hB⟩ := h
  refine (sunder_any F g s hok wr hs).mono ?_
  rintro e w' ⟨u, rfl, hu, hb⟩
  obtain ⟨ao, cap, rfl⟩ : ∃ ao cap, u = .slice ao s.under cap := by
    obtain ⟨⟨_, ao, cap, rfl, _⟩, _⟩ := hu
    exact ⟨ao, cap, by simp [Snd.unders, vals, win_length]⟩
  exact ⟨ao, cap, rfl, hu.1, Both.below ⟨F, hF, hs, hO, hn, hB⟩ hb⟩
theorem Both.len {w wr : World} {g : Nat} {s : Snd} {v : Value} {vs : List Value} (h : Both w g s v vs wr) :
    Calls Try.prog 12 #[.pointer (some ⟨g, 0, none⟩)] wr fun e w' => e = .returned (.int .i64 s.ps.length) ∧ wr = w' := by
  obtain ⟨F, hF, hs, _⟩ := h
  exact slen_any F g s wr hs
theorem Both.base {w wr : World} {g : Nat} {s : Snd} {v : Value} {vs : List Value} (h : Both w g s v vs wr) :
    Calls Try.prog 17 #[.pointer (some ⟨g, 0, none⟩)] wr fun e w' => e = .returned (.int .i64 s.base) ∧ wr = w' := by
  obtain ⟨F, hF, hs, _⟩ := h
  exact sbase_any F g s wr hs
theorem Both.owns {w wr : World} {g : Nat} {s : Snd} {v : Value} {vs : List Value} (h : Both w g s v vs wr) : wr.ownsRow w.heap.size 28 1 v vs.length vs := by
  obtain ⟨F, hF, hs, hO, _⟩ := h
  exact hO
/-- The row grew by one. -/
theorem Both.grown {w wr w' : World} {g : Nat} {s : Snd} {v v' x : Value} {vs : List Value} (h : Both w g s v vs wr) (hO' : w'.ownsRow w.heap.size 28 1 v' (vs.length + 1) (vs ++ [x])) (hg : wr.grownBy w' v.ownBlock) (hk : ∀ K, K < wr.heap.size → some K ≠ v.ownBlock → some K ≠ v'.ownBlock) : Both w g s v' (vs ++ [x]) w' := by
  obtain ⟨F, hF, hs, hO, hn, hB⟩ := h
  have hFr : Fr (fun k => v.ownBlock = some k) wr w' := (Fr.refl _ _).grown hg (fun k hk => .inl hk)
  refine ⟨F, hF, hs.fr hFr (fun k hk h => hn k h hk), by rw [List.length_append]; exact hO', fun k hk' h => ?_, bl_fr hB hFr (fun k hk => (hO.lt k hk).1)⟩
  exact hk k (hs.1 k h) (fun e => hn k e.symm h) hk'.symm
/-- An element's cell. -/
theorem Both.at_ {w wr : World} {g : Nat} {s : Snd} {v : Value} {vs : List Value} (h : Both w g s v vs wr) {i : Nat} {x : Value} (hx : vs[i]? = some x) : ∃ k cap, v = .slice (some ⟨k, 0, none⟩) vs.length cap ∧ wr.cell? ⟨k, i, none⟩ = some x := by
  obtain ⟨F, hF, hs, hO, hn, hB⟩ := h
  rcases hO.2 with ⟨_, h0⟩ | ⟨k, cap, cur, rfl, _, hg, _, _, _, ht⟩
  · rw [List.eq_nil_of_length_eq_zero h0] at hx
    simp at hx
  · refine ⟨k, cap, rfl, ?_⟩
    have hl := (List.getElem?_eq_some_iff.1 hx).1
    rw [cell_of_row _ _ _ _ _ _ hg]
    rw [← ht, List.getElem?_take, if_pos (by omega)] at hx
    simpa using hx

end Go.Proofs.Ytgfcppjahebidaa
