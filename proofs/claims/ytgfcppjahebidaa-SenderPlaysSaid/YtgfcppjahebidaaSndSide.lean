/- A sender and a row of strings side by side, both the call's own; which numbers are under way. Conditions: none. -/
import Derived.WalkKit
import Derived.Lib.Hide
import Derived.Laws.MakeOwn
import Derived.Test.YtgfcppjahebidaaSndBoth
import Derived.Test.YtgfcppjahebidaaSndAgain
namespace Go.Proofs.Ytgfcppjahebidaa
open Go.RowKit

theorem has_win (base : Int) (h0 : 0 ≤ base) (h1 : base < 128) (n : Int) (n0 : 0 ≤ n) (n1 : n < 128) : ∀ m : Nat, m ≤ 128 → hasN (vals (win base m)) n = decide ((n - base) % 128 < (m : Int))
  | 0, _ => by
    have : ¬ (n - base) % 128 < ((0 : Nat) : Int) := by omega
    simp [win, vals, hasN]
    omega
  | m + 1, hm => by
    have ih := has_win base h0 h1 n n0 n1 m (by omega)
    have e : vals (win base (m + 1)) = vals (win base m) ++ [(base + (m : Int)) % 128] := by simp [win, vals, red]
    rw [e, hasN_snoc, ih]
    by_cases hl : (n - base) % 128 < (m : Int)
    · have h2 : (n - base) % 128 < ((m + 1 : Nat) : Int) := by omega
      rw [decide_eq_true h2, decide_eq_true hl, Bool.true_or]
    · by_cases he : (base + (m : Int)) % 128 % 128 = n
      · have h2 : (n - base) % 128 < ((m + 1 : Nat) : Int) := by omega
        rw [decide_eq_true h2, decide_eq_false hl]
        simp [he]
      · have h2 : ¬ (n - base) % 128 < ((m + 1 : Nat) : Int) := by omega
        rw [decide_eq_false h2, decide_eq_false hl]
        simpa using he
theorem has_under {s : Snd} (hok : s.Ok) (n : Nat) (hn : n < 128) : hasN s.unders (n : Int) = decide (s.againE n = 0) := by
  have hb := hok.base
  have h1 := hok.under2
  have h2 := hok.size2
  unfold Snd.unders
  rw [has_win s.base (by omega) (by omega) n (by omega) (by omega) s.under (by omega)]
  unfold Snd.againE
  rw [if_neg (by omega)]
  by_cases h : ((n : Int) - s.base) % 128 < (s.under : Int) <;> simp [h]

theorem infoStr : (Try.prog.info? 9).map (fun i => (i.zero, i.size, i.bytes)) = some (some (.string ⟨#[]⟩), 1, 16) := by kernel_rfl
/-- 128 strings with nothing in them. -/
def strRow : Array Value := madeCells (Value.string ⟨#[]⟩).cells (128 * 1)
theorem strRow_size : strRow.size = 128 := size_madeCells _ _
theorem make_strs (W : World) : (Instr.makeSlice 46 (.int .i64 128) (.int .i64 128)).run Try.prog W = .ok (.slice (some ⟨W.heap.size, 0, none⟩) 128 128) (W.alloc (.cells strRow 9)) := by
  obtain ⟨i0, hi, hz0, hz1, hz2⟩ := info_parts infoStr
  have := run_make (P := Try.prog) W 46 9 i0 (.string ⟨#[]⟩) Try.underlying46 hi hz0 .i64 .i64 128 128 (by omega) (by omega) (by rw [hz2]; decide) (by decide)
  rw [hz1] at this
  exact this

/-- A sender that is the call's own, and a row of strings of the call's own beside it. -/
def Side (w : World) (g h : Nat) (s : Snd) (cur : Array Value) (wr : World) : Prop :=
  ∃ F : Nat → Prop, (∀ k, F k → w.heap.size ≤ k) ∧ SndAt F wr g s ∧ ¬ F h ∧ w.heap.size ≤ h ∧ wr.heap[h]? = some (.cells cur 9 (0, 0)) ∧ Below w.heap.size w wr
section
variable {w wr w' : World} {g h : Nat} {s : Snd} {cur : Array Value}
theorem Side.bl (H : Side w g h s cur wr) : Below w.heap.size w wr := by
  obtain ⟨F, _, _, _, _, _, hB⟩ := H
  exact hB
theorem Side.row (H : Side w g h s cur wr) : wr.heap[h]? = some (.cells cur 9 (0, 0)) := by
  obtain ⟨F, _, _, _, _, hr, hB⟩ := H
  exact hr
theorem Side.step (H : Side w g h s cur wr) : ∃ F : Nat → Prop, (∀ k, F k → w.heap.size ≤ k) ∧ SndAt F wr g s ∧ ∀ (F' G : Nat → Prop) (s' : Snd) (w' : World), (∀ k, F' k → F k ∨ wr.heap.size ≤ k) → (∀ k, G k → F k) → SndAt F' w' g s' → Fr G wr w' → Side w g h s' cur w' := by
  obtain ⟨F, hF, hs, hn, hh, hr, hB⟩ := H
  refine ⟨F, hF, hs, fun F' G s' w' hF' hG hs' hFr => ⟨F', fun k hk => ?_, hs', fun k => ?_, hh, hFr.get hr (fun k => hn (hG _ k)), bl_fr hB hFr (fun k hk => hF k (hG k hk))⟩⟩
  · have := hB.size
    rcases hF' k hk with k1 | k1
    · exact hF k k1
    · omega
  · have := lt_of_get hr
    rcases hF' _ k with k1 | k1
    · exact hn k1
    · omega
theorem Side.below (H : Side w g h s cur wr) (hb : Below wr.heap.size wr w') : Side w g h s cur w' := by
  obtain ⟨F, hF, hs, hst⟩ := H.step
  exact hst F (fun _ => False) s w' (fun k hk => .inl hk) (fun k h => h.elim) (hs.below hb) (.of_below hb)
theorem Side.push (H : Side w g h s cur wr) {u : Value} {p : List Int} (hr : Reads (Value.int .u8) wr u p) (hw : ∀ n ∈ p, (Lit.int .u8 n).wf = true) :
    Calls Try.prog 11 #[.pointer (some ⟨g, 0, none⟩), u] wr fun e w' => e = .returned (.int .i64 (s.pushE p)) ∧ Side w g h (s.push p) cur w' := by
  obtain ⟨F, hF, hs, hst⟩ := H.step
  refine (spush_any F g s u p wr hs hr hw).mono ?_
  rintro e w' ⟨rfl, hs', hFr⟩
  exact ⟨rfl, hst _ _ _ _ (fun k hk => by rcases hk with hk | hk; exact .inl hk; exact .inr hk.1) (fun k hk => by rw [hk]; exact hs.2.1) hs' hFr⟩
theorem Side.send (H : Side w g h s cur wr) (hok : s.Ok) :
    Calls Try.prog 13 #[.pointer (some ⟨g, 0, none⟩)] wr fun e w' => ∃ u, e = .returned (.tuple #[.int .i64 s.sendN, u, .bool s.can]) ∧ Byt (fun k => wr.heap.size ≤ k) w' u s.sendP ∧ Side w g h s.send cur w' := by
  obtain ⟨F, hF, hs, hst⟩ := H.step
  refine (ssend_any F g s hok wr hs).mono ?_
  rintro e w' ⟨u, rfl, hu, hs', hFr⟩
  exact ⟨u, rfl, hu, hst _ _ _ _ (fun k hk => .inl hk) (fun k hk => by rw [hk]; exact hs.2.1) hs' hFr⟩
theorem Side.ack (H : Side w g h s cur wr) (hok : s.Ok) (nr : Int) :
    Calls Try.prog 14 #[.pointer (some ⟨g, 0, none⟩), .int .i64 nr] wr fun e w' => e = .returned (.tuple #[.int .i64 (s.ackN nr), .int .i64 (s.ackE nr)]) ∧ Side w g h (s.ack nr) cur w' := by
  obtain ⟨F, hF, hs, hst⟩ := H.step
  refine (sack_any F g s hok nr wr hs).mono ?_
  rintro e w' ⟨rfl, hs', hFr⟩
  exact ⟨rfl, hst _ _ _ _ (fun k hk => .inl hk) (fun k hk => hk) hs' hFr⟩
theorem Side.under (H : Side w g h s cur wr) (hok : s.Ok) :
    Calls Try.prog 16 #[.pointer (some ⟨g, 0, none⟩)] wr fun e w' => ∃ u, e = .returned u ∧ Reads (Value.int .i64) w' u s.unders ∧ Side w g h s cur w' := by
  obtain ⟨F, hF, hs, hst⟩ := H.step
  refine (sunder_any F g s hok wr hs).mono ?_
  rintro e w' ⟨u, rfl, hu, hb⟩
  exact ⟨u, rfl, hu.1, H.below hb⟩
theorem Side.again (H : Side w g h s cur wr) (hok : s.Ok) (ns : Int) :
    Calls Try.prog 20 #[.pointer (some ⟨g, 0, none⟩), .int .i64 ns] wr fun e w' => ∃ u, e = .returned (.tuple #[u, .int .i64 (s.againE ns)]) ∧ Reads (Value.int .u8) w' u (s.againP ns) ∧ Below wr.heap.size wr w' := by
  obtain ⟨F, hF, hs, hst⟩ := H.step
  refine (sagain_any F g s hok ns wr hs).mono ?_
  rintro e w' ⟨u, rfl, hu, hb⟩
  exact ⟨u, rfl, hu.1.1, hb⟩
theorem Side.start (H : Mine w g s wr) (cur : Array Value) : Side w g wr.heap.size s cur (wr.alloc (.cells cur 9)) := by
  obtain ⟨⟨F, hF, hs⟩, hB⟩ := H
  exact ⟨F, hF, hs.below (bl_alloc (bl_refl wr) _), fun h => by have := hs.1 _ h; omega, hB.size, heap_alloc_new _ _, bl_alloc hB _⟩
theorem Side.set (H : Side w g h s cur wr) (j : Nat) (x : Value) : Side w g h s (cur.setIfInBounds j x) (wr.setCell ⟨h, j, none⟩ x) := by
  obtain ⟨F, hF, hs, hn, hh, hr, hB⟩ := H
  have hf := fr_cell wr h j x
  exact ⟨F, hF, hs.fr hf (fun k hk e => hn (by rw [← e]; exact hk)), hn, hh, heap_set_box' _ _ _ _ _ _ hr, bl_fr hB hf (fun k hk => by rw [hk]; exact hh)⟩
end

/-- What holds ahead of each round: each number under way has its payload's string in the row. -/
structure AInv (s : Snd) (cur : Array Value) : Prop where
  ok : s.Ok
  size : cur.size = 128
  has : ∀ j, j < s.under → cur[(s.base + j) % 128]? = some (.string (strOfNums (s.ps.getD j [])))
theorem AInv.push {s : Snd} {cur : Array Value} (h : AInv s cur) (p : List Int) : AInv (s.push p) cur := by
  have hok := Snd.push_ok h.ok p
  by_cases hE : s.pushE p = 0
  · have hp : s.push p = { s with ps := s.ps ++ [p] } := by unfold Snd.push; rw [if_pos hE]
    rw [hp] at hok ⊢
    refine ⟨hok, h.size, fun j hj => ?_⟩
    have := h.ok.under1
    have hj' : j < s.under := hj
    show cur[(s.base + j) % 128]? = some (.string (strOfNums ((s.ps ++ [p]).getD j [])))
    rw [h.has j hj', List.getD_eq_getElem?_getD, List.getD_eq_getElem?_getD, List.getElem?_append_left (by omega)]
  · have hp : s.push p = s := by unfold Snd.push; rw [if_neg hE]
    rw [hp]
    exact h
theorem AInv.ack {s : Snd} {cur : Array Value} (h : AInv s cur) (nr : Int) : AInv (s.ack nr) cur := by
  have hok := Snd.ack_ok h.ok nr
  by_cases hE : s.ackE nr = 0
  · obtain ⟨hn, hm⟩ := ackE_zero hE
    obtain ⟨hN, hM⟩ := ackN_zero hE
    have ha : s.ack nr = ⟨s.size, nr.toNat, s.ps.drop (s.ackN nr), s.under - s.ackN nr⟩ := by unfold Snd.ack; rw [if_pos hE]
    rw [ha] at hok ⊢
    refine ⟨hok, h.size, fun j hj => ?_⟩
    have hj' : j < s.under - s.ackN nr := hj
    have hb := h.ok.base
    have := h.has (s.ackN nr + j) (by omega)
    show cur[(nr.toNat + j) % 128]? = some (.string (strOfNums ((s.ps.drop (s.ackN nr)).getD j [])))
    rw [List.getD_eq_getElem?_getD, List.getElem?_drop, ← List.getD_eq_getElem?_getD, ← this]
    congr 1
    omega
  · have ha : s.ack nr = s := by unfold Snd.ack; rw [if_neg hE]
    rw [ha]
    exact h
theorem AInv.send_no {s : Snd} {cur : Array Value} (h : AInv s cur) (hc : s.can = false) : AInv s.send cur := by
  have hp : s.send = s := by unfold Snd.send; rw [hc]; rfl
  rw [hp]
  exact h
theorem AInv.send {s : Snd} {cur : Array Value} (h : AInv s cur) (hc : s.can = true) : AInv s.send (cur.setIfInBounds s.sendN (.string (strOfNums s.sendP))) := by
  have hok := Snd.send_ok h.ok
  have hp : s.send = { s with under := s.under + 1 } := by unfold Snd.send; rw [if_pos hc]
  have hN : s.sendN = (s.base + s.under) % 128 := by unfold Snd.sendN; rw [if_pos hc]
  have hP : s.sendP = s.ps.getD s.under [] := by unfold Snd.sendP; rw [if_pos hc]
  rw [hp] at hok ⊢
  rw [hN, hP]
  refine ⟨hok, by simp [h.size], fun j hj => ?_⟩
  have hj' : j < s.under + 1 := hj
  have h1 := h.ok.under2
  have h2 := h.ok.size2
  show (cur.setIfInBounds ((s.base + s.under) % 128) _)[(s.base + j) % 128]? = some (.string (strOfNums (s.ps.getD j [])))
  by_cases he : j = s.under
  · subst he
    rw [Array.getElem?_setIfInBounds_self_of_lt (by rw [h.size]; omega)]
  · rw [Array.getElem?_setIfInBounds_ne (by omega)]
    exact h.has j (by omega)
theorem AInv.again {s : Snd} {cur : Array Value} (h : AInv s cur) {n : Nat} (hE : s.againE n = 0) : cur[n]? = some (.string (strOfNums (s.againP n))) := by
  obtain ⟨h1, h2⟩ := againE_zero hE
  have hP : s.againP n = s.ps.getD (((n : Int) - s.base) % 128).toNat [] := by unfold Snd.againP; rw [if_pos hE]
  have hb := h.ok.base
  rw [hP, ← h.has (((n : Int) - s.base) % 128).toNat (by omega)]
  congr 1
  omega

end Go.Proofs.Ytgfcppjahebidaa
