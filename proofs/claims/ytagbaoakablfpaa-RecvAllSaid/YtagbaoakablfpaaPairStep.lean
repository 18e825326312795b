/- portagelaw08's pair.step, whatever its kind. Conditions: as they stand. -/
import Derived.Test.YtagbaoakablfpaaPairPlain
namespace Go.Proofs.Ytagbaoakablfpaa
open Go.RowKit

theorem win_at (b : Int) : ∀ (m i : Nat), i < m → ((win b m)[i]?).map (·.1) = some ((b + (i : Int)) % 128)
  | 0, i, h => by omega
  | m + 1, i, h => by
    rw [win_succ]
    by_cases hi : i < m
    · rw [List.getElem?_append_left (by rw [win_length]; exact hi)]
      exact win_at b m i hi
    · obtain rfl : i = m := by omega
      rw [List.getElem?_append_right (by rw [win_length]; exact Nat.le_refl _), win_length, Nat.sub_self]
      rfl
theorem unders_at {s : Snd} {i : Nat} {m : Int} (h : s.unders[i]? = some m) : i < s.under ∧ m = (((s.base + i) % 128 : Nat) : Int) := by
  have hi := (List.getElem?_eq_some_iff.1 h).1
  simp only [Snd.unders, vals, List.length_map, win_length] at hi
  have := win_at s.base s.under i hi
  rw [Snd.unders, vals, List.getElem?_map, this] at h
  cases h
  exact ⟨hi, by omega⟩
theorem PInv.mono {n m m' : Nat} {t : PSt} (h : PInv n m t) (hm : m ≤ m') : PInv n m' t :=
  ⟨h.sok, h.rok, h.ssz, h.rsz, h.le1, h.le2, Nat.le_trans h.len hm, h.und, h.base, h.ps, h.ackd, h.waits, h.told, h.way, h.kept⟩
theorem PInv.re {n m : Nat} {t : PSt} (h : PInv n m t) {i : Nat} {x : Int} (hx : t.s.unders[i]? = some x) :
    i < t.s.under ∧ x = (((t.way.length - t.s.under + i) % 128 : Nat) : Int) ∧ t.s.againE x = 0 ∧ t.pushed[t.way.length - t.s.under + i]? = some (t.s.againP x) := by
  obtain ⟨h1, h2⟩ := unders_at hx
  have hb := h.base
  have hs := h.sok.size2
  have hu := h.sok.under2
  have hps := h.ps
  have hle2 := h.le2
  have hund := h.und
  have hE : t.s.againE x = 0 := by
    unfold Snd.againE
    rw [if_neg (by omega), if_pos (by omega)]
  refine ⟨h1, by omega, hE, ?_⟩
  unfold Snd.againP
  rw [if_pos hE, show ((x - (t.s.base : Int)) % 128).toNat = i by omega, hps, List.getD_eq_getElem?_getD, List.getElem?_drop, List.getElem?_eq_getElem (by omega)]
  rfl
theorem PInv.reCome {n m : Nat} {t : PSt} (h : PInv n m t) {i : Nat} {x : Int} (hx : t.s.unders[i]? = some x) : PInv n m (t.come x (t.s.againP x)) := by
  obtain ⟨h1, h2, _, h4⟩ := h.re hx
  have hs := h.sok.size2
  have hu := h.sok.under2
  have hund := h.und
  have := h.come (A := t.way.length - t.s.under + i) (by omega) (by omega) h4
  rw [← h2] at this
  exact this
theorem PInv.step {n m : Nat} {t : PSt} (h : PInv n m t) (k x : Int) : PInv n (m + 1) (t.step k x) := by
  unfold PSt.step
  split
  · exact h.put
  split
  · exact h.sent.mono (by omega)
  split
  · split
    · rename_i c hc
      obtain ⟨h1, h2⟩ := h.way _ _ hc
      have hl := (List.getElem?_eq_some_iff.1 hc).1
      have := (h.come (A := t.old x) hl (by unfold PSt.old; omega) h2).mono (m' := m + 1) (by omega)
      rw [← h1] at this
      exact this
    · exact h.mono (by omega)
  split
  · split
    · rename_i c hc
      exact (h.reCome hc).mono (by omega)
    · exact h.mono (by omega)
  split
  · exact h.acked.1.mono (by omega)
  · exact h.mono (by omega)

theorem step_any (B : Nat) (col : Nat → Nat) (w : World) (pb sg rg : Nat) (pv wv tv : Value) (t : PSt) (h : PairAt B col w pb sg rg pv wv tv t) {n m : Nat} (hi : PInv n m t) (hm : m ≤ 100000) (k x : Int) :
    Calls Try.prog 17 #[.pointer (some ⟨pb, 0, none⟩), .agg #[.int .i64 k, .int .i64 x]] w fun e w' => After B w pb sg rg (t.step k x) e w' := by
  have h1 := hi.len
  have h2 := hi.le2
  have h3 := hi.le1
  unfold PSt.step
  split
  · rename_i hk; subst hk
    exact step_push B col w pb sg rg pv wv tv t h x (by omega)
  split
  · rename_i hk; subst hk
    exact step_send B col w pb sg rg pv wv tv t h hi.sok x (by omega)
  split
  · rename_i hk; subst hk
    split
    · rename_i c hc
      exact step_come B col w pb sg rg pv wv tv t h hi.rok x (by omega) (by omega) c hc
    · rename_i hc
      refine step_come0 B col w pb sg rg pv wv tv t h x ?_
      by_cases hl : t.way = []
      · exact hl
      · have hpos := List.length_pos_iff.2 hl
        have := List.getElem?_eq_none_iff.1 hc
        unfold PSt.old at this
        have h4 := Nat.mod_lt (uN x) (show 0 < t.way.length - (t.way.length - 63) by omega)
        omega
  split
  · rename_i hk; subst hk
    split
    · rename_i c hc
      exact step_again B col w pb sg rg pv wv tv t h hi.rok hi.sok x (by omega) c hc
    · rename_i hc
      refine step_again0 B col w pb sg rg pv wv tv t h hi.sok x ?_
      by_cases hl : t.s.unders = []
      · exact hl
      · have hpos := List.length_pos_iff.2 hl
        have := List.getElem?_eq_none_iff.1 hc
        unfold PSt.re at this
        have h4 := Nat.mod_lt (uN x) hpos
        omega
  split
  · rename_i hk; subst hk
    exact step_ack B col w pb sg rg pv wv tv t h hi.sok x
  · exact step_none B col w pb sg rg pv wv tv t h k x ⟨by assumption, by assumption, by assumption, by assumption, by assumption⟩

end Go.Proofs.Ytagbaoakablfpaa
