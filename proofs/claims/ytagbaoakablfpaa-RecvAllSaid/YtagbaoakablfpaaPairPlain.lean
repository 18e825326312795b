/- The plain law of portagelaw08's pair: what is told is what was pushed, in order. No program in sight. Conditions: as they stand. -/
import Derived.Test.YtagbaoakablfpaaPairAck
namespace Go.Proofs.Ytagbaoakablfpaa
open Go.RowKit

def PSt.step (t : PSt) (k n : Int) : PSt :=
  if k = 0 then { t with s := t.s.push (mark t.pushed.length), pushed := if t.s.pushE (mark t.pushed.length) = 0 then t.pushed ++ [mark t.pushed.length] else t.pushed }
  else if k = 1 then { t with s := t.s.send, way := if t.s.can then t.way ++ [((t.s.sendN : Int), t.s.sendP)] else t.way }
  else if k = 2 then (match t.way[t.old n]? with | some c => t.come c.1 c.2 | none => t)
  else if k = 3 then (match t.s.unders[t.re n]? with | some m => t.come m (t.s.againP m) | none => t)
  else if k = 4 then { t with s := t.s.ack t.r.waits }
  else t

structure PInv (n m : Nat) (t : PSt) : Prop where
  sok : t.s.Ok
  rok : t.r.Ok
  ssz : t.s.size = n
  rsz : t.r.size = n
  le1 : t.told.length ≤ t.way.length
  le2 : t.way.length ≤ t.pushed.length
  len : t.pushed.length ≤ m
  und : t.s.under ≤ t.way.length
  base : t.s.base = (t.way.length - t.s.under) % 128
  ps : t.s.ps = t.pushed.drop (t.way.length - t.s.under)
  ackd : t.way.length - t.s.under ≤ t.told.length
  waits : t.r.waits = t.told.length % 128
  told : t.told = t.pushed.take t.told.length
  way : ∀ (i : Nat) (c : Int × List Int), t.way[i]? = some c → c.1 = ((i % 128 : Nat) : Int) ∧ t.pushed[i]? = some c.2
  kept : ∀ x ∈ t.r.kept, ∃ A : Nat, t.told.length ≤ A ∧ A < t.told.length + n ∧ A < t.way.length ∧ x.1 = ((A % 128 : Nat) : Int) ∧ t.pushed[A]? = some x.2

theorem drain_told (pushed : List (List Int)) (S n : Nat) : ∀ (f : Nat) (r : Rcv) (W : Nat), r.Ok → r.size = n → r.waits = W % 128 → W ≤ S →
    (∀ x ∈ r.kept, ∃ A : Nat, W ≤ A ∧ A < W + n ∧ A < S ∧ x.1 = ((A % 128 : Nat) : Int) ∧ pushed[A]? = some x.2) →
    (r.drain f).1 = (pushed.drop W).take (r.drain f).1.length ∧ W + (r.drain f).1.length ≤ S ∧
      ∀ x ∈ (r.drain f).2.kept, ∃ A : Nat, W + (r.drain f).1.length ≤ A ∧ A < W + (r.drain f).1.length + n ∧ A < S ∧ x.1 = ((A % 128 : Nat) : Int) ∧ pushed[A]? = some x.2
  | 0, r, W, h, hn, hw, hS, hk => ⟨by simp [Rcv.drain], by simpa [Rcv.drain] using hS, hk⟩
  | f + 1, r, W, h, hn, hw, hS, hk => by
    rw [Rcv.drain]
    cases hp : pos r.kept r.waits with
    | none => exact ⟨by simp, by simpa using hS, hk⟩
    | some y =>
      have hm := List.mem_of_getElem? (pos_some (j := y.1) (v := y.2) hp)
      obtain ⟨A, a1, a2, a3, a4, a5⟩ := hk _ hm
      have hs := h.size2
      simp only at a4 a5
      obtain rfl : A = W := by omega
      have hnk : ∀ x ∈ r.next.kept, ∃ B : Nat, A + 1 ≤ B ∧ B < A + 1 + n ∧ B < S ∧ x.1 = ((B % 128 : Nat) : Int) ∧ pushed[B]? = some x.2 := by
        intro x hx
        obtain ⟨B, b1, b2, b3, b4, b5⟩ := hk x ((dropK_sub r.kept r.waits).subset hx)
        have hne : x.1 ≠ (r.waits : Int) := dropK_ne h.nodup x hx
        refine ⟨B, ?_, by omega, b3, b4, b5⟩
        rcases Nat.lt_or_ge A B with h1 | h1
        · exact h1
        · obtain rfl : B = A := by omega
          exact absurd (by rw [b4, hw]) hne
      obtain ⟨g1, g2, g3⟩ := drain_told pushed S n f r.next (A + 1) h.next hn (by simp only [Rcv.next]; omega) (by omega) hnk
      have hlt := (List.getElem?_eq_some_iff.1 a5).1
      have e : pushed.drop A = y.2 :: pushed.drop (A + 1) := by
        rw [List.drop_eq_getElem_cons hlt]
        congr 1
        exact (List.getElem?_eq_some_iff.1 a5).2
      refine ⟨?_, by simp; omega, fun x hx => ?_⟩
      · rw [e, List.length_cons, List.take_succ_cons, ← g1]
      · obtain ⟨B, b1, b2, b3⟩ := g3 x hx
        exact ⟨B, by simp; omega, by simp; omega, b3⟩

section
variable {n m : Nat} {t : PSt}
theorem PInv.come (h : PInv n m t) {A : Nat} {p : List Int} (h1 : A < t.way.length) (h2 : t.way.length ≤ A + 63) (hp : t.pushed[A]? = some p) : PInv n m (t.come ((A % 128 : Nat) : Int) p) := by
  unfold PSt.come
  by_cases hc : t.r.chk ((A % 128 : Nat) : Int) p.length = 0
  · have hP := (h.rok.put hc p).1
    obtain ⟨_, _, d3, d4⟩ := drain_ok (t.r.with_ ((A % 128 : Nat) : Int) p).kept.length _ hP
    have hT := h.rok.took hc (p := p)
    have hu := h.sok.under2
    have hn := h.sok.size2
    have hssz := h.ssz
    have hackd := h.ackd
    have hle1 := h.le1
    have hund := h.und
    have hwin : ((A % 128 : Nat) - (t.r.waits : Int)) % 128 < (t.r.size : Int) := (hP.keys ((A % 128 : Nat) : Int) (by simp [Rcv.keys, Rcv.with_])).2.2
    have hw := h.waits
    have hrsz := h.rsz
    have hA : t.told.length ≤ A ∧ A < t.told.length + n := by omega
    obtain ⟨g1, g2, g3⟩ := drain_told t.pushed t.way.length n (t.r.with_ ((A % 128 : Nat) : Int) p).kept.length (t.r.with_ ((A % 128 : Nat) : Int) p) t.told.length hP h.rsz h.waits h.le1 (by
      intro x hx
      have hx' : x ∈ t.r.kept ++ [(((A % 128 : Nat) : Int), p)] := hx
      rcases List.mem_append.1 hx' with hx | hx
      · exact h.kept x hx
      · simp at hx
        subst hx
        exact ⟨A, hA.1, hA.2, h1, rfl, hp⟩)
    have e1 : t.r.take ((A % 128 : Nat) : Int) p = t.r.took ((A % 128 : Nat) : Int) p := by unfold Rcv.take; rw [if_pos hc]
    have e2 : t.r.tells ((A % 128 : Nat) : Int) p = ((t.r.with_ ((A % 128 : Nat) : Int) p).drain (t.r.with_ ((A % 128 : Nat) : Int) p).kept.length).1 := by unfold Rcv.tells; rw [if_pos hc]; rfl
    rw [e1, e2]
    refine ⟨h.sok, hT.1, h.ssz, hT.2.trans h.rsz, by simpa using g2, h.le2, h.len, h.und, h.base, h.ps, by simp; omega, ?_, ?_, h.way, ?_⟩
    · show (t.r.took ((A % 128 : Nat) : Int) p).waits = _
      rw [List.length_append]
      have e3 : (t.r.took ((A % 128 : Nat) : Int) p).waits = ((t.r.with_ ((A % 128 : Nat) : Int) p).drain (t.r.with_ ((A % 128 : Nat) : Int) p).kept.length).2.waits := rfl
      rw [e3, d4]
      show (t.r.waits + _) % 128 = _
      omega
    · show t.told ++ _ = t.pushed.take (t.told ++ _).length
      rw [List.length_append, List.take_add, ← g1, ← h.told]
    · intro x hx
      obtain ⟨B, b1, b2, b3⟩ := g3 x hx
      exact ⟨B, by simpa using b1, by simpa using b2, b3⟩
  · have e1 : t.r.take ((A % 128 : Nat) : Int) p = t.r := by unfold Rcv.take; rw [if_neg hc]
    have e2 : t.r.tells ((A % 128 : Nat) : Int) p = [] := by unfold Rcv.tells; rw [if_neg hc]
    rw [e1, e2, List.append_nil]
    exact h
theorem PInv.sent (h : PInv n m t) : PInv n m { t with s := t.s.send, way := if t.s.can then t.way ++ [((t.s.sendN : Int), t.s.sendP)] else t.way } := by
  unfold Snd.send Snd.sendN Snd.sendP
  by_cases hc : t.s.can = true
  · simp only [if_pos hc]
    have h1 : t.s.under < t.s.ps.length ∧ t.s.under < t.s.size := by simpa [Snd.can] using hc
    have hund := h.und
    have hps := h.ps
    have hbase := h.base
    have hle1 := h.le1
    have hpl : t.s.ps.length = t.pushed.length - (t.way.length - t.s.under) := by rw [hps, List.length_drop]
    have hackd := h.ackd
    refine ⟨⟨h.sok.size1, h.sok.size2, h.sok.base, h1.1, h1.2, h.sok.len, h.sok.pay⟩, h.rok, h.ssz, h.rsz, by simp; omega, by simp; omega, h.len, by simp; omega, by simp; omega, ?_, by simp; omega, h.waits, h.told, ?_, ?_⟩
    · show t.s.ps = t.pushed.drop ((t.way ++ _).length - (t.s.under + 1))
      rw [hps]
      congr 1
      simp
    · intro i c hi
      have hi' : (t.way ++ [((((t.s.base + t.s.under) % 128 : Nat) : Int), t.s.ps.getD t.s.under [])])[i]? = some c := hi
      by_cases hl : i < t.way.length
      · rw [List.getElem?_append_left hl] at hi'
        exact h.way i c hi'
      · rw [List.getElem?_append_right (by omega)] at hi'
        have hil := (List.getElem?_eq_some_iff.1 hi').1
        simp at hil
        obtain rfl : i = t.way.length := by omega
        simp at hi'
        subst hi'
        refine ⟨by simp only; omega, ?_⟩
        show t.pushed[t.way.length]? = some (t.s.ps[t.s.under]?.getD [])
        rw [hps, List.getElem?_drop, show t.way.length - t.s.under + t.s.under = t.way.length by omega, List.getElem?_eq_getElem (by omega)]
        rfl
    · intro x hx
      obtain ⟨A, a1, a2, a3, a4⟩ := h.kept x hx
      exact ⟨A, a1, a2, by simp; omega, a4⟩
  · simp only [if_neg hc]
    exact h
theorem PInv.acked (h : PInv n m t) : PInv n m { t with s := t.s.ack t.r.waits } ∧ (t.s.ack t.r.waits).under = t.way.length - t.told.length ∧ (t.s.ack t.r.waits).ps = t.pushed.drop t.told.length := by
  have hw := h.waits
  have hb := h.base
  have hund := h.und
  have hu := h.sok.under2
  have hs := h.sok.size2
  have hackd := h.ackd
  have hle1 := h.le1
  have hE : t.s.ackE t.r.waits = 0 := by
    unfold Snd.ackE
    rw [if_neg (by omega), if_neg (by omega)]
  have hN : t.s.ackN t.r.waits = t.told.length - (t.way.length - t.s.under) := by
    unfold Snd.ackN
    rw [if_pos hE]
    omega
  have hps := h.ps
  have e : t.s.ack t.r.waits = ⟨t.s.size, t.told.length % 128, t.pushed.drop t.told.length, t.way.length - t.told.length⟩ := by
    unfold Snd.ack
    have x1 : (t.r.waits : Int).toNat = t.told.length % 128 := by omega
    have x2 : (t.pushed.drop (t.way.length - t.s.under)).drop (t.told.length - (t.way.length - t.s.under)) = t.pushed.drop t.told.length := by rw [List.drop_drop]; congr 1; omega
    have x3 : t.s.under - (t.told.length - (t.way.length - t.s.under)) = t.way.length - t.told.length := by omega
    rw [if_pos hE, hN, hps, x1, x2, x3]
  rw [e]
  have hle2 := h.le2
  have hpl : t.s.ps.length = t.pushed.length - (t.way.length - t.s.under) := by rw [hps, List.length_drop]
  have hlen := h.sok.len
  refine ⟨⟨⟨h.sok.size1, h.sok.size2, by simp only; omega, ?_, ?_, ?_, ?_⟩, h.rok, h.ssz, h.rsz, h.le1, h.le2, h.len, by simp, ?_, ?_, ?_, h.waits, h.told, h.way, h.kept⟩, rfl, rfl⟩
  · simp only [List.length_drop]; omega
  · simp only; omega
  · simp only [List.length_drop]; omega
  · intro p hp
    refine h.sok.pay p ?_
    rw [hps]
    have : t.pushed.drop t.told.length = (t.pushed.drop (t.way.length - t.s.under)).drop (t.told.length - (t.way.length - t.s.under)) := by rw [List.drop_drop]; congr 1; omega
    have hp' : p ∈ t.pushed.drop t.told.length := hp
    rw [this] at hp'
    exact List.mem_of_mem_drop hp'
  · simp only; congr 1; omega
  · simp only; congr 1; omega
  · simp only; omega
theorem PInv.put (h : PInv n m t) : PInv n (m + 1) { t with s := t.s.push (mark t.pushed.length), pushed := if t.s.pushE (mark t.pushed.length) = 0 then t.pushed ++ [mark t.pushed.length] else t.pushed } := by
  unfold Snd.push
  have hml : (mark t.pushed.length).length = 2 := rfl
  by_cases hE : t.s.pushE (mark t.pushed.length) = 0
  · simp only [if_pos hE]
    have hlt : t.s.ps.length < 64 := by
      unfold Snd.pushE at hE
      rw [if_neg (by omega), if_neg (by omega)] at hE
      split at hE
      · cases hE
      · omega
    have hle2 := h.le2
    have hlen := h.len
    have hund := h.sok.under1
    have hps := h.ps
    have hback : ∀ (i : Nat) (x : List Int), t.pushed[i]? = some x → (t.pushed ++ [mark t.pushed.length])[i]? = some x := fun i x hx => by
      rw [List.getElem?_append_left (List.getElem?_eq_some_iff.1 hx).1]; exact hx
    refine ⟨⟨h.sok.size1, h.sok.size2, h.sok.base, by simp; omega, h.sok.under2, by simp; omega, ?_⟩, h.rok, h.ssz, h.rsz, h.le1, by simp; omega, by simp; omega, h.und, h.base, ?_, h.ackd, h.waits, ?_, fun i c hc => ⟨(h.way i c hc).1, hback _ _ (h.way i c hc).2⟩, ?_⟩
    · intro p hp
      have hp' : p ∈ t.s.ps ++ [mark t.pushed.length] := hp
      rcases List.mem_append.1 hp' with hp' | hp'
      · exact h.sok.pay p hp'
      · simp at hp'; subst hp'; rw [hml]; omega
    · show t.s.ps ++ [mark t.pushed.length] = (t.pushed ++ [mark t.pushed.length]).drop (t.way.length - t.s.under)
      rw [List.drop_append_of_le_length (by omega), hps]
    · show t.told = (t.pushed ++ [mark t.pushed.length]).take t.told.length
      have hle1 := h.le1
      rw [List.take_append_of_le_length (by omega)]
      exact h.told
    · intro x hx
      obtain ⟨A, a1, a2, a3, a4, a5⟩ := h.kept x hx
      exact ⟨A, a1, a2, a3, a4, hback _ _ a5⟩
  · simp only [if_neg hE]
    have hlen := h.len
    exact ⟨h.sok, h.rok, h.ssz, h.rsz, h.le1, h.le2, by simp only; omega, h.und, h.base, h.ps, h.ackd, h.waits, h.told, h.way, h.kept⟩
end

end Go.Proofs.Ytagbaoakablfpaa
