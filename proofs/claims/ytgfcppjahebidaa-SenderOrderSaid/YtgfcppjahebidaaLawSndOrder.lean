/- The walk of the statement SenderOrder. Conditions: the arguments' own. -/
import Derived.WalkKit
import Derived.Lib.Hide
import Derived.BigQuiet
import Derived.Test.YtgfcppjahebidaaSndBoth
namespace Go.Proofs.Ytgfcppjahebidaa
open Go.RowKit

/-- What holds ahead of each round: what was pushed lies in the row; the sender has what is behind what is gone. -/
structure OInv (n : Nat) (w : World) (s : Snd) (qs : List (List Int)) (vs : List Value) (out i : Nat) : Prop where
  ok : s.Ok
  size : s.size = n
  len : vs.length = qs.length
  few : qs.length ≤ i
  parts : ∃ gone, gone ≤ qs.length ∧ s.ps = qs.drop gone ∧ s.base = gone % 128 ∧ out = gone + s.under
  pay : ∀ (j : Nat) (x : Value) (p : List Int), vs[j]? = some x → qs[j]? = some p → ByB w.heap.size w x p
theorem OInv.start (n : Nat) (h1 : 1 ≤ n) (h2 : n ≤ 63) (w : World) : OInv n w ⟨n, 0, [], 0⟩ [] [] 0 0 := ⟨new_ok h1 h2, rfl, rfl, by simp, ⟨0, by simp, rfl, rfl, rfl⟩, fun j x p h => by simp at h⟩
theorem OInv.push {n : Nat} {w : World} {s : Snd} {qs : List (List Int)} {vs : List Value} {out i : Nat} (h : OInv n w s qs vs out i) {p : List Int} {x : Value} (hE : s.pushE p = 0) (hx : ByB w.heap.size w x p) : OInv n w (s.push p) (qs ++ [p]) (vs ++ [x]) out (i + 1) := by
  obtain ⟨gone, g1, g2, g3, g4⟩ := h.parts
  have hp : s.push p = { s with ps := s.ps ++ [p] } := by unfold Snd.push; rw [if_pos hE]
  have hok := Snd.push_ok h.ok p
  rw [hp] at hok ⊢
  refine ⟨hok, h.size, by simp [h.len], by have := h.few; simp; omega, ⟨gone, by simp; omega, ?_, g3, g4⟩, fun j y q hy hq => ?_⟩
  · show s.ps ++ [p] = _
    rw [List.drop_append_of_le_length g1, g2]
  · by_cases hj : j < vs.length
    · rw [List.getElem?_append_left hj] at hy
      rw [List.getElem?_append_left (by rw [← h.len]; exact hj)] at hq
      exact h.pay j y q hy hq
    · have hl := (List.getElem?_eq_some_iff.1 hy).1
      have e : j = vs.length := by simp at hl; omega
      subst e
      rw [List.getElem?_append_right (Nat.le_refl _), Nat.sub_self] at hy
      rw [h.len, List.getElem?_append_right (Nat.le_refl _), Nat.sub_self] at hq
      cases hy
      cases hq
      exact hx
theorem OInv.push_no {n : Nat} {w : World} {s : Snd} {qs : List (List Int)} {vs : List Value} {out i : Nat} (h : OInv n w s qs vs out i) {p : List Int} (hE : s.pushE p ≠ 0) : OInv n w (s.push p) qs vs out (i + 1) := by
  have hp : s.push p = s := by unfold Snd.push; rw [if_neg hE]
  rw [hp]
  exact ⟨h.ok, h.size, h.len, by have := h.few; omega, h.parts, h.pay⟩
theorem OInv.ack {n : Nat} {w : World} {s : Snd} {qs : List (List Int)} {vs : List Value} {out i : Nat} (h : OInv n w s qs vs out i) (nr : Int) : OInv n w (s.ack nr) qs vs out (i + 1) := by
  have hok := Snd.ack_ok h.ok nr
  obtain ⟨gone, g1, g2, g3, g4⟩ := h.parts
  by_cases hE : s.ackE nr = 0
  · obtain ⟨hn, hm⟩ := ackE_zero hE
    obtain ⟨hN, hM⟩ := ackN_zero hE
    have ha : s.ack nr = ⟨s.size, nr.toNat, s.ps.drop (s.ackN nr), s.under - s.ackN nr⟩ := by unfold Snd.ack; rw [if_pos hE]
    rw [ha] at hok ⊢
    have hu := h.ok.under1
    have hl : s.ps.length = qs.length - gone := by rw [g2, List.length_drop]
    refine ⟨hok, h.size, h.len, by have := h.few; omega, ⟨gone + s.ackN nr, by omega, ?_, ?_, ?_⟩, h.pay⟩
    · show s.ps.drop _ = _
      rw [g2, List.drop_drop]
    · show nr.toNat = _
      omega
    · show out = _ + (s.under - s.ackN nr)
      omega
  · have ha : s.ack nr = s := by unfold Snd.ack; rw [if_neg hE]
    rw [ha]
    exact ⟨h.ok, h.size, h.len, by have := h.few; omega, ⟨gone, g1, g2, g3, g4⟩, h.pay⟩
theorem OInv.send_no {n : Nat} {w : World} {s : Snd} {qs : List (List Int)} {vs : List Value} {out i : Nat} (h : OInv n w s qs vs out i) (hc : s.can = false) : OInv n w s.send qs vs out (i + 1) := by
  have hp : s.send = s := by unfold Snd.send; rw [hc]; rfl
  rw [hp]
  exact ⟨h.ok, h.size, h.len, by have := h.few; omega, h.parts, h.pay⟩
theorem OInv.send {n : Nat} {w : World} {s : Snd} {qs : List (List Int)} {vs : List Value} {out i : Nat} (h : OInv n w s qs vs out i) (hc : s.can = true) : OInv n w s.send qs vs (out + 1) (i + 1) := by
  have hok := Snd.send_ok h.ok
  have hp : s.send = { s with under := s.under + 1 } := by unfold Snd.send; rw [if_pos hc]
  rw [hp] at hok ⊢
  obtain ⟨gone, g1, g2, g3, g4⟩ := h.parts
  exact ⟨hok, h.size, h.len, by have := h.few; omega, ⟨gone, g1, g2, g3, by show _ = gone + (s.under + 1); omega⟩, h.pay⟩
theorem OInv.sent {n : Nat} {w : World} {s : Snd} {qs : List (List Int)} {vs : List Value} {out i : Nat} (h : OInv n w s qs vs out i) (hc : s.can = true) : out < vs.length ∧ (s.sendN : Int) = (out : Int) % 128 ∧ ∃ x, vs[out]? = some x ∧ ByB w.heap.size w x s.sendP := by
  obtain ⟨gone, g1, g2, g3, g4⟩ := h.parts
  have hl : s.ps.length = qs.length - gone := by rw [g2, List.length_drop]
  have hu : s.under < s.ps.length ∧ s.under < s.size := by simpa [Snd.can] using hc
  have ho : out < vs.length := by rw [h.len]; omega
  refine ⟨ho, ?_, ?_⟩
  · have : s.sendN = (s.base + s.under) % 128 := by unfold Snd.sendN; rw [if_pos hc]
    rw [this, g3, g4]
    omega
  · obtain ⟨x, hx⟩ := get_some ho
    refine ⟨x, hx, h.pay out x _ hx ?_⟩
    have : s.sendP = s.ps.getD s.under [] := by unfold Snd.sendP; rw [if_pos hc]
    rw [this, g2, List.getD_eq_getElem?_getD, List.getElem?_drop, ← g4]
    have := get_some (xs := qs) (k := out) (by rw [← h.len]; exact ho)
    obtain ⟨q, hq⟩ := this
    rw [hq]
    rfl

set_option maxRecDepth 100000 in
set_option maxHeartbeats 1000000 in
theorem order_bad (n : Int) (v : Value) (h : n < 1 ∨ 63 < n) (w : World) :
    Calls Try.prog 4 #[.int .i64 n, v] w fun e w' => e = .returned (.bool true) ∧ Below w.heap.size w w' := by
  have hh := Lib.hid h
  rcases h with h | h
  all_goals
    go_enter Try.func4, Try.ntmps4
    go_wp2_with fail
    refine (snew_bad n hh.out _).mono ?_
    rintro e w1 ⟨rfl, rfl⟩
    go_wp2_with fail
    refine (awake_any _).mono ?_
    rintro e w2 ⟨rfl, hb⟩
    go_wp2
    go_ret
    exact ⟨rfl, hb⟩

set_option maxRecDepth 100000 in
set_option maxHeartbeats 2000000 in
theorem order_ok (n : Nat) (v : Value) (l : List Act3) (h1 : 1 ≤ n) (h2 : n ≤ 63) (w : World) (hl : ActsAt w.heap.size w v l) :
    Calls Try.prog 4 #[.int .i64 n, v] w fun e w' => e = .returned (.bool true) ∧ Below w.heap.size w w' := by
  go_enter Try.func4, Try.ntmps4
  go_wp2_with fail
  refine (Mine.new n h1 h2 _).mono ?_
  rintro e w1 ⟨rfl, hM⟩
  generalize hg : w.heap.size = g at hM ⊢
  rw [← hg]
  go_wp2_with fail
  refine (cut_any (hl.below hM.2)).mono ?_
  rintro e w2 ⟨v', l', rfl, h300, hl2, rfl⟩
  replace hl2 := hl2 _ hl
  clear hl
  obtain ⟨ao, cap, rfl⟩ : ∃ ao cap, v' = .slice ao l'.length cap := by
    obtain ⟨_, ao, cap, hv, _⟩ := hl2
    exact ⟨ao, cap, hv⟩
  go_wp2_with fail
  have hB := Both.start hM #[] rfl
  have hI := OInv.start n h1 h2 w
  go_loopw [7, 8, 9] (fun pv ov kk wr => ∃ (i out : Nat) (s : Snd) (qs : List (List Int)) (vs : List Value), i ≤ l'.length ∧ kk = .int .i64 i ∧ ov = .int .i64 out ∧ Hid (OInv n w s qs vs out i) ∧ Both w g s pv vs wr) (fun _ _ kk _ => l'.length - (intOf kk).toNat)
  case atStart => exact ⟨0, 0, _, [], [], by omega, rfl, rfl, hI, hB⟩
  case round =>
    clear hM hB hI
    obtain ⟨i, out, s, qs, vs, hile, rfl, rfl, hI, hB⟩ := hrel
    by_cases hlt : i < l'.length
    · obtain ⟨c, hci⟩ := get_some hlt
      obtain ⟨b, o, x, rfl, hbw, hc0, hc1, hc2, hx, hxl, _, _⟩ := hl2.at_ hci
      replace hc0 := (hB.bl.cell (p := ⟨b, _, none⟩) hbw).trans hc0
      replace hc1 := (hB.bl.cell (p := ⟨b, _, none⟩) hbw).trans hc1
      replace hc2 := (hB.bl.cell (p := ⟨b, _, none⟩) hbw).trans hc2
      obtain ⟨xo, xc, rfl⟩ : ∃ xo xc, x = .slice xo c.p.length xc := by
        obtain ⟨⟨_, xo, xc, h, _⟩, _⟩ := hx
        exact ⟨xo, xc, h⟩
      clear hci
      rw [← Nat.add_assoc] at hc1 hc2
      by_cases k0 : c.k = 0
      · go_wp2_with fail
        refine (hB.push (hx.below hB.bl).1 hx.2.1).mono ?_
        rintro e w3 ⟨rfl, hB3, hbl⟩
        replace hc2 := (hbl.cell (p := ⟨b, _, none⟩) hbw).trans hc2
        clear hc0 hc1
        by_cases hE : s.pushE c.p = 0
        · have hI3 := Lib.hid (hI.out.push hE hx)
          have hu3 := Lib.hid (show (s.push c.p).under ≤ n by have := hI3.out.size; have := hI3.out.ok.under2; omega)
          have hvl : vs.length ≤ 300 := by have := hI.out.few; have := hI.out.len; omega
          have hown := (hB3.alloc (.cells #[.slice xo c.p.length xc] 28)).owns
          have hsz := (hB3.alloc (.cells #[.slice xo c.p.length xc] 28)).bl.size
          obtain ⟨j0, hj, hy0, hy1, hy2⟩ := info_parts infoBytes
          rw [hE]
          clear hx hI hB
          go_wp2_with (at_builtin; refine wpList_append_r _ rfl _ _ 38 rfl w.heap.size 28 j0 (.slice none 0 0) 24 Try.underlying38 hj hy0 hy1 hy2 rfl _ _ _ rfl hown id _ [.slice xo c.p.length xc] rfl (reads_one id _ _ _) (by simp [Value.oneCell']) (by simp [maxLen]; omega) (by simp; omega) hsz ?_; intro v' w4 hown' hgrow hne')
          refine ((Both.grown (hB3.alloc _) (by simpa using hown') hgrow hne').under hI3.out.ok).mono ?_
          rintro e w5 ⟨uo, uc, rfl, _, hB5⟩
          have hu4 := hu3.out
          go_wp2
          go_roundw
          case rel => exact ⟨i + 1, out, _, _, _, by omega, by go_num, rfl, hI3, hB5⟩
          case measure => simp [intOf]; omega
        · have hI3 := Lib.hid (hI.out.push_no hE)
          have hu3 := Lib.hid (show (s.push c.p).under ≤ n by have := hI3.out.size; have := hI3.out.ok.under2; omega)
          clear hx hI hB
          go_wp2_with fail
          refine (hB3.under hI3.out.ok).mono ?_
          rintro e w4 ⟨uo, uc, rfl, _, hB4⟩
          have hu4 := hu3.out
          go_wp2
          go_roundw
          case rel => exact ⟨i + 1, out, _, qs, vs, by omega, by go_num, rfl, hI3, hB4⟩
          case measure => simp [intOf]; omega
      · by_cases k2 : c.k = 2
        · go_wp2_with fail
          refine (hB.ack hI.out.ok _).mono ?_
          rintro e w3 ⟨rfl, hB3⟩
          have hI3 := Lib.hid (hI.out.ack c.n)
          have hu3 := Lib.hid (show (s.ack c.n).under ≤ n by have := hI3.out.size; have := hI3.out.ok.under2; omega)
          go_wp2_with fail
          refine (hB3.under hI3.out.ok).mono ?_
          rintro e w4 ⟨uo, uc, rfl, _, hB4⟩
          have hu4 := hu3.out
          go_wp2
          go_roundw
          case rel => exact ⟨i + 1, out, _, qs, vs, by omega, by go_num, rfl, hI3, hB4⟩
          case measure => simp [intOf]; omega
        · go_wp2_with fail
          refine (hB.send hI.out.ok).mono ?_
          rintro e w3 ⟨u, rfl, hu, hB3⟩
          cases hcan : s.can with
          | false =>
            have hI3 := Lib.hid (hI.out.send_no hcan)
            have hu3 := Lib.hid (show s.send.under ≤ n by have := hI3.out.size; have := hI3.out.ok.under2; omega)
            clear hu hx hc0 hc1 hc2
            go_wp2_with fail
            go_quiet (fail)
            go_wp2_with fail
            refine ((hB3.below (bl_drewN (bl_refl _) _)).under hI3.out.ok).mono ?_
            rintro e w4 ⟨uo, uc, rfl, _, hB4⟩
            have hu4 := hu3.out
            go_wp2
            go_roundw
            case rel => exact ⟨i + 1, out, _, qs, vs, by omega, by go_num, rfl, hI3, hB4⟩
            case measure => simp [intOf]; omega
          | true =>
            have hI3 := Lib.hid (hI.out.send hcan)
            have hu3 := Lib.hid (show s.send.under ≤ n by have := hI3.out.size; have := hI3.out.ok.under2; omega)
            obtain ⟨ho, hnum, y, hy, hyb⟩ := hI.out.sent hcan
            obtain ⟨gv, gcap, rfl, hcy⟩ := hB3.at_ hy
            have v1 : ∀ nq, (convert 28 9 u).run Try.prog (w3.drewN nq) = .ok (.string (strOfNums s.sendP)) (w3.drewN nq) := fun nq => conv_reads (hu.1.1.below (bl_drewN (bl_refl _) nq))
            have v2 : ∀ nq, (convert 28 9 y).run Try.prog (w3.drewN nq) = .ok (.string (strOfNums s.sendP)) (w3.drewN nq) := fun nq => conv_reads ((hyb.below hB3.bl).1.below (bl_drewN (bl_refl _) nq))
            have ho300 : out < 300 := by have := hI.out.few; have := hI.out.len; omega
            have hT : (out : Int).tmod 128 = (s.sendN : Int) := by rw [Int.tmod_eq_emod_of_nonneg (by omega), hnum]
            have hgd : decide ((vs.length : Int) ≤ (out : Int)) = false := by simp; omega
            have hoI : (out : Int) < (vs.length : Int) := by omega
            clear hu hx hc0 hc1 hc2 hnum hyb hy
            go_wp2_with fail
            go_quiet (fail)
            clear hT
            go_wp2_with fail
            refine ((hB3.below (bl_drewN (bl_refl _) _)).under hI3.out.ok).mono ?_
            rintro e w4 ⟨uo, uc, rfl, _, hB4⟩
            have hu4 := hu3.out
            go_wp2
            go_roundw
            case rel => exact ⟨i + 1, out + 1, _, qs, vs, by omega, by go_num, by go_num, hI3, hB4⟩
            case measure => simp [intOf]; omega
    · obtain rfl : i = l'.length := by omega
      go_wp2_with fail
      refine (awake_any _).mono ?_
      rintro e w5 ⟨rfl, hb⟩
      go_wp2
      go_ret
      exact ⟨rfl, bl_trans hB.bl hb⟩

theorem walkSenderOrder (n : Int) (_ : (Lit.int .i64 n).wf = true) (v : Value) (l : List Act3) (w : World) (hl : ActsAt w.heap.size w v l) :
    Calls Try.prog 4 #[.int .i64 n, v] w fun e w' => e = .returned (.bool true) ∧ Below w.heap.size w w' := by
  by_cases h : n < 1 ∨ 63 < n
  · exact order_bad n v h w
  · obtain ⟨n, rfl⟩ := Int.eq_ofNat_of_zero_le (show 0 ≤ n by omega)
    exact order_ok n v l (by omega) (by omega) w hl

end Go.Proofs.Ytgfcppjahebidaa
