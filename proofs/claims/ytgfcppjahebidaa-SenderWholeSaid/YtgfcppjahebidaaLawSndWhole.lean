/- The walk of the statement SenderWhole. Conditions: the arguments' own. -/
import Derived.WalkKit
import Derived.Lib.Hide
import Derived.BigQuiet
import Derived.Test.YtgfcppjahebidaaSndTrio
namespace Go.Proofs.Ytgfcppjahebidaa
open Go.RowKit

theorem own_ge (g : Nat) : ∀ k, (Value.slice (some ⟨g, 0, none⟩) 0 0).ownBlock = some k → g ≤ k := by
  intro k hk
  simp [Value.ownBlock] at hk
  omega
/-- What holds ahead of each round: what is gone and what the sender has are together what was pushed. -/
structure WInv (s : Snd) (qs : List (List Int)) (gone i : Nat) : Prop where
  ok : s.Ok
  few : qs.length ≤ i
  le : gone ≤ qs.length
  ps : s.ps = qs.drop gone
  base : s.base = gone % 128
theorem WInv.push {s : Snd} {qs : List (List Int)} {gone i : Nat} (h : WInv s qs gone i) {p : List Int} (hE : s.pushE p = 0) : WInv (s.push p) (qs ++ [p]) gone (i + 1) := by
  have hp : s.push p = { s with ps := s.ps ++ [p] } := by unfold Snd.push; rw [if_pos hE]
  have hok := Snd.push_ok h.ok p
  rw [hp] at hok ⊢
  refine ⟨hok, by have := h.few; simp; omega, by have := h.le; simp; omega, ?_, h.base⟩
  show s.ps ++ [p] = _
  rw [List.drop_append_of_le_length h.le, h.ps]
theorem WInv.push_no {s : Snd} {qs : List (List Int)} {gone i : Nat} (h : WInv s qs gone i) {p : List Int} (hE : s.pushE p ≠ 0) : WInv (s.push p) qs gone (i + 1) := by
  have hp : s.push p = s := by unfold Snd.push; rw [if_neg hE]
  rw [hp]
  exact ⟨h.ok, by have := h.few; omega, h.le, h.ps, h.base⟩
theorem WInv.ack {s : Snd} {qs : List (List Int)} {gone i : Nat} (h : WInv s qs gone i) (nr : Int) : WInv (s.ack nr) qs (gone + s.ackN nr) (i + 1) := by
  have hok := Snd.ack_ok h.ok nr
  by_cases hE : s.ackE nr = 0
  · obtain ⟨hn, hm⟩ := ackE_zero hE
    obtain ⟨hN, hM⟩ := ackN_zero hE
    have ha : s.ack nr = ⟨s.size, nr.toNat, s.ps.drop (s.ackN nr), s.under - s.ackN nr⟩ := by unfold Snd.ack; rw [if_pos hE]
    rw [ha] at hok ⊢
    have hu := h.ok.under1
    have hg := h.le
    have hb := h.base
    have hl : s.ps.length = qs.length - gone := by rw [h.ps, List.length_drop]
    refine ⟨hok, by have := h.few; omega, by omega, ?_, ?_⟩
    · show s.ps.drop _ = _
      rw [h.ps, List.drop_drop]
    · show nr.toNat = _
      omega
  · have ha : s.ack nr = s := by unfold Snd.ack; rw [if_neg hE]
    have hn : s.ackN nr = 0 := by unfold Snd.ackN; rw [if_neg hE]
    rw [ha, hn]
    exact ⟨h.ok, by have := h.few; omega, h.le, h.ps, h.base⟩
theorem WInv.send {s : Snd} {qs : List (List Int)} {gone i : Nat} (h : WInv s qs gone i) : WInv s.send qs gone (i + 1) := by
  have hok := Snd.send_ok h.ok
  have hp : s.send.ps = s.ps ∧ s.send.base = s.base := by unfold Snd.send; split <;> exact ⟨rfl, rfl⟩
  exact ⟨hok, by have := h.few; omega, h.le, hp.1.trans h.ps, hp.2.trans h.base⟩
/-- What the law looks at behind each round. -/
theorem WInv.look {s : Snd} {qs : List (List Int)} {gone i : Nat} (h : WInv s qs gone i) (hi : i ≤ 301) : (gone : Int) + (s.ps.length : Int) = (qs.length : Int) ∧ (s.base : Int) = (gone : Int) % 128 ∧ gone ≤ 301 ∧ s.ps.length ≤ 64 := by
  have hg := h.le
  have hb := h.base
  have hf := h.few
  have hl : s.ps.length = qs.length - gone := by rw [h.ps, List.length_drop]
  have := h.ok.len
  omega

set_option maxRecDepth 100000 in
set_option maxHeartbeats 1000000 in
theorem whole_bad (n : Int) (v : Value) (h : n < 1 ∨ 63 < n) (w : World) :
    Calls Try.prog 5 #[.int .i64 n, v] w fun e w' => e = .returned (.bool true) ∧ Below w.heap.size w w' := by
  have hh := Lib.hid h
  rcases h with h | h
  all_goals
    go_enter Try.func5, Try.ntmps5
    go_wp2_with fail
    refine (snew_bad n hh.out _).mono ?_
    rintro e w1 ⟨rfl, rfl⟩
    go_wp2_with fail
    refine (awake_any _).mono ?_
    rintro e w2 ⟨rfl, hb⟩
    go_wp2
    go_ret
    exact ⟨rfl, hb⟩

set_option maxRecDepth 100000 in
set_option maxHeartbeats 2000000 in
theorem whole_ok (n : Nat) (v : Value) (l : List Act3) (h1 : 1 ≤ n) (h2 : n ≤ 63) (w : World) (hl : ActsAt w.heap.size w v l) :
    Calls Try.prog 5 #[.int .i64 n, v] w fun e w' => e = .returned (.bool true) ∧ Below w.heap.size w w' := by
  go_enter Try.func5, Try.ntmps5
  go_wp2_with fail
  refine (Mine.new n h1 h2 _).mono ?_
  rintro e w1 ⟨rfl, hM⟩
  generalize hg : w.heap.size = g at hM ⊢
  rw [← hg]
  go_wp2_with fail
  refine (cut_any (hl.below hM.2)).mono ?_
  rintro e w2 ⟨v', l', rfl, h300, hl2, rfl⟩
  replace hl2 := hl2 _ hl
  clear hl
  obtain ⟨ao, cap, rfl⟩ : ∃ ao cap, v' = .slice ao l'.length cap := by
    obtain ⟨_, ao, cap, hv, _⟩ := hl2
    exact ⟨ao, cap, hv⟩
  go_wp2_with fail
  have hB := Trio.start hM #[] rfl
  have hI : WInv ⟨n, 0, [], 0⟩ [] 0 0 := ⟨new_ok h1 h2, by simp, by simp, rfl, rfl⟩
  go_loopw [7, 8, 9] (fun pv ov kk wr => ∃ (i gone : Nat) (s : Snd) (qs : List (List Int)) (vs : List Value), i ≤ l'.length ∧ kk = .int .i64 i ∧ ov = .int .i64 gone ∧ Hid (WInv s qs gone i) ∧ Trio w g s pv vs qs wr) (fun _ _ kk _ => l'.length - (intOf kk).toNat)
  case atStart => exact ⟨0, 0, _, [], [], by omega, rfl, rfl, hI, hB⟩
  case round =>
    clear hM hB hI
    obtain ⟨i, gone, s, qs, vs, hile, rfl, rfl, hI, hB⟩ := hrel
    obtain ⟨pvo, pvc, rfl⟩ := owns_form' hB.owns
    by_cases hlt : i < l'.length
    · obtain ⟨c, hci⟩ := get_some hlt
      obtain ⟨b, o, x, rfl, hbw, hc0, hc1, hc2, hx, hxl, _, _⟩ := hl2.at_ hci
      replace hc0 := (hB.bl.cell (p := ⟨b, _, none⟩) hbw).trans hc0
      replace hc1 := (hB.bl.cell (p := ⟨b, _, none⟩) hbw).trans hc1
      replace hc2 := (hB.bl.cell (p := ⟨b, _, none⟩) hbw).trans hc2
      obtain ⟨xo, xc, rfl⟩ : ∃ xo xc, x = .slice xo c.p.length xc := by
        obtain ⟨⟨_, xo, xc, h, _⟩, _⟩ := hx
        exact ⟨xo, xc, h⟩
      clear hci
      rw [← Nat.add_assoc] at hc1 hc2
      by_cases k0 : c.k = 0
      · go_wp2_with fail
        refine (hB.push (hx.below hB.bl).1 hx.2.1).mono ?_
        rintro e w3 ⟨rfl, hB3, hbl⟩
        replace hc2 := (hbl.cell (p := ⟨b, _, none⟩) hbw).trans hc2
        clear hc0 hc1
        by_cases hE : s.pushE c.p = 0
        · have hI3 := Lib.hid (hI.out.push hE)
          have hL := Lib.hid (hI3.out.look (by omega))
          have hp121 := (pushE_zero hE).1.2
          have hvl : vs.length ≤ 300 := by have := hI.out.few; have := hB.len'; omega
          have hsz3 := hB3.bl.size
          have hx3 := ((hx.below hB3.bl).1.below (bl_alloc (bl_refl w3) (.cells #[] 5)))
          have hwx := hx.2.1
          replace hc2 := ((bl_alloc (bl_refl w3) (.cells #[] 5)).cell (p := ⟨b, _, none⟩) (show b < w3.heap.size by omega)).trans hc2
          rw [hE]
          obtain ⟨j0, hj, hy0, hy1, hy2⟩ := info_parts infoBytes
          obtain ⟨i0, hi, hz0, hz1, hz2⟩ := info_parts infoByte'
          clear hx hI hB
          have A1 : (0 : Nat) + c.p.length ≤ maxLen := by simp only [maxLen]; omega
          have A2 : (0 + c.p.length) * 1 ≤ 140737488355328 := by omega
          have A3 : w3.heap.size ≤ (w3.alloc (.cells #[] 5)).heap.size := by simp
          have B1 : vs.length + 1 ≤ maxLen := by simp only [maxLen]; omega
          have B2 : (vs.length + 1) * 24 ≤ 140737488355328 := by omega
          go_wp2_with (first | (at_builtin; refine wpList_append_r _ rfl _ _ 28 rfl w3.heap.size 5 i0 (.int .u8 0) 1 Try.underlying28 hi hz0 hz1 hz2 rfl _ _ _ rfl (owns_empty w3 5 (Nat.le_refl _)) (Value.int .u8) _ c.p rfl hx3 (by simp [Value.oneCell']) A1 A2 A3 ?_; intro v1 w4 hown1 hgrow1 hne1; rw [Nat.zero_add, List.nil_append] at hown1; obtain ⟨q1, qc1, rfl⟩ := owns_form' hown1; have hb4 : Below w3.heap.size w3 w4 := bl_grown (bl_alloc (bl_refl w3) _) hgrow1 (own_ge w3.heap.size)) | (at_builtin; refine wpList_append_r _ rfl _ _ 38 rfl w.heap.size 28 j0 (.slice none 0 0) 24 Try.underlying38 hj hy0 hy1 hy2 rfl _ _ _ rfl (((hB3.below hb4).below (bl_alloc (bl_refl w4) _)).owns) id _ [.slice q1 c.p.length qc1] rfl (reads_one id _ _ _) (by simp [Value.oneCell']) B1 B2 (((hB3.below hb4).below (bl_alloc (bl_refl w4) _)).bl.size) ?_; intro v' w5 hown' hgrow hne'))
          have hx4 : Byt (fun k => w3.heap.size ≤ k ∧ k < (w4.alloc (.cells #[.slice q1 c.p.length qc1] 28)).heap.size) (w4.alloc (.cells #[.slice q1 c.p.length qc1] 28)) (.slice q1 c.p.length qc1) c.p := ⟨((Rd.of_owns hown1 (by simp only [maxLen]; omega)).below (bl_alloc (bl_refl w4) _)).mono (fun k hk => ⟨hk.1, by simp; omega⟩), hwx⟩
          have hT := Trio.grown hB3 (bl_alloc hb4 _) hx4 (by simpa using hown') hgrow hne'
          clear hown' hgrow hne' hx4 hown1 hgrow1 hne1 hb4 hx3 hwx hB3 hL hsz3
          generalize vs ++ [Value.slice q1 c.p.length qc1] = vs2 at hT
          obtain ⟨ao', cap', rfl⟩ := owns_form' hT.owns
          refine hT.len.mono ?_
          rintro e w6 ⟨rfl, rfl⟩
          have hv2 := hT.len'
          have hL := hI3.out.look (by omega)
          have hsum : (gone : Int) + ((s.push c.p).ps.length : Int) = (vs2.length : Int) := by have := hL.1; push_cast at *; omega
          have hbs : ((s.push c.p).base : Int) = ((gone : Int)) % 128 := by have := hL.2.1; push_cast at this; exact this
          have hb1 := hL.2.2.1
          have hb2 := hL.2.2.2
          clear hL hv2
          go_wp2_with fail
          refine hT.base.mono ?_
          rintro e w7 ⟨rfl, rfl⟩
          rw [hbs]
          go_wp2
          go_roundw
          case rel => exact ⟨i + 1, gone, _, _, _, by omega, by go_num, by go_num, hI3, hT⟩
          case measure => simp [intOf]; omega
        · have hI3 := Lib.hid (hI.out.push_no hE)
          clear hx hI hB
          go_wp2_with fail
          refine hB3.len.mono ?_
          rintro e w6 ⟨rfl, rfl⟩
          have hv2 := hB3.len'
          have hL := hI3.out.look (by omega)
          have hsum : (gone : Int) + ((s.push c.p).ps.length : Int) = (vs.length : Int) := by have := hL.1; push_cast at *; omega
          have hbs : ((s.push c.p).base : Int) = ((gone : Int)) % 128 := by have := hL.2.1; push_cast at this; exact this
          have hb1 := hL.2.2.1
          have hb2 := hL.2.2.2
          clear hL hv2
          go_wp2_with fail
          refine hB3.base.mono ?_
          rintro e w7 ⟨rfl, rfl⟩
          rw [hbs]
          go_wp2
          go_roundw
          case rel => exact ⟨i + 1, gone, _, _, _, by omega, by go_num, by go_num, hI3, hB3⟩
          case measure => simp [intOf]; omega
      · by_cases k2 : c.k = 2
        · have hI3 := Lib.hid (hI.out.ack c.n)
          have hLa := hI3.out.look (by omega)
          have hLb := hI.out.look (by omega)
          have ha1 : s.ackN c.n ≤ 301 := by omega
          have ha2 : gone ≤ 301 := by omega
          clear hLa hLb hx
          go_wp2_with fail
          refine (hB.ack hI.out.ok _).mono ?_
          rintro e w3 ⟨rfl, hB3⟩
          clear hI hB
          go_wp2_with fail
          refine hB3.len.mono ?_
          rintro e w6 ⟨rfl, rfl⟩
          have hv2 := hB3.len'
          have hL := hI3.out.look (by omega)
          have hsum : ((gone : Int) + (s.ackN c.n : Int)) + ((s.ack c.n).ps.length : Int) = (vs.length : Int) := by have := hL.1; push_cast at *; omega
          have hbs : ((s.ack c.n).base : Int) = (((gone : Int) + (s.ackN c.n : Int))) % 128 := by have := hL.2.1; push_cast at this; exact this
          have hb1 := hL.2.2.1
          have hb2 := hL.2.2.2
          clear hL hv2
          go_wp2_with fail
          refine hB3.base.mono ?_
          rintro e w7 ⟨rfl, rfl⟩
          rw [hbs]
          go_wp2
          go_roundw
          case rel => exact ⟨i + 1, gone + s.ackN c.n, _, _, _, by omega, by go_num, by go_num, hI3, hB3⟩
          case measure => simp [intOf]; omega
        · have hI3 := Lib.hid hI.out.send
          clear hx
          go_wp2_with fail
          refine (hB.send hI.out.ok).mono ?_
          rintro e w3 ⟨u, rfl, _, hB3⟩
          clear hI hB
          go_wp2_with fail
          refine hB3.len.mono ?_
          rintro e w6 ⟨rfl, rfl⟩
          have hv2 := hB3.len'
          have hL := hI3.out.look (by omega)
          have hsum : (gone : Int) + (s.send.ps.length : Int) = (vs.length : Int) := by have := hL.1; push_cast at *; omega
          have hbs : (s.send.base : Int) = ((gone : Int)) % 128 := by have := hL.2.1; push_cast at this; exact this
          have hb1 := hL.2.2.1
          have hb2 := hL.2.2.2
          clear hL hv2
          go_wp2_with fail
          refine hB3.base.mono ?_
          rintro e w7 ⟨rfl, rfl⟩
          rw [hbs]
          go_wp2
          go_roundw
          case rel => exact ⟨i + 1, gone, _, _, _, by omega, by go_num, by go_num, hI3, hB3⟩
          case measure => simp [intOf]; omega
    · obtain rfl : i = l'.length := by omega
      have hgl := hI.out.le
      have hps := Lib.hid hI.out.ps
      have hok := hI.out.ok
      clear hI hl2
      obtain ⟨ao2, cap2, hv2, hk2, hc2, _⟩ := hB.drop gone hgl
      cases hv2
      go_wp2_with fail
      refine hB.reset.mono ?_
      rintro e w3 ⟨u, rfl, hu, hT⟩
      rw [hps.out] at hu
      obtain ⟨ao3, cap3, hv3, _, _, hd⟩ := hT.drop gone hgl
      cases hv3
      have hcut : ∀ W, (Instr.sliceAt 38 (.slice pvo vs.length pvc) (some (.int .i64 gone)) none none).run Try.prog W = .ok (.slice (if pvc = gone then pvo else pvo.map (·.add gone)) (vs.length - gone) (pvc - gone)) W := fun W => by
        obtain ⟨j0, hj, hy0, hy1, hy2⟩ := info_parts infoBytes
        exact run_cut_from (P := Try.prog) Try.underlying38 hj hy1 W pvo vs.length pvc gone hk2
      generalize hcv : Value.slice (if pvc = gone then pvo else pvo.map (·.add gone)) (vs.length - gone) (pvc - gone) = cv at hcut hd
      clear hcv
      go_wp2_with fail
      refine (same03_eq u cv _ _ hu hd).mono ?_
      rintro e w4 ⟨rfl, hb4⟩
      have hT4 := hT.below hb4
      go_wp2_with fail
      refine hT4.len.mono ?_
      rintro e w5 ⟨rfl, rfl⟩
      go_wp2_with fail
      refine hT4.base.mono ?_
      rintro e w5 ⟨rfl, rfl⟩
      go_wp2_with fail
      refine (hT4.under ⟨hok.size1, hok.size2, by simp, by simp, by simp, by simp, by simp⟩).mono ?_
      rintro e w5 ⟨uo, uc, rfl, _, hT5⟩
      go_wp2_with fail
      refine (awake_any _).mono ?_
      rintro e w6 ⟨rfl, hb6⟩
      go_wp2
      go_ret
      exact ⟨rfl, bl_trans hT5.bl hb6⟩

theorem walkSenderWhole (n : Int) (_ : (Lit.int .i64 n).wf = true) (v : Value) (l : List Act3) (w : World) (hl : ActsAt w.heap.size w v l) :
    Calls Try.prog 5 #[.int .i64 n, v] w fun e w' => e = .returned (.bool true) ∧ Below w.heap.size w w' := by
  by_cases h : n < 1 ∨ 63 < n
  · exact whole_bad n v h w
  · obtain ⟨n, rfl⟩ := Int.eq_ofNat_of_zero_le (show 0 ≤ n by omega)
    exact whole_ok n v l (by omega) (by omega) w hl

end Go.Proofs.Ytgfcppjahebidaa
