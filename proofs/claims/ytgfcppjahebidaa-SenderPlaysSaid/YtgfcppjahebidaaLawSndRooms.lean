/- The walk of the statement SenderRooms. Conditions: the arguments' own. -/
import Derived.WalkKit
import Derived.Lib.Hide
import Derived.Test.YtgfcppjahebidaaSndAwake
namespace Go.Proofs.Ytgfcppjahebidaa
open Go.RowKit

theorem reads_lit1 (w : World) (x : Int) (e : TypeId) : Reads (Value.int .u8) (w.alloc (.cells #[.int .u8 x] e)) (.slice (some ⟨w.heap.size, 0, none⟩) 1 1) [x] := reads_one (Value.int .u8) w x e
theorem push_room {s : Snd} (h : s.ps.length < 64) (x : Int) : s.pushE [x] = 0 ∧ (s.push [x]).size = s.size ∧ (s.push [x]).base = s.base ∧ (s.push [x]).under = s.under ∧ (s.push [x]).ps.length = s.ps.length + 1 := by
  have hE : s.pushE [x] = 0 := by unfold Snd.pushE; simp; omega
  unfold Snd.push
  rw [if_pos hE]
  exact ⟨hE, rfl, rfl, rfl, by simp⟩
theorem push_full {s : Snd} (h : s.ps.length = 64) (x : Int) : s.pushE [x] = 6 ∧ s.push [x] = s := by
  have hE : s.pushE [x] = 6 := by unfold Snd.pushE; simp; omega
  exact ⟨hE, by unfold Snd.push; rw [if_neg (by omega)]⟩
/-- A sender that is the call's own. -/
def Mine (w : World) (g : Nat) (s : Snd) (wr : World) : Prop := (∃ F : Nat → Prop, (∀ k, F k → w.heap.size ≤ k) ∧ SndAt F wr g s) ∧ Below w.heap.size w wr
theorem Mine.alloc {w wr : World} {g : Nat} {s : Snd} (h : Mine w g s wr) (o : Obj) : Mine w g s (wr.alloc o) := by
  obtain ⟨⟨F, hF, hs⟩, hB⟩ := h
  exact ⟨⟨F, hF, hs.below (bl_alloc (bl_refl wr) o)⟩, bl_alloc hB o⟩
theorem Mine.below {w wr w' : World} {g : Nat} {s : Snd} (h : Mine w g s wr) (hb : Below wr.heap.size wr w') : Mine w g s w' := by
  obtain ⟨⟨F, hF, hs⟩, hB⟩ := h
  exact ⟨⟨F, hF, hs.below hb⟩, bl_trans hB hb⟩
theorem Mine.push {w wr : World} {g : Nat} {s : Snd} (h : Mine w g s wr) {v : Value} {p : List Int} (hr : Reads (Value.int .u8) wr v p) (hw : ∀ n ∈ p, (Lit.int .u8 n).wf = true) :
    Calls Try.prog 11 #[.pointer (some ⟨g, 0, none⟩), v] wr fun e w' => e = .returned (.int .i64 (s.pushE p)) ∧ Mine w g (s.push p) w' := by
  obtain ⟨⟨F, hF, hs⟩, hB⟩ := h
  refine (spush_any F g s v p wr hs hr hw).mono ?_
  rintro e w' ⟨rfl, hs', hFr⟩
  exact ⟨rfl, ⟨_, fun k hk => by rcases hk with hk | hk; exact hF k hk; have := hB.size; omega, hs'⟩, bl_fr hB hFr (by intro i hi; rw [hi]; exact hF g hs.2.1)⟩
theorem Mine.send {w wr : World} {g : Nat} {s : Snd} (h : Mine w g s wr) (hok : s.Ok) :
    Calls Try.prog 13 #[.pointer (some ⟨g, 0, none⟩)] wr fun e w' => ∃ u, e = .returned (.tuple #[.int .i64 s.sendN, u, .bool s.can]) ∧ Byt (fun k => wr.heap.size ≤ k) w' u s.sendP ∧ Mine w g s.send w' := by
  obtain ⟨⟨F, hF, hs⟩, hB⟩ := h
  refine (ssend_any F g s hok wr hs).mono ?_
  rintro e w' ⟨u, rfl, hu, hs', hFr⟩
  exact ⟨u, rfl, hu, ⟨F, hF, hs'⟩, bl_fr hB hFr (by intro i hi; rw [hi]; exact hF g hs.2.1)⟩
theorem Mine.ack {w wr : World} {g : Nat} {s : Snd} (h : Mine w g s wr) (hok : s.Ok) (nr : Int) :
    Calls Try.prog 14 #[.pointer (some ⟨g, 0, none⟩), .int .i64 nr] wr fun e w' => e = .returned (.tuple #[.int .i64 (s.ackN nr), .int .i64 (s.ackE nr)]) ∧ Mine w g (s.ack nr) w' := by
  obtain ⟨⟨F, hF, hs⟩, hB⟩ := h
  refine (sack_any F g s hok nr wr hs).mono ?_
  rintro e w' ⟨rfl, hs', hFr⟩
  exact ⟨rfl, ⟨F, hF, hs'⟩, bl_fr hB hFr hF⟩
theorem Mine.len {w wr : World} {g : Nat} {s : Snd} (h : Mine w g s wr) :
    Calls Try.prog 12 #[.pointer (some ⟨g, 0, none⟩)] wr fun e w' => e = .returned (.int .i64 s.ps.length) ∧ wr = w' := by
  obtain ⟨⟨F, hF, hs⟩, hB⟩ := h
  exact slen_any F g s wr hs
theorem Mine.new (n : Nat) (h1 : 1 ≤ n) (h2 : n ≤ 63) (w : World) :
    Calls Try.prog 9 #[.int .i64 n] w fun e w' => e = .returned (.tuple #[.pointer (some ⟨w.heap.size, 0, none⟩), .int .i64 0]) ∧ Mine w w.heap.size ⟨n, 0, [], 0⟩ w' := by
  refine (snew_ok n h1 h2 w).mono ?_
  rintro e w' ⟨rfl, hs, hB⟩
  exact ⟨rfl, ⟨_, fun k hk => by omega, hs⟩, hB⟩
theorem new_ok {n : Nat} (h1 : 1 ≤ n) (h2 : n ≤ 63) : (Snd.mk n 0 [] 0).Ok := ⟨h1, h2, by simp, by simp, by simp, by simp, by simp⟩

set_option maxRecDepth 100000 in
set_option maxHeartbeats 1000000 in
theorem rooms_bad (n more : Int) (h : n < 1 ∨ 63 < n) (w : World) :
    Calls Try.prog 3 #[.int .i64 n, .int .i64 more] w fun e w' => e = .returned (.bool true) ∧ Below w.heap.size w w' := by
  have hh := Lib.hid h
  rcases h with h | h
  all_goals
    go_enter Try.func3, Try.ntmps3
    go_wp2_with fail
    refine (snew_bad n hh.out _).mono ?_
    rintro e w1 ⟨rfl, rfl⟩
    go_wp2_with fail
    refine (awake_any _).mono ?_
    rintro e w2 ⟨rfl, hb⟩
    go_wp2
    go_ret
    exact ⟨rfl, hb⟩

set_option maxRecDepth 100000 in
set_option maxHeartbeats 1000000 in
theorem rooms_ok (n q : Nat) (more : Int) (h1 : 1 ≤ n) (h2 : n ≤ 63) (hq : (IntKind.u64.wrap more).tmod (n : Int) = (q : Int)) (hqn : q < n) (w : World) :
    Calls Try.prog 3 #[.int .i64 n, .int .i64 more] w fun e w' => e = .returned (.bool true) ∧ Below w.heap.size w w' := by
  go_enter Try.func3, Try.ntmps3
  go_wp2_with fail
  refine (Mine.new n h1 h2 _).mono ?_
  rintro e w1 ⟨rfl, hM⟩
  generalize w.heap.size = g at hM ⊢
  go_wp2_with fail
  have hok := new_ok h1 h2
  go_loopw [7] (fun kk wr => ∃ (i : Nat) (s : Snd), i ≤ 64 ∧ kk = .int .i64 i ∧ Hid (s.Ok ∧ s.size = n ∧ s.base = 0 ∧ s.under = 0 ∧ s.ps.length = i) ∧ Mine w g s wr) (fun kk _ => 64 - (intOf kk).toNat)
  case atStart => exact ⟨0, _, by omega, rfl, ⟨hok, rfl, rfl, rfl, rfl⟩, hM⟩
  case round =>
    clear hM hok
    obtain ⟨i, s, hile, rfl, hs, hM⟩ := hrel
    by_cases hlt : i < 64
    · have hp := Lib.hid (push_room (s := s) (by have := hs.out.2.2.2.2; omega) i)
      have hok := Snd.push_ok hs.out.1 [(i : Int)]
      go_wp2_with fail
      refine ((hM.alloc _).push (reads_lit1 _ _ _) (wf_one (Go.WalkArith.wf_u8 (by omega)))).mono ?_
      rintro e w2 ⟨rfl, hM2⟩
      rw [hp.out.1]
      go_wp2
      go_roundw
      case rel => exact ⟨i + 1, _, by omega, by go_num, ⟨hok, by rw [hp.out.2.1]; exact hs.out.2.1, by rw [hp.out.2.2.1]; exact hs.out.2.2.1, by rw [hp.out.2.2.2.1]; exact hs.out.2.2.2.1, by rw [hp.out.2.2.2.2]; rw [hs.out.2.2.2.2]⟩, hM2⟩
      case measure => simp [intOf]; omega
    · obtain rfl : i = 64 := by omega
      have hp := Lib.hid (push_full hs.out.2.2.2.2 1)
      go_wp2_with fail
      refine ((hM.alloc _).push (reads_lit1 _ _ _) (wf_one (by decide))).mono ?_
      rintro e w2 ⟨rfl, hM2⟩
      rw [hp.out.1]
      rw [hp.out.2] at hM2
      go_wp2_with fail
      refine hM2.len.mono ?_
      rintro e w3 ⟨rfl, rfl⟩
      rw [hs.out.2.2.2.2]
      have hs2 : Hid (s.Ok ∧ s.size = n ∧ s.base = 0 ∧ s.under = 0 ∧ s.ps.length = 64) := hs.out
      clear hs hp hM
      go_wp2
      go_loopw [9] (fun kk wr => ∃ (i : Nat) (s : Snd), i ≤ q + 1 ∧ kk = .int .i64 i ∧ Hid (s.Ok ∧ s.size = n ∧ s.base = 0 ∧ s.under = i ∧ s.ps.length = 64) ∧ Mine w g s wr) (fun kk _ => q + 1 - (intOf kk).toNat)
      case atStart => exact ⟨0, _, by omega, rfl, hs2, hM2⟩
      case round =>
        clear hM2 hs2
        obtain ⟨i, s, hile, rfl, hs, hM⟩ := hrel
        by_cases hlt : i < q + 1
        · have hcan : s.can = true := by
            have := hs.out
            simp [Snd.can]; omega
          have hsend : s.send = { s with under := s.under + 1 } := by unfold Snd.send; rw [if_pos hcan]
          have hok := Snd.send_ok hs.out.1
          have hsend := Lib.hid hsend
          clear hcan
          go_wp2_with fail
          refine (hM.send hs.out.1).mono ?_
          rintro e w3 ⟨u, rfl, _, hM2⟩
          go_wp2
          go_roundw
          case rel => exact ⟨i + 1, _, by omega, by go_num, ⟨hok, by rw [hsend.out]; exact hs.out.2.1, by rw [hsend.out]; exact hs.out.2.2.1, by rw [hsend.out]; show s.under + 1 = i + 1; rw [hs.out.2.2.2.1], by rw [hsend.out]; exact hs.out.2.2.2.2⟩, hM2⟩
          case measure => simp [intOf]; omega
        · obtain rfl : i = q + 1 := by omega
          have hE : s.ackE (1 + (q : Int)) = 0 := by
            have := hs.out
            unfold Snd.ackE
            rw [if_neg (by omega), if_neg (by omega)]
          have hN : ((s.ackN (1 + (q : Int)) : Nat) : Int) = 1 + (q : Int) := by
            have := ackN_zero hE
            have := hs.out
            omega
          have hA : (s.ack (1 + (q : Int))).ps.length = 64 - (q + 1) := by
            unfold Snd.ack
            rw [if_pos hE]
            have := hs.out
            show (s.ps.drop _).length = _
            rw [List.length_drop]
            omega
          have hok := Snd.ack_ok hs.out.1 (1 + (q : Int))
          have hE := Lib.hid hE
          have hN := Lib.hid hN
          have hA := Lib.hid hA
          go_wp2_with fail
          refine (hM.ack hs.out.1 _).mono ?_
          rintro e w3 ⟨rfl, hM2⟩
          rw [hE.out, hN.out]
          generalize s.ack (1 + (q : Int)) = s2 at hM2 hok hA
          have hs2 : Hid (s2.Ok ∧ s2.ps.length + 0 = 64 - (q + 1) + 0) := ⟨hok, by rw [hA.out]⟩
          clear hs hE hN hA hok hM
          go_wp2
          go_loopw [12] (fun kk wr => ∃ (i : Nat) (s : Snd), i ≤ q + 1 ∧ kk = .int .i64 i ∧ Hid (s.Ok ∧ s.ps.length = 64 - (q + 1) + i) ∧ Mine w g s wr) (fun kk _ => q + 1 - (intOf kk).toNat)
          case atStart => exact ⟨0, _, by omega, rfl, hs2, hM2⟩
          case round =>
            clear hM2 hs2
            obtain ⟨i, s, hile, rfl, hs, hM⟩ := hrel
            by_cases hlt : i < q + 1
            · have hp := Lib.hid (push_room (s := s) (by have := hs.out.2; omega) 2)
              have hok := Snd.push_ok hs.out.1 [2]
              go_wp2_with fail
              refine ((hM.alloc _).push (reads_lit1 _ _ _) (wf_one (by decide))).mono ?_
              rintro e w2 ⟨rfl, hM2⟩
              rw [hp.out.1]
              go_wp2
              go_roundw
              case rel => exact ⟨i + 1, _, by omega, by go_num, ⟨hok, by rw [hp.out.2.2.2.2, hs.out.2]; omega⟩, hM2⟩
              case measure => simp [intOf]; omega
            · obtain rfl : i = q + 1 := by omega
              have hp := Lib.hid (push_full (s := s) (by have := hs.out.2; omega) 1)
              go_wp2_with fail
              refine ((hM.alloc _).push (reads_lit1 _ _ _) (wf_one (by decide))).mono ?_
              rintro e w2 ⟨rfl, hM2⟩
              rw [hp.out.1]
              go_wp2_with fail
              refine (awake_any _).mono ?_
              rintro e w5 ⟨rfl, hb⟩
              go_wp2
              go_ret
              exact ⟨rfl, bl_trans hM2.2 hb⟩

theorem walkSenderRooms (n : Int) (hn : (Lit.int .i64 n).wf = true) (more : Int) (_ : (Lit.int .i64 more).wf = true) (w : World) :
    Calls Try.prog 3 #[.int .i64 n, .int .i64 more] w fun e w' => e = .returned (.bool true) ∧ Below w.heap.size w w' := by
  by_cases h : n < 1 ∨ 63 < n
  · exact rooms_bad n more h w
  · obtain ⟨n, rfl⟩ := Int.eq_ofNat_of_zero_le (show 0 ≤ n by omega)
    have h0 : 0 ≤ IntKind.u64.wrap more := by
      show 0 ≤ more % _
      exact Int.emod_nonneg _ (by decide)
    have h1 : (IntKind.u64.wrap more).tmod (n : Int) = IntKind.u64.wrap more % (n : Int) := Int.tmod_eq_emod_of_nonneg h0
    obtain ⟨q, hq⟩ := Int.eq_ofNat_of_zero_le (Int.emod_nonneg (IntKind.u64.wrap more) (show (n : Int) ≠ 0 by omega))
    have h2 := Int.emod_lt_of_pos (IntKind.u64.wrap more) (show (0 : Int) < n by omega)
    exact rooms_ok n q more (by omega) (by omega) (h1.trans hq) (by omega) w

end Go.Proofs.Ytgfcppjahebidaa
