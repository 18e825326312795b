/- The walk of the statement SenderAgain. Conditions: the arguments' own. -/
import Derived.WalkKit
import Derived.Lib.Hide
import Derived.BigQuiet
import Derived.Test.YtgfcppjahebidaaSndSide
namespace Go.Proofs.Ytgfcppjahebidaa
open Go.RowKit

set_option maxRecDepth 100000 in
set_option maxHeartbeats 1000000 in
theorem again_bad' (n : Int) (v : Value) (h : n < 1 ∨ 63 < n) (w : World) :
    Calls Try.prog 6 #[.int .i64 n, v] w fun e w' => e = .returned (.bool true) ∧ Below w.heap.size w w' := by
  have hh := Lib.hid h
  rcases h with h | h
  all_goals
    go_enter Try.func6, Try.ntmps6
    go_wp2_with fail
    refine (snew_bad n hh.out _).mono ?_
    rintro e w1 ⟨rfl, rfl⟩
    go_wp2_with fail
    refine (awake_any _).mono ?_
    rintro e w2 ⟨rfl, hb⟩
    go_wp2
    go_ret
    exact ⟨rfl, hb⟩

set_option maxRecDepth 100000 in
set_option maxHeartbeats 2000000 in
theorem again_ok' (n : Nat) (v : Value) (l : List Act3) (h1 : 1 ≤ n) (h2 : n ≤ 63) (w : World) (hl : ActsAt w.heap.size w v l) :
    Calls Try.prog 6 #[.int .i64 n, v] w fun e w' => e = .returned (.bool true) ∧ Below w.heap.size w w' := by
  go_enter Try.func6, Try.ntmps6
  go_wp2_with fail
  refine (Mine.new n h1 h2 _).mono ?_
  rintro e w1 ⟨rfl, hM⟩
  generalize hg : w.heap.size = g at hM ⊢
  rw [← hg]
  go_wp2_with fail
  refine (cut_any (hl.below hM.2)).mono ?_
  rintro e w2 ⟨v', l', rfl, h300, hl2, rfl⟩
  replace hl2 := hl2 _ hl
  clear hl
  obtain ⟨ao, cap, rfl⟩ : ∃ ao cap, v' = .slice ao l'.length cap := by
    obtain ⟨_, ao, cap, hv, _⟩ := hl2
    exact ⟨ao, cap, hv⟩
  have hmk := make_strs w1
  go_wp2_with fail
  clear hmk
  have hB := Side.start hM strRow
  have hI : AInv ⟨n, 0, [], 0⟩ strRow := ⟨new_ok h1 h2, strRow_size, fun j hj => by simp at hj⟩
  generalize w1.heap.size = h at hB ⊢
  clear hM
  go_loopw [8] (fun kk wr => ∃ (i : Nat) (s : Snd) (cur : Array Value), i ≤ l'.length ∧ kk = .int .i64 i ∧ Hid (AInv s cur) ∧ Side w g h s cur wr) (fun kk _ => l'.length - (intOf kk).toNat)
  case atStart => exact ⟨0, _, _, by omega, rfl, hI, hB⟩
  case round =>
    clear hB hI
    obtain ⟨i, s, cur, hile, rfl, hI, hB⟩ := hrel
    by_cases hlt : i < l'.length
    · obtain ⟨c, hci⟩ := get_some hlt
      obtain ⟨b, o, x, rfl, hbw, hc0, hc1, hc2, hx, hxl, _, _⟩ := hl2.at_ hci
      replace hc0 := (hB.bl.cell (p := ⟨b, _, none⟩) hbw).trans hc0
      replace hc1 := (hB.bl.cell (p := ⟨b, _, none⟩) hbw).trans hc1
      replace hc2 := (hB.bl.cell (p := ⟨b, _, none⟩) hbw).trans hc2
      clear hci
      rw [← Nat.add_assoc] at hc1 hc2
      by_cases k0 : c.k = 0
      · go_wp2_with fail
        refine (hB.push (hx.below hB.bl).1 hx.2.1).mono ?_
        rintro e w3 ⟨rfl, hB3⟩
        have hI3 := Lib.hid (hI.out.push c.p)
        clear hc0 hc1 hc2 hI hB hx
        go_wp2
        go_roundw
        case rel => exact ⟨i + 1, _, _, by omega, by go_num, hI3, hB3⟩
        case measure => simp [intOf]; omega
      · by_cases k2 : c.k = 2
        · go_wp2_with fail
          refine (hB.ack hI.out.ok _).mono ?_
          rintro e w3 ⟨rfl, hB3⟩
          have hI3 := Lib.hid (hI.out.ack c.n)
          clear hc0 hc1 hc2 hI hB hx
          go_wp2
          go_roundw
          case rel => exact ⟨i + 1, _, _, by omega, by go_num, hI3, hB3⟩
          case measure => simp [intOf]; omega
        · go_wp2_with fail
          refine (hB.send hI.out.ok).mono ?_
          rintro e w3 ⟨u, rfl, hu, hB3⟩
          cases hcan : s.can with
          | false =>
            have hI3 := Lib.hid (hI.out.send_no hcan)
            clear hc0 hc1 hc2 hI hB hx hu
            go_wp2
            go_roundw
            case rel => exact ⟨i + 1, _, _, by omega, by go_num, hI3, hB3⟩
            case measure => simp [intOf]; omega
          | true =>
            have hI3 := Lib.hid (hI.out.send hcan)
            have hn128 : s.sendN < 128 := by unfold Snd.sendN; split <;> omega
            have hv := conv_reads hu.1.1
            have hcell : ∃ y, w3.cell? ⟨h, s.sendN, none⟩ = some y := by
              have h128 := hI.out.size
              refine ⟨cur[s.sendN]'(by omega), ?_⟩
              rw [cell_of_row _ _ _ _ _ _ hB3.row]
              exact Array.getElem?_eq_getElem _
            obtain ⟨y, hy⟩ := hcell
            have hfz : w3.frozen? ⟨h, s.sendN, none⟩ = false := frozen_of' hB3.row
            have hset := hB3.set s.sendN (.string (strOfNums s.sendP))
            generalize s.sendN = m at hI3 hn128 hy hfz hset ⊢
            generalize s.sendP = q at hI3 hv hset ⊢
            have hand : bits .and .i64 (m : Int) 127 = (m : Int) := by rw [and127]; omega
            clear hc0 hc1 hc2 hI hB hx hu hB3
            go_wp2
            go_roundw
            case rel => exact ⟨i + 1, _, _, by omega, by go_num, hI3, hset⟩
            case measure => simp [intOf]; omega
    · obtain rfl : i = l'.length := by omega
      go_wp2_with fail
      refine (hB.under hI.out.ok).mono ?_
      rintro e w3 ⟨u, rfl, hu, hB3⟩
      clear hl2 hB
      go_wp2
      go_loopw [13] (fun kk wr => ∃ (i : Nat), i ≤ 128 ∧ kk = .int .i64 i ∧ Below w3.heap.size w3 wr) (fun kk _ => 128 - (intOf kk).toNat)
      case atStart => exact ⟨0, by omega, rfl, bl_refl _⟩
      case round =>
        obtain ⟨i, hile, rfl, hb⟩ := hrel
        have hB4 := hB3.below hb
        by_cases hlt : i < 128
        · have hH := has_under hI.out.ok i hlt
          go_wp2_with fail
          refine (hB4.again hI.out.ok i).mono ?_
          rintro e w4 ⟨q, rfl, hq, hb4⟩
          have hu4 := (hu.below hb).below hb4
          by_cases hE : s.againE i = 0
          · have hcell : w4.cell? ⟨h, i, none⟩ = some (.string (strOfNums (s.againP i))) := by
              rw [cell_of_row _ _ _ _ _ _ (hB4.below hb4).row]
              exact hI.out.again hE
            have hv : ∀ nq, (convert 28 9 q).run Try.prog (w4.drewN nq) = .ok (.string (strOfNums (s.againP i))) (w4.drewN nq) := fun nq => conv_reads (hq.below (bl_drewN (bl_refl _) nq))
            rw [decide_eq_true hE] at hH
            rw [hE]
            have hlI : (i : Int) < 128 := by omega
            clear hq
            go_wp2_with fail
            go_quiet ((go_at_call 21; exact quiet_left' (rhas_any _ s.unders _ _ (hu4.below (bl_drewN (bl_refl _) _)))))
            go_wp2
            go_roundw
            case rel => exact ⟨i + 1, by omega, by go_num, below_drewN (bl_trans hb hb4) _⟩
            case measure => simp [intOf]; omega
          · have hE4 : s.againE i = 4 := by
              unfold Snd.againE at hE ⊢
              rw [if_neg (by omega)] at hE ⊢
              split at hE <;> simp_all
            rw [decide_eq_false hE] at hH
            rw [hE4]
            clear hq hE hE4
            go_wp2_with fail
            go_quiet ((go_at_call 21; exact quiet_left' (rhas_any _ s.unders _ _ (hu4.below (bl_drewN (bl_refl _) _)))))
            go_wp2
            go_roundw
            case rel => exact ⟨i + 1, by omega, by go_num, below_drewN (bl_trans hb hb4) _⟩
            case measure => simp [intOf]; omega
        · obtain rfl : i = 128 := by omega
          go_wp2_with fail
          refine (awake_any _).mono ?_
          rintro e w6 ⟨rfl, hb6⟩
          go_wp2
          go_ret
          exact ⟨rfl, bl_trans (bl_trans hB3.bl hb) hb6⟩

theorem walkSenderAgain (n : Int) (_ : (Lit.int .i64 n).wf = true) (v : Value) (l : List Act3) (w : World) (hl : ActsAt w.heap.size w v l) :
    Calls Try.prog 6 #[.int .i64 n, v] w fun e w' => e = .returned (.bool true) ∧ Below w.heap.size w w' := by
  by_cases h : n < 1 ∨ 63 < n
  · exact again_bad' n v h w
  · obtain ⟨n, rfl⟩ := Int.eq_ofNat_of_zero_le (show 0 ≤ n by omega)
    exact again_ok' n v l (by omega) (by omega) w hl

end Go.Proofs.Ytgfcppjahebidaa
