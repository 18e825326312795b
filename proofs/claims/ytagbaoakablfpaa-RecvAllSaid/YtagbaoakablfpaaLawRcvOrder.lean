/- portagelaw08.RecvOrder: whatever comes, what is told is what was pushed, in order. Conditions: as they stand. -/
import Derived.Test.YtagbaoakablfpaaPairRow
import Derived.Test.YtagbaoakablfpaaOpenWays
namespace Go.Proofs.Ytagbaoakablfpaa
open Go.RowKit

theorem pinv_start {n : Nat} (h1 : 1 ≤ n) (h2 : n ≤ 63) : PInv n 0 ⟨⟨n, 0, [], 0⟩, ⟨n, 0, [], []⟩, [], [], []⟩ :=
  ⟨⟨h1, h2, by simp, by simp, by simp, by simp, by simp⟩, new_ok h1 h2, rfl, rfl, by simp, by simp, by simp, by simp, by simp, by simp, by simp, by simp, by simp, by simp, by simp⟩

/-- The pair between two rounds. -/
structure Played (w : World) (pb sg rg n m : Nat) (wr : World) : Prop where
  ex : ∃ (t : PSt) (col : Nat → Nat) (pv wv tv : Value), PairAt w.heap.size col wr pb sg rg pv wv tv t ∧ PInv n m t
  bl : Below w.heap.size w wr

set_option maxRecDepth 100000 in
set_option maxHeartbeats 2000000 in
theorem order_ok (n : Nat) (h1 : 1 ≤ n) (h2 : n ≤ 63) (v : Value) (l : List (Int × Int)) (w : World) (hl : WaysAt w.heap.size w v l) :
    Calls Try.prog 5 #[.int .i64 n, v] w fun e w' => e = .returned (.bool true) ∧ Below w.heap.size w w' := by
  obtain ⟨ao, cap, rfl, hlc, hm⟩ : ∃ ao cap, v = .slice ao l.length cap ∧ l.length ≤ cap ∧ l.length ≤ maxLen := by
    obtain ⟨hm, ao, cap, hv, hl, _⟩ := hl
    exact ⟨ao, cap, hv, hl, hm⟩
  simp only [maxLen] at hm
  have HL := Lib.hid hl
  have HB := begin_ok n h1 h2 w
  clear hl
  go_enter Try.func5, Try.ntmps5
  go_wp2_with fail
  refine HB.mono ?_
  rintro e w1 ⟨pb, rfl, col, sg, rg, pv, wv, tv, hp, hb⟩
  have H1 : Played w pb sg rg n 0 w1 := ⟨⟨_, _, _, _, _, hp, pinv_start h1 h2⟩, hb⟩
  have H1 := Lib.hid H1
  clear hp hb HB
  go_wp2_with fail
  go_loopw [6] (fun iv wr => ∃ i : Nat, iv = .int .i64 i ∧ i ≤ l.length ∧ i ≤ 300 ∧ Hid (Played w pb sg rg n i wr)) (fun iv _ => 300 - (intOf iv).toNat)
  case atStart => exact ⟨0, rfl, by omega, by omega, H1⟩
  case round =>
    clear H1
    obtain ⟨i, rfl, hi1, hi2, HI⟩ := hrel
    by_cases hlt : i < l.length ∧ i < 300
    · obtain ⟨hlt1, hlt2⟩ := hlt
      obtain ⟨c, hci⟩ := get_some hlt1
      obtain ⟨b, o, rfl, hbw, hc0, hc1, _, _⟩ := HL.out.at_ hci
      rw [← Nat.add_assoc] at hc1
      replace hc0 := (HI.out.bl.cell (p := ⟨b, _, none⟩) hbw).trans hc0
      replace hc1 := (HI.out.bl.cell (p := ⟨b, _, none⟩) hbw).trans hc1
      obtain ⟨t, col, pv, wv, tv, hp, hin⟩ := HI.out.ex
      have HS := step_any w.heap.size col wr pb sg rg pv wv tv t hp hin (by omega) c.1 c.2
      have HN := Lib.hid (hin.step c.1 c.2)
      have f0 : (0 : Int) ≤ (i : Int) := by omega
      have f1 : (i : Int) < (l.length : Int) := by omega
      have f2 : (i : Int) < 300 := by omega
      clear hci hp hin
      go_wp2_with fail
      refine HS.mono ?_
      rintro e w4 ⟨⟨rv, rfl⟩, ⟨c4, pv4, wv4, tv4, hp4⟩, hb4⟩
      have H4 : Hid (Played w pb sg rg n (i + 1) w4) := ⟨⟨_, _, _, _, _, hp4, HN.out⟩, HI.out.bl.trans hb4⟩
      have HR := row_any w.heap.size c4 w4 pb sg rg pv4 wv4 tv4 _ hp4 HN.out (by omega)
      have HP4 := Lib.hid hp4
      clear hp4 hb4 HS hc0 hc1
      go_wp2_with fail
      refine HR.mono ?_
      rintro e w5 ⟨rfl, hb5⟩
      have H5 : Hid (Played w pb sg rg n (i + 1) w5) := ⟨⟨_, _, _, _, _, HP4.out.skip (n := 0) hb5, HN.out⟩, H4.out.bl.trans (hb5.mono (H4.out.bl.size))⟩
      clear hb5 HR
      go_wp2
      go_roundw
      case rel => exact ⟨i + 1, by go_num, by omega, by omega, H5⟩
      case measure => simp [intOf]; omega
    · have HAW := Lib.hid (awake8_any wr)
      have f3 : ((i : Int) < (l.length : Int) ∧ (i : Int) < 300) = False := by simp; omega
      by_cases hll : i < l.length
      · have hii : i = 300 := by omega
        subst hii
        go_wp2_with fail
        refine HAW.out.mono ?_
        rintro e w5 ⟨rfl, hb5⟩
        go_wp2
        go_ret
        exact ⟨rfl, HI.out.bl.trans (hb5.mono (HI.out.bl.size))⟩
      · obtain rfl : i = l.length := by omega
        go_wp2_with fail
        refine HAW.out.mono ?_
        rintro e w5 ⟨rfl, hb5⟩
        go_wp2
        go_ret
        exact ⟨rfl, HI.out.bl.trans (hb5.mono (HI.out.bl.size))⟩

set_option maxRecDepth 100000 in
set_option maxHeartbeats 1000000 in
theorem order_bad (n : Int) (v : Value) (h : n < 1 ∨ 63 < n) (w : World) :
    Calls Try.prog 5 #[.int .i64 n, v] w fun e w' => e = .returned (.bool true) ∧ Below w.heap.size w w' := by
  have HN := Lib.hid (begin_bad n h w)
  have HA := Lib.hid (awake8_any w)
  rcases h with h | h
  · go_enter Try.func5, Try.ntmps5
    go_wp2_with fail
    refine HN.out.mono ?_
    rintro e w1 ⟨rfl, rfl⟩
    go_wp2_with fail
    refine HA.out.mono ?_
    rintro e w3 ⟨rfl, hb3⟩
    go_wp2
    go_ret
    exact ⟨rfl, hb3⟩
  · have h1 : ¬ n < 1 := by omega
    go_enter Try.func5, Try.ntmps5
    go_wp2_with fail
    refine HN.out.mono ?_
    rintro e w1 ⟨rfl, rfl⟩
    go_wp2_with fail
    refine HA.out.mono ?_
    rintro e w3 ⟨rfl, hb3⟩
    go_wp2
    go_ret
    exact ⟨rfl, hb3⟩

theorem walkRecvOrder (n : Int) (_ : (Lit.int .i64 n).wf = true) (v : Value) (l : List (Int × Int)) {w : World} (hl : WaysAt w.heap.size w v l) :
    Calls Try.prog 5 #[.int .i64 n, v] w fun e w' => e = .returned (.bool true) ∧ Below w.heap.size w w' := by
  by_cases h : n < 1 ∨ 63 < n
  · exact order_bad n v h w
  · obtain ⟨m, rfl⟩ : ∃ m : Nat, n = m := ⟨n.toNat, by omega⟩
    exact order_ok m (by omega) (by omega) v l w hl

end Go.Proofs.Ytagbaoakablfpaa
