/- portagelaw08's pair.step, kind 3: one is sent once more and comes. Conditions: as they stand. -/
import Derived.Test.YtagbaoakablfpaaPairCome
namespace Go.Proofs.Ytagbaoakablfpaa
open Go.RowKit

theorem unders_le {s : Snd} (hok : s.Ok) : s.unders.length ≤ 63 := by
  have h1 := hok.under2
  have h2 := hok.size2
  unfold Snd.unders
  simp [vals, win_length]
  omega

def PSt.re (t : PSt) (n : Int) : Nat := uN n % t.s.unders.length

set_option maxRecDepth 100000 in
set_option maxHeartbeats 2000000 in
theorem step_again (B : Nat) (col : Nat → Nat) (w : World) (pb sg rg : Nat) (pv wv tv : Value) (t : PSt) (h : PairAt B col w pb sg rg pv wv tv t) (hok : t.r.Ok) (hok2 : t.s.Ok) (n : Int) (hm : t.told.length ≤ 100000) (m : Int) (hm2 : t.s.unders[t.re n]? = some m) :
    Calls Try.prog 17 #[.pointer (some ⟨pb, 0, none⟩), .agg #[.int .i64 3, .int .i64 n]] w fun e w' => After B w pb sg rg (t.come m (t.s.againP m)) e w' := by
  obtain ⟨w1, c1, hw1, h1, hBB, d0, d1, hc0⟩ := way_box h 3 n
  obtain ⟨e0, e1, e2, e3, e4⟩ := h1.cells
  have HU := sunder_any _ sg t.s hok2 w1 h1.snd
  have H1 := Lib.hid h1
  have HBB := Lib.hid hBB
  have hul : t.re n < t.s.unders.length := (List.getElem?_eq_some_iff.1 hm2).1
  have hul2 := unders_le hok2
  have hne : (t.s.unders.length = 0) = False := by simp; intro e; rw [e] at hul; simp at hul
  have hne2 : (t.s.unders = []) = False := by simp; intro e; rw [e] at hul; simp at hul
  obtain ⟨q, hq⟩ : ∃ q : Nat, q = t.re n := ⟨_, rfl⟩
  have hwl : IntKind.u64.wrap (t.s.unders.length : Int) = (t.s.unders.length : Int) := by rw [IntKind.wrap_u64]; omega
  have hq1 : (IntKind.u64.wrap n).tmod (t.s.unders.length : Int) = (q : Int) := by rw [hq]; exact rem_u n _
  have hqL : (q : Int) < (t.s.unders.length : Int) := by omega
  have hpos : (0 : Int) < (t.s.unders.length : Int) := by omega
  rw [← hq] at hm2
  clear h h1 hBB e1 e2 e3 e4 hq hul
  go_enter Try.func17, Try.ntmps17
  go_wp2_with fail
  try simp only [hw1]
  go_wp2_with fail
  refine HU.mono ?_
  rintro e W3 ⟨u, rfl, hu3, hb3⟩
  obtain ⟨uo, uc, rfl⟩ : ∃ uo uc, u = .slice uo t.s.unders.length uc := by
    obtain ⟨⟨_, ao, cap, h, _⟩, _⟩ := hu3
    exact ⟨ao, cap, h⟩
  obtain ⟨b3, o3, rfl, hcell⟩ : ∃ b o, uo = some ⟨b, o, none⟩ ∧ W3.cell? ⟨b, o + q, none⟩ = some (.int .i64 m) := by
    obtain ⟨⟨_, ao, cap, hv, _, hc⟩, _⟩ := hu3
    cases hv
    exact hc q m hm2
  have d1 := below_cell hb3 d1
  have h3 := H1.out.skip (n := 0) hb3
  have HB3 : Hid (Below B w W3) := HBB.out.trans (hb3.mono H1.out.cols.1)
  generalize paint c1 w1 W3 0 = c3 at h3
  have e0 := h3.cells.1
  have HA := sagain_any _ sg t.s hok2 m W3 h3.snd
  have H3 := Lib.hid h3
  clear hu3 hb3 h3 HU
  go_wp2_with fail
  refine HA.mono ?_
  rintro e W4 ⟨x, rfl, hx4, hb4⟩
  obtain ⟨xo, xc, rfl⟩ : ∃ xo xc, x = .slice xo (t.s.againP m).length xc := by
    obtain ⟨⟨⟨_, ao, cap, h, _⟩, _⟩, _⟩ := hx4
    exact ⟨ao, cap, h⟩
  have HTK := comes_any B _ W4 pb sg rg _ _ _ t (H3.out.skip (n := 0) hb4) hok 0 m _ (t.s.againP m) hx4.1.1 hx4.2 hm
  have HB4 : Hid (Below B w W4) := HB3.out.trans (hb4.mono H3.out.cols.1)
  have HC4 : Hid (Cols B (paint c3 W3 W4 0) W4) := (H3.out.skip (n := 0) hb4).cols
  clear hx4 hb4 HA
  go_wp2_with fail
  refine HTK.mono ?_
  rintro e W5 ⟨⟨rv, rfl⟩, ⟨c5, tv5, hs5, _⟩, hF5⟩
  have hb5 : Below B w W5 := HB4.out.trans (fr_bl hF5 (fun k hk => (HC4.out.2 k (by omega)).1) HC4.out.1)
  clear hF5 HTK
  go_wp2
  go_end0
  exact ⟨⟨_, rfl⟩, ⟨_, _, _, _, hs5⟩, hb5⟩

end Go.Proofs.Ytagbaoakablfpaa
