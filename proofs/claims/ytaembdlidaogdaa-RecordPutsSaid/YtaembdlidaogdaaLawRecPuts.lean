/- The walk of the statement RecordPuts. Conditions: the argument's own. -/
import Derived.RegionTactic
import Derived.Test.YtaembdlidaogdaaRecAwake
import Derived.Test.YtaembdlidaogdaaRecPutR
import Derived.Test.YtaembdlidaogdaaTurn
namespace Go.Proofs.Ytaembdlidaogdaa
open Go.RowKit

theorem recO_le (p : List Int) : (recO p).length ≤ maxLen := by
  unfold recO
  split
  · rename_i h
    have := recE_zero h
    rw [recB_length]; unfold maxLen; omega
  · simp

set_option maxRecDepth 100000 in
set_option maxHeartbeats 1000000 in
theorem walkRecordPuts (v : Value) (xs : List Int) (w : World) (hr : Reads (Value.int .u8) w v xs) (wx : ∀ n ∈ xs, (Lit.int .u8 n).wf = true) (hle : xs.length * 1 ≤ reachBytes) :
    Calls Try.prog 3 #[v] w fun e w' => e = .returned (.bool true) ∧ Below w.heap.size w w' := by
  obtain ⟨P1, P2, hm2⟩ := reach_room hle
  obtain ⟨ao, cap, rfl⟩ : ∃ ao cap, v = .slice ao xs.length cap := by
    obtain ⟨_, ao, cap, h, _⟩ := hr
    exact ⟨ao, cap, h⟩
  obtain ⟨L, hL, hLl⟩ : ∃ L : List Int, Hid (recO xs = L) ∧ L.length ≤ maxLen := ⟨_, rfl, recO_le xs⟩
  obtain ⟨E, hE⟩ : ∃ E : Int, Hid (recE xs = E) := ⟨_, rfl⟩
  have wx := Lib.hid wx
  obtain ⟨i0, hi, hz0, hz1, hz2⟩ := info_parts infoByte
  have hrr := hr.below (bl_alloc (bl_refl w) (.cells #[] 5))
  go_enter Try.func3, Try.ntmps3
  go_wp2_with (at_builtin; refine wpList_append_r _ rfl _ _ 22 rfl w.heap.size 5 i0 (.int .u8 0) 1 Try.underlying22 hi hz0 hz1 hz2 rfl _ _ _ rfl (owns_empty w 5 (Nat.le_refl _)) (Value.int .u8) _ xs rfl hrr (by intros; rfl) P1 P2 (by simp) ?_; intro u W1 hO hg hne)
  have hb := bl_grown (bl_alloc (bl_refl w) (.cells #[] 5)) hg (by intro k hk; cases hk; exact Nat.le_refl _)
  simp only [Nat.zero_add, List.nil_append] at hO
  obtain ⟨ao1, cap1, rfl⟩ := owns_form3 hO
  have hr := hr.below hb
  have hB := hb
  have hfar : ∀ g, (Value.slice ao1 xs.length cap1).ownBlock = some g → g < W1.heap.size := fun g hg => (hO.lt g hg).2
  clear hb hg hne hrr
  refine (recput_any _ xs wx _ (Reads.of_owns hO (by omega))).mono ?_
  rintro e W2 ⟨u, rfl, hu, hb⟩
  rw [hE.out]
  rw [hL.out] at hu
  have hs1 := hB.size
  have hu := (Rd.of_owns hu hLl).mono (G := fun i => W1.heap.size ≤ i) (fun i hi => hi.1)
  have hs2 := hb.size
  have hO := owns_bl hO hb
  have hr := hr.below hb
  have hB := bl_trans hB hb
  clear hb
  go_wp2_with fail
  refine (rrecput_any _ xs wx _ hr).mono ?_
  rintro e W3 ⟨v, rfl, hv, hb⟩
  rw [hE.out]
  rw [hL.out] at hv
  have hv := (Rd.of_owns hv hLl).mono (G := fun i => W1.heap.size ≤ i) (fun i hi => Nat.le_trans hs2 hi.1)
  have hu := hu.below hb
  have hO := owns_bl hO hb
  have hB := bl_trans hB hb
  have hs3 := hb.size
  generalize hg1 : W1.heap.size = g1 at hu hv hfar hs1 hs2
  clear hb hr hg1
  go_wp2_with fail
  go_loopw [8] (fun kk wr => ∃ (i : Nat) (ys : List Int), i ≤ xs.length ∧ kk = .int .i64 i ∧ Hid (ys.length = xs.length ∧ ∀ n ∈ ys, (Lit.int .u8 n).wf = true) ∧ wr.ownsRow w.heap.size 5 1 (.slice ao1 xs.length cap1) xs.length (ys.map (Value.int .u8)) ∧
      Below w.heap.size w wr ∧ Rd (fun i => g1 ≤ i) (Value.int .u8) wr u L ∧ Rd (fun i => g1 ≤ i) (Value.int .u8) wr v L)
    (fun kk _ => xs.length - (intOf kk).toNat)
  case atStart => exact ⟨0, xs, by omega, rfl, ⟨rfl, wx.out⟩, hO, hB, hu, hv⟩
  case round =>
    clear hO hB hu hv
    obtain ⟨i, ys, hile, rfl, hys, hO, hB, hu, hv⟩ := hrel
    by_cases hlt : i < xs.length
    · obtain ⟨g, rfl, hg1, hg2⟩ := own_slice hO (by omega)
      obtain ⟨x, hx⟩ := get_some (xs := ys) (k := i) (by have := hys.out.1; omega)
      have hxw := turn_u8 (hys.out.2 x (List.mem_of_getElem? hx))
      have hc : wr.cell? ⟨g, i, none⟩ = some (.int .u8 x) := by rw [hO.cellAt i (by omega), List.getElem?_map, hx]; rfl
      have hz := hO.frozenAt i
      have hst := hO.stored i (.int .u8 (255 - x))
      have hys2 : Hid ((ys.set i (255 - x)).length = xs.length ∧ ∀ n ∈ ys.set i (255 - x), (Lit.int .u8 n).wf = true) := set_wf hys.out hxw.2
      rw [show (Value.int .u8 (255 - x)) = (Value.int .u8) (255 - x) from rfl, ← List.map_set] at hst
      have HST := Lib.hid hst
      have hgl := hfar g rfl
      have hwx := hxw.1
      have hcap : xs.length ≤ cap1 := by
        rcases hO.2 with ⟨h1, _⟩ | ⟨_, _, _, h1, _, _, h2, _⟩
        · cases h1
        · cases h1; exact h2
      clear hst hxw hx hys
      have HF : Fr (fun j => j = g) wr ((wr.setCell ⟨g, i, none⟩ (.int .u8 (255 - x)))) := ((Fr.refl (fun j => j = g) _).setCell (p := ⟨g, i, none⟩) (.inl rfl) _)
      go_wp2
      go_roundw
      case rel =>
        exact ⟨i + 1, ys.set i (255 - x), by omega, by go_num, hys2, HST.out.1, bl_fr hB HF (by intro j hj; omega), hu.fr HF (by intro j hj; omega), hv.fr HF (by intro j hj; omega)⟩
      case measure => simp [intOf]; omega
    · have hi2 : i = xs.length := by omega
      have c1 := conv_reads hu.1
      have c2 := conv_reads hv.1
      go_wp2_with fail
      refine (awake_any _).mono ?_
      rintro e w' ⟨rfl, hb⟩
      go_wp2
      go_ret
      exact ⟨rfl, bl_trans hB hb⟩

end Go.Proofs.Ytaembdlidaogdaa
