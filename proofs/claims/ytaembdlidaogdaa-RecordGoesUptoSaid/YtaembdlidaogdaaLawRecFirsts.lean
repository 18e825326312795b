/- The walk of the statement RecordFirsts, where the row is not longer than 2^20. Conditions: the argument's own. -/
import Derived.RegionTactic
import Derived.Test.YtaembdlidaogdaaRecAwake
import Derived.Test.YtaembdlidaogdaaRecRFirst
import Derived.Test.YtaembdlidaogdaaTurn
namespace Go.Proofs.Ytaembdlidaogdaa
open Go.RowKit

theorem fstP_le {row : List Int} {n : Nat} (h : row.length ≤ n) : (fstP row).length ≤ n := by
  cases hf : fst row with
  | none => rw [(fst_none hf).1]; simp
  | some p => rw [(fst_some hf).1]; have := fst_le hf; omega
theorem upto_room {n : Nat} (h : n * 134217727 ≤ reachBytes) : 0 + n ≤ maxLen ∧ (0 + n) * 1 ≤ 140737488355328 ∧ n ≤ 1048576 := by unfold reachBytes at h; unfold maxLen; omega
/-- The payloads that a row holds are bytes, and no longer than it. -/
theorem recs_small {row : List Int} (hw : ∀ n ∈ row, (Lit.int .u8 n).wf = true) (hl : row.length ≤ maxLen) : ∀ p ∈ recs row, p.length ≤ maxLen ∧ ∀ n ∈ p, (Lit.int .u8 n).wf = true := by
  intro p hp
  refine ⟨?_, recs_bytes hw hp⟩
  obtain ⟨k, hk, rfl⟩ := List.mem_iff_getElem.1 hp
  have h := (recs_step row (Nat.le_of_lt hk)).1
  rw [List.getElem?_eq_getElem hk] at h
  have h2 := fst_le h
  rw [List.length_drop] at h2
  omega

set_option maxRecDepth 100000 in
set_option maxHeartbeats 1000000 in
theorem walkRecordFirsts (v : Value) (xs : List Int) (w : World) (hr : Reads (Value.int .u8) w v xs) (wx : ∀ n ∈ xs, (Lit.int .u8 n).wf = true) (hle : xs.length * 134217727 ≤ reachBytes) :
    Calls Try.prog 4 #[v] w fun e w' => e = .returned (.bool true) ∧ Below w.heap.size w w' := by
  obtain ⟨P1, P2, hm2⟩ := upto_room hle
  clear hle
  obtain ⟨ao, cap, rfl⟩ : ∃ ao cap, v = .slice ao xs.length cap := by
    obtain ⟨_, ao, cap, h, _⟩ := hr
    exact ⟨ao, cap, h⟩
  have hmax : xs.length ≤ maxLen := hr.1
  obtain ⟨L, hL, hLl⟩ : ∃ L : List Int, Hid (fstP xs = L) ∧ L.length ≤ maxLen := ⟨_, rfl, fstP_le hmax⟩
  obtain ⟨E, hE⟩ : ∃ E : Nat, Hid (fstN xs = E) := ⟨_, rfl⟩
  obtain ⟨ps, hps, hst, hsm, hpl⟩ : ∃ ps, Hid (recs xs = ps) ∧ Hid (Steps xs ps) ∧ Hid (∀ p ∈ ps, p.length ≤ maxLen ∧ ∀ n ∈ p, (Lit.int .u8 n).wf = true) ∧ ps.length ≤ maxLen := ⟨_, rfl, steps_recs xs, recs_small wx hmax, by have := recs_len xs; omega⟩
  have hlim : xs.length ≤ 16777216 := by omega
  have HLIM := Lib.hid hlim
  have HPL := Lib.hid hpl
  have wx := Lib.hid wx
  obtain ⟨i0, hi, hz0, hz1, hz2⟩ := info_parts infoByte
  have hrr := hr.below (bl_alloc (bl_refl w) (.cells #[] 5))
  clear hlim hpl
  go_enter Try.func4, Try.ntmps4
  go_wp2_with (at_builtin; refine wpList_append_r _ rfl _ _ 22 rfl w.heap.size 5 i0 (.int .u8 0) 1 Try.underlying22 hi hz0 hz1 hz2 rfl _ _ _ rfl (owns_empty w 5 (Nat.le_refl _)) (Value.int .u8) _ xs rfl hrr (by intros; rfl) P1 P2 (by simp) ?_; intro u W1 hO hg hne)
  have hb := bl_grown (bl_alloc (bl_refl w) (.cells #[] 5)) hg (by intro k hk; cases hk; exact Nat.le_refl _)
  simp only [Nat.zero_add, List.nil_append] at hO
  obtain ⟨ao1, cap1, rfl⟩ := owns_form3 hO
  have hr := hr.below hb
  have hB := hb
  have hfar : ∀ g, (Value.slice ao1 xs.length cap1).ownBlock = some g → g < W1.heap.size := fun g hg => (hO.lt g hg).2
  clear hb hg hne hrr
  refine (first_any _ xs wx _ (Reads.of_owns hO hmax)).mono ?_
  rintro e W2 ⟨u, rfl, hu, hb⟩
  rw [hE.out]
  rw [hL.out] at hu
  have hs1 := hB.size
  have hu := (Rd.of_owns hu hLl).mono (G := fun i => W1.heap.size ≤ i) (fun i hi => hi.1)
  have hs2 := hb.size
  have hO := owns_bl hO hb
  have hr := hr.below hb
  have hB := bl_trans hB hb
  clear hb
  go_wp2_with fail
  refine (rfirst_any _ xs wx _ hr).mono ?_
  rintro e W3 ⟨v, rfl, hv, hb⟩
  rw [hE.out]
  rw [hL.out] at hv
  have hv := (Rd.of_owns hv hLl).mono (G := fun i => W1.heap.size ≤ i) (fun i hi => Nat.le_trans hs2 hi.1)
  have hu := hu.below hb
  have hO := owns_bl hO hb
  have hr := hr.below hb
  have hB := bl_trans hB hb
  have hs3 := Nat.le_trans hs2 hb.size
  clear hb hs2
  go_wp2_with fail
  refine (scan_any _ xs ps hst wx HLIM.out _ (Reads.of_owns hO hmax)).mono ?_
  rintro e W4 ⟨l1, rfl, hl1, hb⟩
  have hl1 := (hl1.pays HPL.out hsm.out).mono (G := fun i => W1.heap.size ≤ i) (fun i hi => Nat.le_trans hs3 hi.1)
  have hu := hu.below hb
  have hv := hv.below hb
  have hO := owns_bl hO hb
  have hr := hr.below hb
  have hB := bl_trans hB hb
  have hs4 := Nat.le_trans hs3 hb.size
  clear hb hs3
  go_wp2_with fail
  refine (rscan_any _ xs ps hst wx HLIM.out _ hr).mono ?_
  rintro e W5 ⟨l2, rfl, hl2, hb⟩
  have hl2 := (hl2.pays HPL.out hsm.out).mono (G := fun i => W1.heap.size ≤ i) (fun i hi => Nat.le_trans hs4 hi.1)
  have hu := hu.below hb
  have hv := hv.below hb
  have hl1 := hl1.below hb
  have hO := owns_bl hO hb
  have hB := bl_trans hB hb
  have hs5 := Nat.le_trans hs4 hb.size
  obtain ⟨EN, hEN⟩ : ∃ EN, place ps ps.length = EN := ⟨_, rfl⟩
  rw [hEN]
  generalize hg1 : W1.heap.size = g1 at hu hv hl1 hl2 hfar hs1 hs5
  clear hb hr hg1 hs4 hEN
  go_wp2_with fail
  go_loopw [12] (fun kk wr => ∃ (i : Nat) (ys : List Int), i ≤ xs.length ∧ kk = .int .i64 i ∧ Hid (ys.length = xs.length ∧ ∀ n ∈ ys, (Lit.int .u8 n).wf = true) ∧ wr.ownsRow w.heap.size 5 1 (.slice ao1 xs.length cap1) xs.length (ys.map (Value.int .u8)) ∧
      Below w.heap.size w wr ∧ Rd (fun i => g1 ≤ i) (Value.int .u8) wr u L ∧ Rd (fun i => g1 ≤ i) (Value.int .u8) wr v L ∧ Pays (fun i => g1 ≤ i) wr l1 ps ∧ Pays (fun i => g1 ≤ i) wr l2 ps)
    (fun kk _ => xs.length - (intOf kk).toNat)
  case atStart => exact ⟨0, xs, by omega, rfl, ⟨rfl, wx.out⟩, hO, hB, hu, hv, hl1, hl2⟩
  case round =>
    clear hO hB hu hv hl1 hl2
    obtain ⟨i, ys, hile, rfl, hys, hO, hB, hu, hv, hl1, hl2⟩ := hrel
    by_cases hlt : i < xs.length
    · obtain ⟨g, rfl, hg1, hg2⟩ := own_slice hO (by omega)
      obtain ⟨x, hx⟩ := get_some (xs := ys) (k := i) (by have := hys.out.1; omega)
      have hxw := turn_u8 (hys.out.2 x (List.mem_of_getElem? hx))
      have hc : wr.cell? ⟨g, i, none⟩ = some (.int .u8 x) := by rw [hO.cellAt i (by omega), List.getElem?_map, hx]; rfl
      have hz := hO.frozenAt i
      have hst := hO.stored i (.int .u8 (255 - x))
      have hys2 : Hid ((ys.set i (255 - x)).length = xs.length ∧ ∀ n ∈ ys.set i (255 - x), (Lit.int .u8 n).wf = true) := set_wf hys.out hxw.2
      rw [show (Value.int .u8 (255 - x)) = (Value.int .u8) (255 - x) from rfl, ← List.map_set] at hst
      have HST := Lib.hid hst
      have hgl := hfar g rfl
      have hwx := hxw.1
      have hcap : xs.length ≤ cap1 := by
        rcases hO.2 with ⟨h1, _⟩ | ⟨_, _, _, h1, _, _, h2, _⟩
        · cases h1
        · cases h1; exact h2
      clear hst hxw hx hys
      have HF : Fr (fun j => j = g) wr ((wr.setCell ⟨g, i, none⟩ (.int .u8 (255 - x)))) := ((Fr.refl (fun j => j = g) _).setCell (p := ⟨g, i, none⟩) (.inl rfl) _)
      go_wp2
      go_roundw
      case rel =>
        exact ⟨i + 1, ys.set i (255 - x), by omega, by go_num, hys2, HST.out.1, bl_fr hB HF (by intro j hj; omega), hu.fr HF (by intro j hj; omega), hv.fr HF (by intro j hj; omega), hl1.fr HF (by intro j hj; omega), hl2.fr HF (by intro j hj; omega)⟩
      case measure => simp [intOf]; omega
    · have hi2 : i = xs.length := by omega
      have c1 := conv_reads hu.1
      have c2 := conv_reads hv.1
      go_wp2_with fail
      refine (same03_eq _ _ ps _ (Lst.of_pays hl1) (Lst.of_pays hl2)).mono ?_
      rintro e w' ⟨rfl, hb⟩
      go_wp2_with fail
      refine (awake_any _).mono ?_
      rintro e w'' ⟨rfl, hb2⟩
      go_wp2
      go_ret
      exact ⟨rfl, bl_trans (bl_trans hB hb) hb2⟩

end Go.Proofs.Ytaembdlidaogdaa
