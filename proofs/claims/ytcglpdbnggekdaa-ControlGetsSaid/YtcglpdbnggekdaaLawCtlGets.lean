/- The walk of the statement ControlGets. Conditions: the argument's own. -/
import Derived.WalkKit
import Derived.Lib.Hide
import Derived.RegionTactic
import Derived.Test.YtcglpdbnggekdaaCtlRget
import Derived.Test.YtcglpdbnggekdaaLawCtlPuts
import Derived.Test.YtcglpdbnggekdaaLater
namespace Go.Proofs.Ytcglpdbnggekdaa
open Go.RowKit

theorem same_self' (c : Ctl) : sameB c c = true := by simp [sameB]
theorem getC_le (p : List Int) : (getC p).data.length ≤ p.length := by
  unfold getC
  split
  · simp [Ctl.of, List.length_drop]
  · simp [Ctl.zero]

set_option maxRecDepth 100000 in
set_option maxHeartbeats 1000000 in
theorem walkControlGets (v : Value) (p : List Int) (w : World) (hr : Reads (Value.int .u8) w v p) (hw : ∀ n ∈ p, (Lit.int .u8 n).wf = true) (hle : p.length * 1 ≤ reachBytes) :
    Calls Try.prog 4 #[v] w fun e w' => e = .returned (.bool true) ∧ Below w.heap.size w w' := by
  unfold reachBytes at hle
  obtain ⟨i0, hi, hz0, hz1, hz2⟩ := info_parts infoByte
  have hm := hr.1
  have hm2 := hm
  unfold maxLen at hm2
  have hw := Lib.hid hw
  obtain ⟨c, hc⟩ : ∃ c : Ctl, Hid (getC p = c) := ⟨_, rfl⟩
  obtain ⟨E, hE⟩ : ∃ E : Int, Hid (getErr p = E) := ⟨_, rfl⟩
  have hcl := getC_le p
  rw [hc.out] at hcl
  have hsrc := fun o1 : Obj => hr.below (bl_alloc (bl_refl w) o1)
  go_enter Try.func4, Try.ntmps4
  go_wp2_with (at_builtin; refine wpList_append_r _ rfl (.tmp 9) (.tmp 10) 22 rfl w.heap.size 5 i0 (.int .u8 0) 1 Try.underlying22 hi hz0 hz1 hz2 rfl _ _ _ rfl (owns_empty w 5 (Nat.le_refl _)) (Value.int .u8) _ p rfl (hsrc _) (by intros; rfl) (by simp; exact hm) (by simp; omega) (by simp) ?_; intro u1 W1 hO hg1 _; have hB : Below w.heap.size w W1 := bl_grown (bl_alloc (bl_refl w) _) hg1 (by intro k hk; cases hk; exact Nat.le_refl _); clear hg1)
  have hO : W1.ownsRow w.heap.size 5 1 u1 p.length (p.map (Value.int .u8)) := by simpa using hO
  obtain ⟨ao1, cap1, rfl⟩ := owns_form hO
  have hr := hr.below hB
  clear hsrc
  have hfar : ∀ g, (Value.slice ao1 p.length cap1).ownBlock = some g → g < W1.heap.size := fun g hg => (hO.lt g hg).2
  refine (cget_any _ p hw.out _ (Reads.of_owns hO hm) (by omega)).mono ?_
  rintro e W2 ⟨ao2, cap2, rfl, hd, hb⟩
  rw [hc.out] at hd ⊢
  rw [hE.out]
  obtain ⟨k, ns, nr, pp, me, peer, ds⟩ := c
  simp only [Ctl.val] at hd hcl ⊢
  have hd := (Rd.of_owns hd (by unfold maxLen; omega)).mono (G := fun i => W1.heap.size ≤ i) (fun i hi => hi.1)
  have hO := owns_below' hO hb
  have hr := hr.below hb
  have hB := bl_trans hB hb
  have hs2 := hb.size
  clear hb
  go_wp2_with fail
  have hbc := heap_alloc_new W2 (.cells #[.int .i64 k, .int .i64 ns, .int .i64 nr, .bool pp, .int .i64 me, .int .i64 peer, .slice ao2 ds.length cap2] 24)
  have hb := bl_alloc (bl_refl W2) (.cells #[.int .i64 k, .int .i64 ns, .int .i64 nr, .bool pp, .int .i64 me, .int .i64 peer, .slice ao2 ds.length cap2] 24)
  have hd := hd.below hb
  have hO := owns_below' hO hb
  have hr := hr.below hb
  have hB := bl_trans hB hb
  have hs3 := Nat.le_trans hs2 hb.size
  clear hb
  generalize hgc : W2.heap.size = gc at hbc hs2 ⊢
  generalize W2.alloc (.cells #[.int .i64 k, .int .i64 ns, .int .i64 nr, .bool pp, .int .i64 me, .int .i64 peer, .slice ao2 ds.length cap2] 24) = W3 at hbc hd hO hr hB hs3 ⊢
  clear hgc
  refine (rget_any5 _ p hw _ hr (by omega)).mono ?_
  rintro e W4 ⟨ao3, cap3, rfl, hv, hb⟩
  rw [hc.out] at hv ⊢
  rw [hE.out]
  simp only [Ctl.val] at hv ⊢
  have hv := hv.mono (G := fun i => W1.heap.size ≤ i) (fun i hi => Nat.le_trans hs3 hi)
  have hd := hd.below hb
  have hbc := bl_get hb hbc
  have hO := owns_below' hO hb
  have hB := bl_trans hB hb
  have hs4 := Nat.le_trans hs3 hb.size
  clear hb hr hs3
  go_wp2_with fail
  have hbd := heap_alloc_new W4 (.cells #[.int .i64 k, .int .i64 ns, .int .i64 nr, .bool pp, .int .i64 me, .int .i64 peer, .slice ao3 ds.length cap3] 24)
  have hb := bl_alloc (bl_refl W4) (.cells #[.int .i64 k, .int .i64 ns, .int .i64 nr, .bool pp, .int .i64 me, .int .i64 peer, .slice ao3 ds.length cap3] 24)
  have hd := hd.below hb
  have hv := hv.below hb
  have hbc := bl_get hb hbc
  have hO := owns_below' hO hb
  have hB := bl_trans hB hb
  clear hb
  generalize hgd : W4.heap.size = gd at hbd hs4 ⊢
  generalize W4.alloc (.cells #[.int .i64 k, .int .i64 ns, .int .i64 nr, .bool pp, .int .i64 me, .int .i64 peer, .slice ao3 ds.length cap3] 24) = W5 at hbc hbd hd hv hO hB ⊢
  clear hgd
  go_loopw [8] (fun kk wr => ∃ (i : Nat) (ys : List Int), i ≤ p.length ∧ kk = .int .i64 i ∧ Hid (ys.length = p.length ∧ ∀ n ∈ ys, (Lit.int .u8 n).wf = true) ∧ wr.ownsRow w.heap.size 5 1 (.slice ao1 p.length cap1) p.length (ys.map (Value.int .u8)) ∧
      wr.heap[gc]? = some (.cells #[.int .i64 k, .int .i64 ns, .int .i64 nr, .bool pp, .int .i64 me, .int .i64 peer, .slice ao2 ds.length cap2] 24) ∧ wr.heap[gd]? = some (.cells #[.int .i64 k, .int .i64 ns, .int .i64 nr, .bool pp, .int .i64 me, .int .i64 peer, .slice ao3 ds.length cap3] 24) ∧ Below w.heap.size w wr ∧ Rd (fun i => W1.heap.size ≤ i) (Value.int .u8) wr (.slice ao2 ds.length cap2) ds ∧ Rd (fun i => W1.heap.size ≤ i) (Value.int .u8) wr (.slice ao3 ds.length cap3) ds)
    (fun kk _ => p.length - (intOf kk).toNat)
  case atStart => exact ⟨0, p, by omega, rfl, ⟨rfl, hw.out⟩, hO, hbc, hbd, hB, hd, hv⟩
  case round =>
    clear hO hB hd hv hbc hbd
    obtain ⟨i, ys, hile, rfl, hys, hO, hbc, hbd, hB, hd, hv⟩ := hrel
    by_cases hlt : i < p.length
    · obtain ⟨g, rfl, hg1, hg2⟩ := own_slice hO (by omega)
      obtain ⟨x, hx⟩ := get_some (xs := ys) (k := i) (by have := hys.out.1; omega)
      have hxw := turn_u8 (hys.out.2 x (List.mem_of_getElem? hx))
      have hc : wr.cell? ⟨g, i, none⟩ = some (.int .u8 x) := by rw [hO.cellAt i (by omega), List.getElem?_map, hx]; rfl
      have hz := hO.frozenAt i
      have hst := hO.stored i (.int .u8 (255 - x))
      have hys2 : Hid ((ys.set i (255 - x)).length = p.length ∧ ∀ n ∈ ys.set i (255 - x), (Lit.int .u8 n).wf = true) := set_wf hys.out hxw.2
      rw [show (Value.int .u8 (255 - x)) = (Value.int .u8) (255 - x) from rfl, ← List.map_set] at hst
      have HST := Lib.hid hst
      have hgl := hfar g rfl
      have hwx := hxw.1
      clear hst hxw hx hys
      have HF := fr_cell wr g i (.int .u8 (255 - x))
      go_wp2
      go_roundw
      case rel =>
        exact ⟨i + 1, ys.set i (255 - x), by omega, by go_num, hys2, HST.out.1, HF.get hbc (by omega), HF.get hbd (by omega), bl_fr hB HF (by intro j hj; omega), hd.fr HF (by intro j hj; omega), hv.fr HF (by intro j hj; omega)⟩
      case measure => simp [intOf]; omega
    · have hi2 : i = p.length := by omega
      obtain ⟨d0, d1, d2, d3, d4, d5, d6⟩ := cells_of7 hbc
      obtain ⟨e0, e1, e2, e3, e4, e5, e6⟩ := cells_of7 hbd
      go_wp2_with fail
      refine (rsame_any ⟨k, ns, nr, pp, me, peer, ds⟩ ⟨k, ns, nr, pp, me, peer, ds⟩ ao2 ao3 cap2 cap3 _ hd.1 hv.1).mono ?_
      rintro e W6 ⟨rfl, hb⟩
      rw [same_self']
      have hB := bl_trans hB hb
      clear hb
      go_wp2_with fail
      refine (awake_any _).mono ?_
      rintro e w' ⟨rfl, hb⟩
      go_wp2
      go_ret
      exact ⟨rfl, bl_trans hB hb⟩

end Go.Proofs.Ytcglpdbnggekdaa
