/- control.Get, way 1. Conditions: as they stand. -/
import Derived.WalkKit
import Derived.Handy
import Derived.Lib.Hide
import Derived.RegionTactic
import Derived.Test.YtcglpdbnggekdaaCtlGet
namespace Go.Proofs.Ytcglpdbnggekdaa
open Go.RowKit

set_option maxRecDepth 100000 in
set_option maxHeartbeats 1000000 in
theorem get_v1 (v : Value) (p : List Int) (x1 x2 : Int) (hx1 : Hid (p[1]? = some x1)) (hx2 : Hid (p[2]? = some x2)) (hlen : 7 ≤ p.length) (hw : Hid (∀ n ∈ p, (Lit.int .u8 n).wf = true)) (w : World) (hr : Reads (Value.int .u8) w v p)
    (h0 : Hid (p[0]? = some 3)) (hk : Hid (kindN x1 = 1)) (c1 : 0 ≤ x1 ∧ x1 ≤ 255) (c2 : 0 ≤ x2 ∧ x2 ≤ 255) (hle : p.length ≤ 140737488351232)
    (me peer : Nat) (hme : Hid (getV p 3 2 = me ∧ getE p 3 2 = 0)) (hpe : Hid (getV p 5 2 = peer ∧ getE p 5 2 = 0)) (hm6 : me ≤ 65535) (hp6 : peer ≤ 65535) :
    Calls Try.prog 14 #[v] w fun e w' => ∃ (c : Ctl) (ao : Option Addr) (cap : Nat) (E : Int), e = .returned (.tuple #[c.val ao cap, .int .i64 E]) ∧ w'.ownsRow w.heap.size 5 1 (.slice ao c.data.length cap) c.data.length (c.data.map (Value.int .u8)) ∧ Below w.heap.size w w' ∧
      ((chkN 1 (x1 / 2) (x2 / 2) me peer (p.length - 7) = 0 ∧ E = 0 ∧ c = ⟨1, (x1 / 2), (x2 / 2), (bits .and .u8 x2 1 == 1), me, peer, p.drop 7⟩) ∨ (chkN 1 (x1 / 2) (x2 / 2) me peer (p.length - 7) ≠ 0 ∧ E = 2 ∧ c = Ctl.zero)) := by
  obtain ⟨i0, hi, hz0, hz1, hz2⟩ := info_parts infoByte
  have hr0 := hr
  obtain ⟨hm, ao, cap, rfl, ⟨hcap, _⟩, hc⟩ := hr
  obtain ⟨b, o, rfl, q0⟩ := hc 0 3 h0.out
  rw [Nat.add_zero] at q0
  obtain ⟨b', o', hao, q1⟩ := hc 1 x1 hx1.out
  cases hao
  obtain ⟨b', o', hao, q2⟩ := hc 2 x2 hx2.out
  cases hao
  unfold maxLen at hm
  clear hc
  have q0 := below_cell (bl_alloc (bl_refl w) (.cells #[.int .i64 0, .int .i64 0, .int .i64 0, .bool false, .int .i64 0, .int .i64 0, .slice none 0 0] 24)) q0
  have q1 := below_cell (bl_alloc (bl_refl w) (.cells #[.int .i64 0, .int .i64 0, .int .i64 0, .bool false, .int .i64 0, .int .i64 0, .slice none 0 0] 24)) q1
  have q2 := below_cell (bl_alloc (bl_refl w) (.cells #[.int .i64 0, .int .i64 0, .int .i64 0, .bool false, .int .i64 0, .int .i64 0, .slice none 0 0] 24)) q2
  have hB := bl_alloc (bl_refl w) (.cells #[.int .i64 0, .int .i64 0, .int .i64 0, .bool false, .int .i64 0, .int .i64 0, .slice none 0 0] 24)
  go_enter Try.func14, Try.ntmps14
  go_wp2_with fail
  have hres := heap_alloc_new w (.cells #[.int .i64 0, .int .i64 0, .int .i64 0, .bool false, .int .i64 0, .int .i64 0, .slice none 0 0] 24)
  generalize w.alloc (.cells #[.int .i64 0, .int .i64 0, .int .i64 0, .bool false, .int .i64 0, .int .i64 0, .slice none 0 0] 24) = w0 at q0 q1 q2 hB hres ⊢
  refine (kind_any _ _).mono ?_
  rintro e w1 ⟨rfl, rfl⟩
  rw [hk.out]
  go_wp2_with fail
  have q1 : ∀ o' : Obj, (w0.alloc o').cell? ⟨b, o + 1, none⟩ = some (.int .u8 x1) := fun o' => below_cell (bl_alloc (bl_refl w0) o') q1
  have q2 : ∀ o' : Obj, (w0.alloc o').cell? ⟨b, o + 2, none⟩ = some (.int .u8 x2) := fun o' => below_cell (bl_alloc (bl_refl w0) o') q2
  go_region
  have hrA := fun o' : Obj => hr0.below (bl_drew (bl_alloc hB o'))
  go_wp2_with fail
  refine (get_any _ p 3 2 (by omega) hw _ (hrA _)).mono ?_
  rintro e w1 ⟨rfl, rfl⟩
  rw [hme.out.1, hme.out.2]
  go_wp2_with fail
  refine (get_any _ p 5 2 (by omega) hw _ (hrA _)).mono ?_
  rintro e w1 ⟨rfl, rfl⟩
  rw [hpe.out.1, hpe.out.2]
  have hres0 := hres
  have hplen : p.length - 7 = p.length - 7 := rfl
  have hdl : (p.drop 7).length = p.length - 7 := List.length_drop
  have hdr := hdl
  by_cases hc7 : 7 < cap
  · have hsrc := fun (o1 o2 : Obj) => (hr0.below (bl_drew (bl_alloc (bl_alloc hB o1) o2))).drop (k := 7) (by omega)
    go_wp2_with (at_builtin; refine wpList_append_r _ rfl (.tmp 84) (.tmp 88) 22 rfl (w0.heap.size + 1) 5 i0 (.int .u8 0) 1 Try.underlying22 hi hz0 hz1 hz2 rfl _ _ _ rfl (own0 w0 _ _) (Value.int .u8) _ (p.drop 7) rfl (hsrc _ _) (by intros; rfl) (by simp [maxLen, List.length_drop]; try omega) (by simp [List.length_drop]; try omega) (size2 w0 _ _) ?_; intro u7 W7 hO7 hg7 _; have hbox := box_kept hg7 rfl; have f6 := frozen_of (j := 6) hbox; obtain ⟨d0, d1, d2, d3, d4, d5, d6⟩ := cells_of7 hbox; have hB7 : Below w0.heap.size w0 W7 := bl_grown (bl_drew (bl_alloc (bl_alloc (bl_refl w0) _) _)) hg7 (fun k hk => row_ge hk); clear hg7; obtain ⟨ao7, cap7, rfl⟩ := owns_form hO7)
    have hF := Frm.setCell (Frm.refl [w0.heap.size] W7) (p := ⟨w0.heap.size, 6, none⟩) (by simp) (.slice ao7 (p.length - 7) cap7)
    have hbx := heap_setCell_same W7 w0.heap.size 6 _ _ (.slice ao7 (p.length - 7) cap7) hbox
    have hO7 : W7.ownsRow (w0.heap.size + 1) 5 1 (.slice ao7 (p.length - 7) cap7) (p.length - 7) ((p.drop 7).map (Value.int .u8)) := by
      first | exact hO7 | (simpa [List.length_drop, hdr] using hO7)
    have hO8 := owns_frm hO7 hF (fun k hk => by have := (hO7.lt k hk).1; simp; omega)
    have hB8 := bl_frm hB7 hF (by simp)
    generalize W7.setCell ⟨w0.heap.size, 6, none⟩ (.slice ao7 (p.length - 7) cap7) = W8 at hbx hO8 hB8 ⊢
    clear hF hO7 hB7 hbox f6 d0 d1 d2 d3 d4 d5 d6
    refine (check_any _ _ _ _ _ _ _ _ _ _).mono ?_
    rintro e W9 ⟨rfl, hb9⟩
    have hbx := bl_get hb9 hbx
    have hO9 := owns_below' hO8 hb9
    have hB9 := bl_trans hB8 hb9
    have hres := bl_get hB9 hres
    clear hO8 hB8 hb9
    obtain ⟨d0, d1, d2, d3, d4, d5, d6⟩ := cells_of7 hbx
    by_cases hz : chkN 1 (x1 / 2) (x2 / 2) me peer (p.length - 7) = 0
    · rw [hz]
      go_wp2_with (skip; refine wpList_store_row rfl 24 _ _ rfl _ #[.int .i64 1, .int .i64 (x1 / 2), .int .i64 (x2 / 2), .bool (bits .and .u8 x2 1 == 1), .int .i64 me, .int .i64 peer, .slice ao7 (p.length - 7) cap7] rfl rfl 24 _ hres infoCtl rfl (one7 _ _ _ _ _ _ _ rfl rfl rfl rfl rfl rfl rfl) ?_)
      have hrow := setRow_heap W9 w.heap.size _ #[.int .i64 1, .int .i64 (x1 / 2), .int .i64 (x2 / 2), .bool (bits .and .u8 x2 1 == 1), .int .i64 me, .int .i64 peer, .slice ao7 (p.length - 7) cap7] _ _ hres
      have hFr : Frm [w.heap.size] W9 (W9.setRow w.heap.size #[.int .i64 1, .int .i64 (x1 / 2), .int .i64 (x2 / 2), .bool (bits .and .u8 x2 1 == 1), .int .i64 me, .int .i64 peer, .slice ao7 (p.length - 7) cap7]) := frm_row _ _ _
      have hO10 := owns_frm hO9 hFr (fun k hk => by have := (hO9.lt k hk).1; have := hB.size; simp; intro h; have := lt_of_get hres0; omega)
      have hB10 := below_setRow' (bl_trans hB hB9) (Nat.le_refl _) #[.int .i64 1, .int .i64 (x1 / 2), .int .i64 (x2 / 2), .bool (bits .and .u8 x2 1 == 1), .int .i64 me, .int .i64 peer, .slice ao7 (p.length - 7) cap7]
      generalize W9.setRow w.heap.size #[.int .i64 1, .int .i64 (x1 / 2), .int .i64 (x2 / 2), .bool (bits .and .u8 x2 1 == 1), .int .i64 me, .int .i64 peer, .slice ao7 (p.length - 7) cap7] = W10 at hrow hO10 hB10 ⊢
      obtain ⟨e0, e1, e2, e3, e4, e5, e6⟩ := cells_of7 hrow
      try simp only [Exit.inBlock, Exit.then]
      refine bodyPost_ret (by simp [results, Try.results14, go_sem, e0, e1, e2, e3, e4, e5, e6]; try rfl) rfl ?_
      refine ⟨⟨1, (x1 / 2), (x2 / 2), (bits .and .u8 x2 1 == 1), me, peer, p.drop 7⟩, ao7, cap7, 0, ?_, ?_, hB10, .inl ⟨by first | exact hz | (rw [← hplen]; exact hz), rfl, rfl⟩⟩
      · simp [Ctl.val, hdl]
      · have := owns_mono hO10 (show w.heap.size ≤ w0.heap.size + 1 by have := hB.size; omega)
        simpa [List.length_drop, hdl] using this
    · have hz' : (chkN 1 (x1 / 2) (x2 / 2) me peer (p.length - 7) != 0) = true := by simp only [bne_iff_ne]; exact hz
      go_wp2_with (skip; refine wpList_store_row rfl 24 _ _ rfl _ #[.int .i64 0, .int .i64 0, .int .i64 0, .bool false, .int .i64 0, .int .i64 0, .slice none 0 0] rfl rfl 24 _ hres infoCtl rfl (one7 _ _ _ _ _ _ _ rfl rfl rfl rfl rfl rfl rfl) ?_)
      have hrow := setRow_heap W9 w.heap.size _ #[.int .i64 0, .int .i64 0, .int .i64 0, .bool false, .int .i64 0, .int .i64 0, .slice none 0 0] _ _ hres
      have hB10 := below_setRow' (bl_trans hB hB9) (Nat.le_refl _) #[.int .i64 0, .int .i64 0, .int .i64 0, .bool false, .int .i64 0, .int .i64 0, .slice none 0 0]
      generalize W9.setRow w.heap.size #[.int .i64 0, .int .i64 0, .int .i64 0, .bool false, .int .i64 0, .int .i64 0, .slice none 0 0] = W10 at hrow hB10 ⊢
      obtain ⟨e0, e1, e2, e3, e4, e5, e6⟩ := cells_of7 hrow
      try simp only [Exit.inBlock, Exit.then]
      refine bodyPost_ret (by simp [results, Try.results14, go_sem, e0, e1, e2, e3, e4, e5, e6]; try rfl) rfl ?_
      exact ⟨Ctl.zero, none, 0, 2, rfl, World.ownsRow_nil W10 _ _ _, hB10, .inr ⟨by first | exact hz | (rw [← hplen]; exact hz), rfl, rfl⟩⟩
  · obtain rfl : cap = 7 := by omega
    have hnil : p.drop 7 = [] := List.drop_eq_nil_of_le (by omega)
    have hp0 : p.length - 7 = 0 := by omega
    clear hdr hdl hplen
    go_wp2_with fail
    have hbx := heap_alloc2_old w0 (.cells #[.int .i64 1, .int .i64 (x1 / 2), .int .i64 (x2 / 2), .bool (bits .and .u8 x2 1 == 1), .int .i64 me, .int .i64 peer, .slice (some ⟨w0.heap.size + 1, 0, none⟩) 0 0] 24) (.cells #[] 5)
    have hO8 := own0 w0 (.cells #[.int .i64 1, .int .i64 (x1 / 2), .int .i64 (x2 / 2), .bool (bits .and .u8 x2 1 == 1), .int .i64 me, .int .i64 peer, .slice (some ⟨w0.heap.size + 1, 0, none⟩) 0 0] 24) 5
    have hB8 := bl_drew (bl_alloc (bl_alloc (bl_refl w0) (.cells #[.int .i64 1, .int .i64 (x1 / 2), .int .i64 (x2 / 2), .bool (bits .and .u8 x2 1 == 1), .int .i64 me, .int .i64 peer, .slice (some ⟨w0.heap.size + 1, 0, none⟩) 0 0] 24)) (.cells #[] 5))
    replace hbx : (((w0.alloc (.cells #[.int .i64 1, .int .i64 (x1 / 2), .int .i64 (x2 / 2), .bool (bits .and .u8 x2 1 == 1), .int .i64 me, .int .i64 peer, .slice (some ⟨w0.heap.size + 1, 0, none⟩) 0 0] 24)).alloc (.cells #[] 5)).drew).heap[w0.heap.size]? = some (.cells #[.int .i64 1, .int .i64 (x1 / 2), .int .i64 (x2 / 2), .bool (bits .and .u8 x2 1 == 1), .int .i64 me, .int .i64 peer, .slice (some ⟨w0.heap.size + 1, 0, none⟩) 0 0] 24) := hbx
    generalize ((w0.alloc (.cells #[.int .i64 1, .int .i64 (x1 / 2), .int .i64 (x2 / 2), .bool (bits .and .u8 x2 1 == 1), .int .i64 me, .int .i64 peer, .slice (some ⟨w0.heap.size + 1, 0, none⟩) 0 0] 24)).alloc (.cells #[] 5)).drew = W8 at hbx hO8 hB8 ⊢
    refine (check_any _ _ _ _ _ _ _ _ _ _).mono ?_
    rintro e W9 ⟨rfl, hb9⟩
    have hbx := bl_get hb9 hbx
    have hO9 := owns_below' hO8 hb9
    have hB9 := bl_trans hB8 hb9
    have hres := bl_get hB9 hres
    clear hO8 hB8 hb9
    obtain ⟨d0, d1, d2, d3, d4, d5, d6⟩ := cells_of7 hbx
    by_cases hz : chkN 1 (x1 / 2) (x2 / 2) me peer 0 = 0
    · rw [hz]
      go_wp2_with (skip; refine wpList_store_row rfl 24 _ _ rfl _ #[.int .i64 1, .int .i64 (x1 / 2), .int .i64 (x2 / 2), .bool (bits .and .u8 x2 1 == 1), .int .i64 me, .int .i64 peer, .slice (some ⟨w0.heap.size + 1, 0, none⟩) 0 0] rfl rfl 24 _ hres infoCtl rfl (one7 _ _ _ _ _ _ _ rfl rfl rfl rfl rfl rfl rfl) ?_)
      have hrow := setRow_heap W9 w.heap.size _ #[.int .i64 1, .int .i64 (x1 / 2), .int .i64 (x2 / 2), .bool (bits .and .u8 x2 1 == 1), .int .i64 me, .int .i64 peer, .slice (some ⟨w0.heap.size + 1, 0, none⟩) 0 0] _ _ hres
      have hFr : Frm [w.heap.size] W9 (W9.setRow w.heap.size #[.int .i64 1, .int .i64 (x1 / 2), .int .i64 (x2 / 2), .bool (bits .and .u8 x2 1 == 1), .int .i64 me, .int .i64 peer, .slice (some ⟨w0.heap.size + 1, 0, none⟩) 0 0]) := frm_row _ _ _
      have hO10 := owns_frm hO9 hFr (fun k hk => by have := (hO9.lt k hk).1; have := hB.size; simp; intro h; have := lt_of_get hres0; omega)
      have hB10 := below_setRow' (bl_trans hB hB9) (Nat.le_refl _) #[.int .i64 1, .int .i64 (x1 / 2), .int .i64 (x2 / 2), .bool (bits .and .u8 x2 1 == 1), .int .i64 me, .int .i64 peer, .slice (some ⟨w0.heap.size + 1, 0, none⟩) 0 0]
      generalize W9.setRow w.heap.size #[.int .i64 1, .int .i64 (x1 / 2), .int .i64 (x2 / 2), .bool (bits .and .u8 x2 1 == 1), .int .i64 me, .int .i64 peer, .slice (some ⟨w0.heap.size + 1, 0, none⟩) 0 0] = W10 at hrow hO10 hB10 ⊢
      obtain ⟨e0, e1, e2, e3, e4, e5, e6⟩ := cells_of7 hrow
      try simp only [Exit.inBlock, Exit.then]
      refine bodyPost_ret (by simp [results, Try.results14, go_sem, e0, e1, e2, e3, e4, e5, e6]; try rfl) rfl ?_
      refine ⟨⟨1, (x1 / 2), (x2 / 2), (bits .and .u8 x2 1 == 1), me, peer, p.drop 7⟩, some ⟨w0.heap.size + 1, 0, none⟩, 0, 0, ?_, ?_, hB10, .inl ⟨by rw [hp0]; exact hz, rfl, rfl⟩⟩
      · simp [Ctl.val, hnil]
      · have := owns_mono hO10 (show w.heap.size ≤ w0.heap.size + 1 by have := hB.size; omega)
        simpa [hnil] using this
    · have hz' : (chkN 1 (x1 / 2) (x2 / 2) me peer 0 != 0) = true := by simp only [bne_iff_ne]; exact hz
      go_wp2_with (skip; refine wpList_store_row rfl 24 _ _ rfl _ #[.int .i64 0, .int .i64 0, .int .i64 0, .bool false, .int .i64 0, .int .i64 0, .slice none 0 0] rfl rfl 24 _ hres infoCtl rfl (one7 _ _ _ _ _ _ _ rfl rfl rfl rfl rfl rfl rfl) ?_)
      have hrow := setRow_heap W9 w.heap.size _ #[.int .i64 0, .int .i64 0, .int .i64 0, .bool false, .int .i64 0, .int .i64 0, .slice none 0 0] _ _ hres
      have hB10 := below_setRow' (bl_trans hB hB9) (Nat.le_refl _) #[.int .i64 0, .int .i64 0, .int .i64 0, .bool false, .int .i64 0, .int .i64 0, .slice none 0 0]
      generalize W9.setRow w.heap.size #[.int .i64 0, .int .i64 0, .int .i64 0, .bool false, .int .i64 0, .int .i64 0, .slice none 0 0] = W10 at hrow hB10 ⊢
      obtain ⟨e0, e1, e2, e3, e4, e5, e6⟩ := cells_of7 hrow
      try simp only [Exit.inBlock, Exit.then]
      refine bodyPost_ret (by simp [results, Try.results14, go_sem, e0, e1, e2, e3, e4, e5, e6]; try rfl) rfl ?_
      exact ⟨Ctl.zero, none, 0, 2, rfl, World.ownsRow_nil W10 _ _ _, hB10, .inr ⟨by rw [hp0]; exact hz, rfl, rfl⟩⟩

end Go.Proofs.Ytcglpdbnggekdaa
