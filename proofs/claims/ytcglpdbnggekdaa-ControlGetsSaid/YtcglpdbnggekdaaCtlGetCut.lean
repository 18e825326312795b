/- control.Get where a third byte is told and there are but six bytes. Conditions: as they stand. -/
import Derived.WalkKit
import Derived.Handy
import Derived.Lib.Hide
import Derived.RegionTactic
import Derived.Test.YtcglpdbnggekdaaCtlGet
namespace Go.Proofs.Ytcglpdbnggekdaa
open Go.RowKit

set_option maxRecDepth 100000 in
set_option maxHeartbeats 1000000 in
theorem get_cut1 (v : Value) (p : List Int) (x1 x2 : Int) (hx1 : Hid (p[1]? = some x1)) (hx2 : Hid (p[2]? = some x2)) (hlen : 6 ≤ p.length) (hlen7 : p.length < 7) (hw : Hid (∀ n ∈ p, (Lit.int .u8 n).wf = true)) (w : World) (hr : Reads (Value.int .u8) w v p)
    (h0 : Hid (p[0]? = some 3)) (hk : Hid (kindN x1 = 1)) (c1 : 0 ≤ x1 ∧ x1 ≤ 255) (c2 : 0 ≤ x2 ∧ x2 ≤ 255) :
    Calls Try.prog 14 #[v] w fun e w' => e = .returned (.tuple #[Ctl.zero.val none 0, .int .i64 2]) ∧ Below w.heap.size w w' := by
  have hme : Hid (getE p 3 2 = 0) := (get_good' (bs := p) (a := 3) (s := 2) (by omega) (by omega)).1
  have hpe : Hid (getE p 5 2 = 2 ∧ getV p 5 2 = 0) := get_form' (bs := p) (a := 5) (s := 2) (by omega) (by omega)
  have hr0 := hr
  obtain ⟨hm, ao, cap, rfl, ⟨hcap, _⟩, hc⟩ := hr
  obtain ⟨b, o, rfl, q0⟩ := hc 0 3 h0.out
  rw [Nat.add_zero] at q0
  obtain ⟨b', o', hao, q1⟩ := hc 1 x1 hx1.out
  cases hao
  obtain ⟨b', o', hao, q2⟩ := hc 2 x2 hx2.out
  cases hao
  unfold maxLen at hm
  clear hc
  have q0 := below_cell (bl_alloc (bl_refl w) (.cells #[.int .i64 0, .int .i64 0, .int .i64 0, .bool false, .int .i64 0, .int .i64 0, .slice none 0 0] 24)) q0
  have q1 := below_cell (bl_alloc (bl_refl w) (.cells #[.int .i64 0, .int .i64 0, .int .i64 0, .bool false, .int .i64 0, .int .i64 0, .slice none 0 0] 24)) q1
  have q2 := below_cell (bl_alloc (bl_refl w) (.cells #[.int .i64 0, .int .i64 0, .int .i64 0, .bool false, .int .i64 0, .int .i64 0, .slice none 0 0] 24)) q2
  have hB := bl_alloc (bl_refl w) (.cells #[.int .i64 0, .int .i64 0, .int .i64 0, .bool false, .int .i64 0, .int .i64 0, .slice none 0 0] 24)
  go_enter Try.func14, Try.ntmps14
  go_wp2_with fail
  have hres := heap_alloc_new w (.cells #[.int .i64 0, .int .i64 0, .int .i64 0, .bool false, .int .i64 0, .int .i64 0, .slice none 0 0] 24)
  generalize w.alloc (.cells #[.int .i64 0, .int .i64 0, .int .i64 0, .bool false, .int .i64 0, .int .i64 0, .slice none 0 0] 24) = w0 at q0 q1 q2 hB hres ⊢
  refine (kind_any _ _).mono ?_
  rintro e w1 ⟨rfl, rfl⟩
  rw [hk.out]
  go_wp2_with fail
  have q1 : ∀ o' : Obj, (w0.alloc o').cell? ⟨b, o + 1, none⟩ = some (.int .u8 x1) := fun o' => below_cell (bl_alloc (bl_refl w0) o') q1
  have q2 : ∀ o' : Obj, (w0.alloc o').cell? ⟨b, o + 2, none⟩ = some (.int .u8 x2) := fun o' => below_cell (bl_alloc (bl_refl w0) o') q2
  go_region
  have hrA := fun o' : Obj => hr0.below (bl_drew (bl_alloc hB o'))
  go_wp2_with fail
  refine (get_any _ p 3 2 (by omega) hw _ (hrA _)).mono ?_
  rintro e w1 ⟨rfl, rfl⟩
  rw [hme.out]
  go_wp2_with fail
  refine (get_any _ p 5 2 (by omega) hw _ (hrA _)).mono ?_
  rintro e w1 ⟨rfl, rfl⟩
  rw [hpe.out.1, hpe.out.2]
  obtain ⟨W, hW⟩ : ∃ W : World, (w0.alloc (.cells #[.int .i64 1, .int .i64 (x1 / 2), .int .i64 (x2 / 2), .bool (bits .and .u8 x2 1 == 1), .int .i64 0, .int .i64 0, .slice none 0 0] 24)).drew = W := ⟨_, rfl⟩
  rw [hW]
  have hBW : Below w0.heap.size w0 W := by rw [← hW]; exact bl_drew (bl_alloc (bl_refl w0) _)
  have hres := bl_get hBW hres
  clear hW hrA q0 q1 q2 hme hpe hr0
  go_wp2_with (skip; refine wpList_store_row rfl 24 _ _ rfl _ #[.int .i64 0, .int .i64 0, .int .i64 0, .bool false, .int .i64 0, .int .i64 0, .slice none 0 0] rfl rfl 24 _ hres infoCtl rfl (one7 _ _ _ _ _ _ _ rfl rfl rfl rfl rfl rfl rfl) ?_)
  have hrow := setRow_heap W w.heap.size _ #[.int .i64 0, .int .i64 0, .int .i64 0, .bool false, .int .i64 0, .int .i64 0, .slice none 0 0] _ _ hres
  obtain ⟨f0, f1, f2, f3, f4, f5, f6⟩ := cells_of7 hrow
  try simp only [Exit.inBlock, Exit.then]
  refine bodyPost_ret (by simp [results, Try.results14, go_sem, f0, f1, f2, f3, f4, f5, f6]; try rfl) rfl ?_
  exact ⟨rfl, below_setRow' (bl_trans hB hBW) (Nat.le_refl _) _⟩

set_option maxRecDepth 100000 in
set_option maxHeartbeats 1000000 in
theorem get_cut2 (v : Value) (p : List Int) (x1 x2 k : Int) (hx1 : Hid (p[1]? = some x1)) (hx2 : Hid (p[2]? = some x2)) (hlen : 6 ≤ p.length) (hlen7 : p.length < 7) (hw : Hid (∀ n ∈ p, (Lit.int .u8 n).wf = true)) (w : World) (hr : Reads (Value.int .u8) w v p)
    (h0 : Hid (p[0]? = some 3)) (hk : Hid (kindN x1 = k)) (hkr : 2 ≤ k ∧ k ≤ 4) (ht : thirdB k = true) (c2 : 0 ≤ x2 ∧ x2 ≤ 255) :
    Calls Try.prog 14 #[v] w fun e w' => e = .returned (.tuple #[Ctl.zero.val none 0, .int .i64 2]) ∧ Below w.heap.size w w' := by
  have hme : Hid (getE p 3 2 = 0) := (get_good' (bs := p) (a := 3) (s := 2) (by omega) (by omega)).1
  have hpe : Hid (getE p 5 2 = 2 ∧ getV p 5 2 = 0) := get_form' (bs := p) (a := 5) (s := 2) (by omega) (by omega)
  have hr0 := hr
  obtain ⟨hm, ao, cap, rfl, ⟨hcap, _⟩, hc⟩ := hr
  obtain ⟨b, o, rfl, q0⟩ := hc 0 3 h0.out
  rw [Nat.add_zero] at q0
  obtain ⟨b', o', hao, q1⟩ := hc 1 x1 hx1.out
  cases hao
  obtain ⟨b', o', hao, q2⟩ := hc 2 x2 hx2.out
  cases hao
  unfold maxLen at hm
  clear hc
  have q0 := below_cell (bl_alloc (bl_refl w) (.cells #[.int .i64 0, .int .i64 0, .int .i64 0, .bool false, .int .i64 0, .int .i64 0, .slice none 0 0] 24)) q0
  have q1 := below_cell (bl_alloc (bl_refl w) (.cells #[.int .i64 0, .int .i64 0, .int .i64 0, .bool false, .int .i64 0, .int .i64 0, .slice none 0 0] 24)) q1
  have q2 := below_cell (bl_alloc (bl_refl w) (.cells #[.int .i64 0, .int .i64 0, .int .i64 0, .bool false, .int .i64 0, .int .i64 0, .slice none 0 0] 24)) q2
  have hB := bl_alloc (bl_refl w) (.cells #[.int .i64 0, .int .i64 0, .int .i64 0, .bool false, .int .i64 0, .int .i64 0, .slice none 0 0] 24)
  go_enter Try.func14, Try.ntmps14
  go_wp2_with fail
  have hres := heap_alloc_new w (.cells #[.int .i64 0, .int .i64 0, .int .i64 0, .bool false, .int .i64 0, .int .i64 0, .slice none 0 0] 24)
  generalize w.alloc (.cells #[.int .i64 0, .int .i64 0, .int .i64 0, .bool false, .int .i64 0, .int .i64 0, .slice none 0 0] 24) = w0 at q0 q1 q2 hB hres ⊢
  refine (kind_any _ _).mono ?_
  rintro e w1 ⟨rfl, rfl⟩
  rw [hk.out]
  rw [ht]
  go_wp2_with fail
  have q1 : ∀ o' : Obj, (w0.alloc o').cell? ⟨b, o + 1, none⟩ = some (.int .u8 x1) := fun o' => below_cell (bl_alloc (bl_refl w0) o') q1
  have q2 : ∀ o' : Obj, (w0.alloc o').cell? ⟨b, o + 2, none⟩ = some (.int .u8 x2) := fun o' => below_cell (bl_alloc (bl_refl w0) o') q2
  go_region
  have hrA := fun o' : Obj => hr0.below (bl_drew (bl_alloc hB o'))
  go_wp2_with fail
  refine (get_any _ p 3 2 (by omega) hw _ (hrA _)).mono ?_
  rintro e w1 ⟨rfl, rfl⟩
  rw [hme.out]
  go_wp2_with fail
  refine (get_any _ p 5 2 (by omega) hw _ (hrA _)).mono ?_
  rintro e w1 ⟨rfl, rfl⟩
  rw [hpe.out.1, hpe.out.2]
  obtain ⟨W, hW⟩ : ∃ W : World, (w0.alloc (.cells #[.int .i64 k, .int .i64 0, .int .i64 (x2 / 2), .bool (bits .and .u8 x2 1 == 1), .int .i64 0, .int .i64 0, .slice none 0 0] 24)).drew = W := ⟨_, rfl⟩
  rw [hW]
  have hBW : Below w0.heap.size w0 W := by rw [← hW]; exact bl_drew (bl_alloc (bl_refl w0) _)
  have hres := bl_get hBW hres
  clear hW hrA q0 q1 q2 hme hpe hr0
  go_wp2_with (skip; refine wpList_store_row rfl 24 _ _ rfl _ #[.int .i64 0, .int .i64 0, .int .i64 0, .bool false, .int .i64 0, .int .i64 0, .slice none 0 0] rfl rfl 24 _ hres infoCtl rfl (one7 _ _ _ _ _ _ _ rfl rfl rfl rfl rfl rfl rfl) ?_)
  have hrow := setRow_heap W w.heap.size _ #[.int .i64 0, .int .i64 0, .int .i64 0, .bool false, .int .i64 0, .int .i64 0, .slice none 0 0] _ _ hres
  obtain ⟨f0, f1, f2, f3, f4, f5, f6⟩ := cells_of7 hrow
  try simp only [Exit.inBlock, Exit.then]
  refine bodyPost_ret (by simp [results, Try.results14, go_sem, f0, f1, f2, f3, f4, f5, f6]; try rfl) rfl ?_
  exact ⟨rfl, below_setRow' (bl_trans hB hBW) (Nat.le_refl _) _⟩

end Go.Proofs.Ytcglpdbnggekdaa
