/- The contract of portageref05.Guess. Written by program (gen_guess.py). Conditions: as they stand. -/
import Derived.WalkKit
import Derived.Lib.Hide
import Derived.RegionTactic
import Derived.Test.YtcglpdbnggekdaaCtlGuess
namespace Go.Proofs.Ytcglpdbnggekdaa
open Go.RowKit

theorem heap_set_box (W : World) (g j : Nat) (cs : Array Value) (t : TypeId) (v : Value) (h : W.heap[g]? = some (.cells cs t (0, 0))) : (W.setCell ⟨g, j, none⟩ v).heap[g]? = some (.cells (cs.setIfInBounds j v) t (0, 0)) := by
  simp [World.setCell, Array.getElem?_modify, h]

set_option maxRecDepth 100000 in
set_option maxHeartbeats 1000000 in
theorem guess_1 (v : Value) (p : List Int)  (x1 : Int) (hx1 : Hid (p[1]? = some x1)) (c1 : 0 ≤ x1 ∧ x1 ≤ 255) (x2 : Int) (hx2 : Hid (p[2]? = some x2)) (c2 : 0 ≤ x2 ∧ x2 ≤ 255) (hlen : 3 ≤ p.length) (hw : Hid (∀ n ∈ p, (Lit.int .u8 n).wf = true)) (w : World) (hr : Reads (Value.int .u8) w v p) (hle : p.length ≤ 140737488351232) :
    Calls Try.prog 27 #[v, .int .i64 1] w fun e w' => ∃ (ao : Option Addr) (cap : Nat), e = .returned (Ctl.val ⟨1, x1 / 2, x2 / 2, x2 % 2 == 1, (getV p 3 2 : Nat), (getV p 5 2 : Nat), p.drop 7⟩ ao cap) ∧ Rd (fun i => w.heap.size ≤ i) (Value.int .u8) w' (.slice ao (p.drop 7).length cap) (p.drop 7) ∧ Below w.heap.size w w' := by
  have hr0 := hr
  obtain ⟨hm, ao, cap, rfl, ⟨hcap, _⟩, hc⟩ := hr
  unfold maxLen at hm
  obtain ⟨b, o, rfl, q2⟩ := hc 2 x2 hx2.out
  have q2 : ∀ o1 o2 : Obj, ((w.alloc o1).alloc o2).cell? ⟨b, o + 2, none⟩ = some (.int .u8 x2) := fun o1 o2 => below_cell (bl_alloc (bl_alloc (bl_refl w) o1) o2) q2
  obtain ⟨b', o', hao, q1⟩ := hc 1 x1 hx1.out
  cases hao
  have q1 : ∀ o1 o2 : Obj, ((w.alloc o1).alloc o2).cell? ⟨b, o + 1, none⟩ = some (.int .u8 x1) := fun o1 o2 => below_cell (bl_alloc (bl_alloc (bl_refl w) o1) o2) q1
  clear hc
  go_enter Try.func27, Try.ntmps27
  go_wp2_with fail
  obtain ⟨bA, bB, hsz, hB⟩ := two_blocks w (.cells #[.int .i64 0, .int .i64 0, .int .i64 0, .bool false, .int .i64 0, .int .i64 0, .slice none 0 0] 24) (.cells #[.int .i64 1, .int .i64 (x1 / 2), .int .i64 (x2 / 2), .bool (x2 % 2 == 1), .int .i64 0, .int .i64 0, .slice none 0 0] 24)
  have hr := hr0.below hB
  generalize (w.alloc (.cells #[.int .i64 0, .int .i64 0, .int .i64 0, .bool false, .int .i64 0, .int .i64 0, .slice none 0 0] 24)).alloc (.cells #[.int .i64 1, .int .i64 (x1 / 2), .int .i64 (x2 / 2), .bool (x2 % 2 == 1), .int .i64 0, .int .i64 0, .slice none 0 0] 24) = W0 at bA bB hsz hB hr ⊢
  refine (two_any _ p 3 (by omega) hw _ hr).mono ?_
  rintro e W1 ⟨rfl, rfl⟩
  have f4 := frozen_of (j := 4) bB
  obtain ⟨d0, d1, d2, d3, d4, d5, d6⟩ := cells_of7 bB
  have hF := (Fr.refl (fun i => i = w.heap.size + 1) W0).setCell (p := ⟨w.heap.size + 1, 4, none⟩) (.inl rfl) (.int .i64 (getV p 3 2 : Nat))
  have hr1 := hr0.below (bl_fr hB hF (by intro i hi; omega))
  go_wp2_with fail
  clear d0 d1 d2 d3 d4 d5 d6
  have bA := hF.get bA (by omega)
  have bB : (W0.setCell ⟨w.heap.size + 1, 4, none⟩ (.int .i64 (getV p 3 2 : Nat))).heap[w.heap.size + 1]? = some (.cells #[.int .i64 1, .int .i64 (x1 / 2), .int .i64 (x2 / 2), .bool (x2 % 2 == 1), .int .i64 (getV p 3 2 : Nat), .int .i64 0, .slice none 0 0] 24) := heap_set_box _ _ _ _ _ _ bB
  have hB := bl_fr hB hF (by intro i hi; omega)
  have hs1 := hF.size
  generalize W0.setCell ⟨w.heap.size + 1, 4, none⟩ (.int .i64 (getV p 3 2 : Nat)) = W1 at bA bB hB hr1 hs1 ⊢
  refine (two_any _ p 5 (by omega) hw _ hr1).mono ?_
  rintro e W2 ⟨rfl, rfl⟩
  have f5 := frozen_of (j := 5) bB
  obtain ⟨d0, d1, d2, d3, d4, d5, d6⟩ := cells_of7 bB
  have hF := (Fr.refl (fun i => i = w.heap.size + 1) W1).setCell (p := ⟨w.heap.size + 1, 5, none⟩) (.inl rfl) (.int .i64 (getV p 5 2 : Nat))
  have hr2 := hr0.below (bl_fr hB hF (by intro i hi; omega))
  go_wp2_with fail
  clear d0 d1 d2 d3 d4 d5 d6 f5 f4 hr1
  have bA := hF.get bA (by omega)
  have bB : (W1.setCell ⟨w.heap.size + 1, 5, none⟩ (.int .i64 (getV p 5 2 : Nat))).heap[w.heap.size + 1]? = some (.cells #[.int .i64 1, .int .i64 (x1 / 2), .int .i64 (x2 / 2), .bool (x2 % 2 == 1), .int .i64 (getV p 3 2 : Nat), .int .i64 (getV p 5 2 : Nat), .slice none 0 0] 24) := heap_set_box _ _ _ _ _ _ bB
  have hB := bl_fr hB hF (by intro i hi; omega)
  have hs2 := hF.size
  generalize W1.setCell ⟨w.heap.size + 1, 5, none⟩ (.int .i64 (getV p 5 2 : Nat)) = W2 at bA bB hB hr2 hs2 ⊢
  refine (rest_any _ p 7 (by omega) _ hr2 hle).mono ?_
  rintro e W3 ⟨ao3, cap3, rfl, hr3, hb⟩
  have bA := bl_get hb bA
  have bB := bl_get hb bB
  have hB := bl_trans hB hb
  have hl2 := hb.size
  clear hb hr2
  obtain ⟨n3, hn3⟩ : ∃ n3, Hid ((p.drop 7).length = n3) := ⟨_, rfl⟩
  rw [hn3.out] at hr3 ⊢
  have f6 := frozen_of (j := 6) bB
  obtain ⟨d0, d1, d2, d3, d4, d5, d6⟩ := cells_of7 bB
  have hres2 := (Below.heap_setCell W3 ⟨w.heap.size + 1, 6, none⟩ (.slice ao3 n3 cap3) w.heap.size (by simp)).trans bA
  go_wp2_with (refine wpList_store_row rfl 24 _ _ rfl _ #[.int .i64 1, .int .i64 (x1 / 2), .int .i64 (x2 / 2), .bool (x2 % 2 == 1), .int .i64 (getV p 3 2 : Nat), .int .i64 (getV p 5 2 : Nat), .slice ao3 n3 cap3] rfl rfl 24 _ hres2 infoCtl rfl (one7 _ _ _ _ _ _ _ rfl rfl rfl rfl rfl rfl rfl) ?_)
  have hF : Fr (fun i => i = w.heap.size ∨ i = w.heap.size + 1) W3 ((W3.setCell ⟨w.heap.size + 1, 6, none⟩ (.slice ao3 n3 cap3)).setRow w.heap.size #[.int .i64 1, .int .i64 (x1 / 2), .int .i64 (x2 / 2), .bool (x2 % 2 == 1), .int .i64 (getV p 3 2 : Nat), .int .i64 (getV p 5 2 : Nat), .slice ao3 n3 cap3]) := ((Fr.refl _ _).setCell (p := ⟨w.heap.size + 1, 6, none⟩) (.inl (.inr rfl)) _).setRow (.inl (.inl rfl)) _
  have hrow := setRow_heap (W3.setCell ⟨w.heap.size + 1, 6, none⟩ (.slice ao3 n3 cap3)) w.heap.size _ #[.int .i64 1, .int .i64 (x1 / 2), .int .i64 (x2 / 2), .bool (x2 % 2 == 1), .int .i64 (getV p 3 2 : Nat), .int .i64 (getV p 5 2 : Nat), .slice ao3 n3 cap3] _ _ hres2
  have hrr : Rd (fun i => w.heap.size ≤ i) (Value.int .u8) ((W3.setCell ⟨w.heap.size + 1, 6, none⟩ (.slice ao3 n3 cap3)).setRow w.heap.size #[.int .i64 1, .int .i64 (x1 / 2), .int .i64 (x2 / 2), .bool (x2 % 2 == 1), .int .i64 (getV p 3 2 : Nat), .int .i64 (getV p 5 2 : Nat), .slice ao3 n3 cap3]) (.slice ao3 n3 cap3) (p.drop 7) := (hr3.fr hF (by intro i hi; omega)).mono (fun i hi => by omega)
  have hB := bl_fr hB hF (by intro i hi; omega)
  generalize (W3.setCell ⟨w.heap.size + 1, 6, none⟩ (.slice ao3 n3 cap3)).setRow w.heap.size #[.int .i64 1, .int .i64 (x1 / 2), .int .i64 (x2 / 2), .bool (x2 % 2 == 1), .int .i64 (getV p 3 2 : Nat), .int .i64 (getV p 5 2 : Nat), .slice ao3 n3 cap3] = W4 at hrow hrr hB ⊢
  obtain ⟨e0, e1, e2, e3, e4, e5, e6⟩ := cells_of7 hrow
  try simp only [Exit.inBlock, Exit.then]
  refine bodyPost_ret (by simp [results, Try.results27, go_sem, e0, e1, e2, e3, e4, e5, e6]; try rfl) rfl ?_
  exact ⟨ao3, cap3, by simp only [Ctl.val, hn3.out], by rw [hn3.out]; exact hrr, hB⟩

set_option maxRecDepth 100000 in
set_option maxHeartbeats 1000000 in
theorem guess_2 (v : Value) (p : List Int) (k : Int) (hk : 2 ≤ k ∧ k ≤ 4) (hk1 : (k == 1) = false)  (x2 : Int) (hx2 : Hid (p[2]? = some x2)) (c2 : 0 ≤ x2 ∧ x2 ≤ 255) (hlen : 3 ≤ p.length) (hw : Hid (∀ n ∈ p, (Lit.int .u8 n).wf = true)) (w : World) (hr : Reads (Value.int .u8) w v p) (hle : p.length ≤ 140737488351232) :
    Calls Try.prog 27 #[v, .int .i64 k] w fun e w' => ∃ (ao : Option Addr) (cap : Nat), e = .returned (Ctl.val ⟨k, 0, x2 / 2, x2 % 2 == 1, (getV p 3 2 : Nat), (getV p 5 2 : Nat), p.drop 7⟩ ao cap) ∧ Rd (fun i => w.heap.size ≤ i) (Value.int .u8) w' (.slice ao (p.drop 7).length cap) (p.drop 7) ∧ Below w.heap.size w w' := by
  have hr0 := hr
  obtain ⟨hm, ao, cap, rfl, ⟨hcap, _⟩, hc⟩ := hr
  unfold maxLen at hm
  obtain ⟨b, o, rfl, q2⟩ := hc 2 x2 hx2.out
  have q2 : ∀ o1 o2 : Obj, ((w.alloc o1).alloc o2).cell? ⟨b, o + 2, none⟩ = some (.int .u8 x2) := fun o1 o2 => below_cell (bl_alloc (bl_alloc (bl_refl w) o1) o2) q2
  clear hc
  go_enter Try.func27, Try.ntmps27
  go_wp2_with fail
  obtain ⟨bA, bB, hsz, hB⟩ := two_blocks w (.cells #[.int .i64 0, .int .i64 0, .int .i64 0, .bool false, .int .i64 0, .int .i64 0, .slice none 0 0] 24) (.cells #[.int .i64 k, .int .i64 0, .int .i64 (x2 / 2), .bool (x2 % 2 == 1), .int .i64 0, .int .i64 0, .slice none 0 0] 24)
  have hr := hr0.below hB
  generalize (w.alloc (.cells #[.int .i64 0, .int .i64 0, .int .i64 0, .bool false, .int .i64 0, .int .i64 0, .slice none 0 0] 24)).alloc (.cells #[.int .i64 k, .int .i64 0, .int .i64 (x2 / 2), .bool (x2 % 2 == 1), .int .i64 0, .int .i64 0, .slice none 0 0] 24) = W0 at bA bB hsz hB hr ⊢
  refine (two_any _ p 3 (by omega) hw _ hr).mono ?_
  rintro e W1 ⟨rfl, rfl⟩
  have f4 := frozen_of (j := 4) bB
  obtain ⟨d0, d1, d2, d3, d4, d5, d6⟩ := cells_of7 bB
  have hF := (Fr.refl (fun i => i = w.heap.size + 1) W0).setCell (p := ⟨w.heap.size + 1, 4, none⟩) (.inl rfl) (.int .i64 (getV p 3 2 : Nat))
  have hr1 := hr0.below (bl_fr hB hF (by intro i hi; omega))
  go_wp2_with fail
  clear d0 d1 d2 d3 d4 d5 d6
  have bA := hF.get bA (by omega)
  have bB : (W0.setCell ⟨w.heap.size + 1, 4, none⟩ (.int .i64 (getV p 3 2 : Nat))).heap[w.heap.size + 1]? = some (.cells #[.int .i64 k, .int .i64 0, .int .i64 (x2 / 2), .bool (x2 % 2 == 1), .int .i64 (getV p 3 2 : Nat), .int .i64 0, .slice none 0 0] 24) := heap_set_box _ _ _ _ _ _ bB
  have hB := bl_fr hB hF (by intro i hi; omega)
  have hs1 := hF.size
  generalize W0.setCell ⟨w.heap.size + 1, 4, none⟩ (.int .i64 (getV p 3 2 : Nat)) = W1 at bA bB hB hr1 hs1 ⊢
  refine (two_any _ p 5 (by omega) hw _ hr1).mono ?_
  rintro e W2 ⟨rfl, rfl⟩
  have f5 := frozen_of (j := 5) bB
  obtain ⟨d0, d1, d2, d3, d4, d5, d6⟩ := cells_of7 bB
  have hF := (Fr.refl (fun i => i = w.heap.size + 1) W1).setCell (p := ⟨w.heap.size + 1, 5, none⟩) (.inl rfl) (.int .i64 (getV p 5 2 : Nat))
  have hr2 := hr0.below (bl_fr hB hF (by intro i hi; omega))
  go_wp2_with fail
  clear d0 d1 d2 d3 d4 d5 d6 f5 f4 hr1
  have bA := hF.get bA (by omega)
  have bB : (W1.setCell ⟨w.heap.size + 1, 5, none⟩ (.int .i64 (getV p 5 2 : Nat))).heap[w.heap.size + 1]? = some (.cells #[.int .i64 k, .int .i64 0, .int .i64 (x2 / 2), .bool (x2 % 2 == 1), .int .i64 (getV p 3 2 : Nat), .int .i64 (getV p 5 2 : Nat), .slice none 0 0] 24) := heap_set_box _ _ _ _ _ _ bB
  have hB := bl_fr hB hF (by intro i hi; omega)
  have hs2 := hF.size
  generalize W1.setCell ⟨w.heap.size + 1, 5, none⟩ (.int .i64 (getV p 5 2 : Nat)) = W2 at bA bB hB hr2 hs2 ⊢
  refine (rest_any _ p 7 (by omega) _ hr2 hle).mono ?_
  rintro e W3 ⟨ao3, cap3, rfl, hr3, hb⟩
  have bA := bl_get hb bA
  have bB := bl_get hb bB
  have hB := bl_trans hB hb
  have hl2 := hb.size
  clear hb hr2
  obtain ⟨n3, hn3⟩ : ∃ n3, Hid ((p.drop 7).length = n3) := ⟨_, rfl⟩
  rw [hn3.out] at hr3 ⊢
  have f6 := frozen_of (j := 6) bB
  obtain ⟨d0, d1, d2, d3, d4, d5, d6⟩ := cells_of7 bB
  have hres2 := (Below.heap_setCell W3 ⟨w.heap.size + 1, 6, none⟩ (.slice ao3 n3 cap3) w.heap.size (by simp)).trans bA
  go_wp2_with (refine wpList_store_row rfl 24 _ _ rfl _ #[.int .i64 k, .int .i64 0, .int .i64 (x2 / 2), .bool (x2 % 2 == 1), .int .i64 (getV p 3 2 : Nat), .int .i64 (getV p 5 2 : Nat), .slice ao3 n3 cap3] rfl rfl 24 _ hres2 infoCtl rfl (one7 _ _ _ _ _ _ _ rfl rfl rfl rfl rfl rfl rfl) ?_)
  have hF : Fr (fun i => i = w.heap.size ∨ i = w.heap.size + 1) W3 ((W3.setCell ⟨w.heap.size + 1, 6, none⟩ (.slice ao3 n3 cap3)).setRow w.heap.size #[.int .i64 k, .int .i64 0, .int .i64 (x2 / 2), .bool (x2 % 2 == 1), .int .i64 (getV p 3 2 : Nat), .int .i64 (getV p 5 2 : Nat), .slice ao3 n3 cap3]) := ((Fr.refl _ _).setCell (p := ⟨w.heap.size + 1, 6, none⟩) (.inl (.inr rfl)) _).setRow (.inl (.inl rfl)) _
  have hrow := setRow_heap (W3.setCell ⟨w.heap.size + 1, 6, none⟩ (.slice ao3 n3 cap3)) w.heap.size _ #[.int .i64 k, .int .i64 0, .int .i64 (x2 / 2), .bool (x2 % 2 == 1), .int .i64 (getV p 3 2 : Nat), .int .i64 (getV p 5 2 : Nat), .slice ao3 n3 cap3] _ _ hres2
  have hrr : Rd (fun i => w.heap.size ≤ i) (Value.int .u8) ((W3.setCell ⟨w.heap.size + 1, 6, none⟩ (.slice ao3 n3 cap3)).setRow w.heap.size #[.int .i64 k, .int .i64 0, .int .i64 (x2 / 2), .bool (x2 % 2 == 1), .int .i64 (getV p 3 2 : Nat), .int .i64 (getV p 5 2 : Nat), .slice ao3 n3 cap3]) (.slice ao3 n3 cap3) (p.drop 7) := (hr3.fr hF (by intro i hi; omega)).mono (fun i hi => by omega)
  have hB := bl_fr hB hF (by intro i hi; omega)
  generalize (W3.setCell ⟨w.heap.size + 1, 6, none⟩ (.slice ao3 n3 cap3)).setRow w.heap.size #[.int .i64 k, .int .i64 0, .int .i64 (x2 / 2), .bool (x2 % 2 == 1), .int .i64 (getV p 3 2 : Nat), .int .i64 (getV p 5 2 : Nat), .slice ao3 n3 cap3] = W4 at hrow hrr hB ⊢
  obtain ⟨e0, e1, e2, e3, e4, e5, e6⟩ := cells_of7 hrow
  try simp only [Exit.inBlock, Exit.then]
  refine bodyPost_ret (by simp [results, Try.results27, go_sem, e0, e1, e2, e3, e4, e5, e6]; try rfl) rfl ?_
  exact ⟨ao3, cap3, by simp only [Ctl.val, hn3.out], by rw [hn3.out]; exact hrr, hB⟩

set_option maxRecDepth 100000 in
set_option maxHeartbeats 1000000 in
theorem guess_3 (v : Value) (p : List Int) (k : Int) (hk : 5 ≤ k ∧ k ≤ 7) (hk1 : (k == 1) = false) (x1 : Int) (hx1 : Hid (p[1]? = some x1)) (c1 : 0 ≤ x1 ∧ x1 ≤ 255)  (hlen : 3 ≤ p.length) (hw : Hid (∀ n ∈ p, (Lit.int .u8 n).wf = true)) (w : World) (hr : Reads (Value.int .u8) w v p) (hle : p.length ≤ 140737488351232) :
    Calls Try.prog 27 #[v, .int .i64 k] w fun e w' => ∃ (ao : Option Addr) (cap : Nat), e = .returned (Ctl.val ⟨k, 0, 0, x1 / 16 % 2 == 1, (getV p 2 2 : Nat), (getV p 4 2 : Nat), p.drop 6⟩ ao cap) ∧ Rd (fun i => w.heap.size ≤ i) (Value.int .u8) w' (.slice ao (p.drop 6).length cap) (p.drop 6) ∧ Below w.heap.size w w' := by
  have hr0 := hr
  obtain ⟨hm, ao, cap, rfl, ⟨hcap, _⟩, hc⟩ := hr
  unfold maxLen at hm
  obtain ⟨b', o', hao, q1⟩ := hc 1 x1 hx1.out
  subst hao
  have q1 : ∀ o1 o2 : Obj, ((w.alloc o1).alloc o2).cell? ⟨b', o' + 1, none⟩ = some (.int .u8 x1) := fun o1 o2 => below_cell (bl_alloc (bl_alloc (bl_refl w) o1) o2) q1
  clear hc
  go_enter Try.func27, Try.ntmps27
  go_wp2_with fail
  obtain ⟨bA, bB, hsz, hB⟩ := two_blocks w (.cells #[.int .i64 0, .int .i64 0, .int .i64 0, .bool false, .int .i64 0, .int .i64 0, .slice none 0 0] 24) (.cells #[.int .i64 k, .int .i64 0, .int .i64 0, .bool (x1 / 16 % 2 == 1), .int .i64 0, .int .i64 0, .slice none 0 0] 24)
  have hr := hr0.below hB
  generalize (w.alloc (.cells #[.int .i64 0, .int .i64 0, .int .i64 0, .bool false, .int .i64 0, .int .i64 0, .slice none 0 0] 24)).alloc (.cells #[.int .i64 k, .int .i64 0, .int .i64 0, .bool (x1 / 16 % 2 == 1), .int .i64 0, .int .i64 0, .slice none 0 0] 24) = W0 at bA bB hsz hB hr ⊢
  refine (two_any _ p 2 (by omega) hw _ hr).mono ?_
  rintro e W1 ⟨rfl, rfl⟩
  have f4 := frozen_of (j := 4) bB
  obtain ⟨d0, d1, d2, d3, d4, d5, d6⟩ := cells_of7 bB
  have hF := (Fr.refl (fun i => i = w.heap.size + 1) W0).setCell (p := ⟨w.heap.size + 1, 4, none⟩) (.inl rfl) (.int .i64 (getV p 2 2 : Nat))
  have hr1 := hr0.below (bl_fr hB hF (by intro i hi; omega))
  go_wp2_with fail
  clear d0 d1 d2 d3 d4 d5 d6
  have bA := hF.get bA (by omega)
  have bB : (W0.setCell ⟨w.heap.size + 1, 4, none⟩ (.int .i64 (getV p 2 2 : Nat))).heap[w.heap.size + 1]? = some (.cells #[.int .i64 k, .int .i64 0, .int .i64 0, .bool (x1 / 16 % 2 == 1), .int .i64 (getV p 2 2 : Nat), .int .i64 0, .slice none 0 0] 24) := heap_set_box _ _ _ _ _ _ bB
  have hB := bl_fr hB hF (by intro i hi; omega)
  have hs1 := hF.size
  generalize W0.setCell ⟨w.heap.size + 1, 4, none⟩ (.int .i64 (getV p 2 2 : Nat)) = W1 at bA bB hB hr1 hs1 ⊢
  refine (two_any _ p 4 (by omega) hw _ hr1).mono ?_
  rintro e W2 ⟨rfl, rfl⟩
  have f5 := frozen_of (j := 5) bB
  obtain ⟨d0, d1, d2, d3, d4, d5, d6⟩ := cells_of7 bB
  have hF := (Fr.refl (fun i => i = w.heap.size + 1) W1).setCell (p := ⟨w.heap.size + 1, 5, none⟩) (.inl rfl) (.int .i64 (getV p 4 2 : Nat))
  have hr2 := hr0.below (bl_fr hB hF (by intro i hi; omega))
  go_wp2_with fail
  clear d0 d1 d2 d3 d4 d5 d6 f5 f4 hr1
  have bA := hF.get bA (by omega)
  have bB : (W1.setCell ⟨w.heap.size + 1, 5, none⟩ (.int .i64 (getV p 4 2 : Nat))).heap[w.heap.size + 1]? = some (.cells #[.int .i64 k, .int .i64 0, .int .i64 0, .bool (x1 / 16 % 2 == 1), .int .i64 (getV p 2 2 : Nat), .int .i64 (getV p 4 2 : Nat), .slice none 0 0] 24) := heap_set_box _ _ _ _ _ _ bB
  have hB := bl_fr hB hF (by intro i hi; omega)
  have hs2 := hF.size
  generalize W1.setCell ⟨w.heap.size + 1, 5, none⟩ (.int .i64 (getV p 4 2 : Nat)) = W2 at bA bB hB hr2 hs2 ⊢
  refine (rest_any _ p 6 (by omega) _ hr2 hle).mono ?_
  rintro e W3 ⟨ao3, cap3, rfl, hr3, hb⟩
  have bA := bl_get hb bA
  have bB := bl_get hb bB
  have hB := bl_trans hB hb
  have hl2 := hb.size
  clear hb hr2
  obtain ⟨n3, hn3⟩ : ∃ n3, Hid ((p.drop 6).length = n3) := ⟨_, rfl⟩
  rw [hn3.out] at hr3 ⊢
  have f6 := frozen_of (j := 6) bB
  obtain ⟨d0, d1, d2, d3, d4, d5, d6⟩ := cells_of7 bB
  have hres2 := (Below.heap_setCell W3 ⟨w.heap.size + 1, 6, none⟩ (.slice ao3 n3 cap3) w.heap.size (by simp)).trans bA
  go_wp2_with (refine wpList_store_row rfl 24 _ _ rfl _ #[.int .i64 k, .int .i64 0, .int .i64 0, .bool (x1 / 16 % 2 == 1), .int .i64 (getV p 2 2 : Nat), .int .i64 (getV p 4 2 : Nat), .slice ao3 n3 cap3] rfl rfl 24 _ hres2 infoCtl rfl (one7 _ _ _ _ _ _ _ rfl rfl rfl rfl rfl rfl rfl) ?_)
  have hF : Fr (fun i => i = w.heap.size ∨ i = w.heap.size + 1) W3 ((W3.setCell ⟨w.heap.size + 1, 6, none⟩ (.slice ao3 n3 cap3)).setRow w.heap.size #[.int .i64 k, .int .i64 0, .int .i64 0, .bool (x1 / 16 % 2 == 1), .int .i64 (getV p 2 2 : Nat), .int .i64 (getV p 4 2 : Nat), .slice ao3 n3 cap3]) := ((Fr.refl _ _).setCell (p := ⟨w.heap.size + 1, 6, none⟩) (.inl (.inr rfl)) _).setRow (.inl (.inl rfl)) _
  have hrow := setRow_heap (W3.setCell ⟨w.heap.size + 1, 6, none⟩ (.slice ao3 n3 cap3)) w.heap.size _ #[.int .i64 k, .int .i64 0, .int .i64 0, .bool (x1 / 16 % 2 == 1), .int .i64 (getV p 2 2 : Nat), .int .i64 (getV p 4 2 : Nat), .slice ao3 n3 cap3] _ _ hres2
  have hrr : Rd (fun i => w.heap.size ≤ i) (Value.int .u8) ((W3.setCell ⟨w.heap.size + 1, 6, none⟩ (.slice ao3 n3 cap3)).setRow w.heap.size #[.int .i64 k, .int .i64 0, .int .i64 0, .bool (x1 / 16 % 2 == 1), .int .i64 (getV p 2 2 : Nat), .int .i64 (getV p 4 2 : Nat), .slice ao3 n3 cap3]) (.slice ao3 n3 cap3) (p.drop 6) := (hr3.fr hF (by intro i hi; omega)).mono (fun i hi => by omega)
  have hB := bl_fr hB hF (by intro i hi; omega)
  generalize (W3.setCell ⟨w.heap.size + 1, 6, none⟩ (.slice ao3 n3 cap3)).setRow w.heap.size #[.int .i64 k, .int .i64 0, .int .i64 0, .bool (x1 / 16 % 2 == 1), .int .i64 (getV p 2 2 : Nat), .int .i64 (getV p 4 2 : Nat), .slice ao3 n3 cap3] = W4 at hrow hrr hB ⊢
  obtain ⟨e0, e1, e2, e3, e4, e5, e6⟩ := cells_of7 hrow
  try simp only [Exit.inBlock, Exit.then]
  refine bodyPost_ret (by simp [results, Try.results27, go_sem, e0, e1, e2, e3, e4, e5, e6]; try rfl) rfl ?_
  exact ⟨ao3, cap3, by simp only [Ctl.val, hn3.out], by rw [hn3.out]; exact hrr, hB⟩

end Go.Proofs.Ytcglpdbnggekdaa
