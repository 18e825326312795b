/- The reference's sender: New, Payload, Again, Under, Reset. The reference's sender: Ack. The reference's sender: Send. The reference's sender: Push where nothing is pushed. Conditions: as they stand. -/
import Derived.WalkKit
import Derived.Lib.Hide
import Derived.BigQuiet
import Derived.Handy
import Derived.Test.YthmdibagcbbgoaaGreatM07
import Derived.Test.YthmdibagcbbgoaaGreatM11
import Derived.Test.YthmdibagcbbgoaaGreatM10
import Derived.BigRegion
import Derived.IntWalk
import Derived.Test.YthmdibagcbbgoaaGreatM08
import Derived.Test.YthmdibagcbbgoaaGreatM09
namespace Go.Proofs.YthmdibagcbbgoaaGreat
open Go.RowKit

/-- The reference's sender as a value. -/
def refV (s : Snd) (v : Value) : Value := .agg #[.int .i64 s.size, .int .i64 s.base, v, .int .i64 s.under]

theorem rnew_bad (n : Int) (h : n < 1 ∨ 63 < n) (w : World) :
    Calls Tryz.prog 22 #[.int .i64 n] w fun e w' => e = .returned (.tuple #[.agg #[.int .i64 0, .int .i64 0, .slice none 0 0, .int .i64 0], .int .i64 1]) ∧ Below w.heap.size w w' := by
  rcases h with h | h
  · go_enter Tryz.func22, Tryz.ntmps22
    go_wp2
    go_returns
    exact ⟨rfl, bl_alloc (bl_refl w) _⟩
  · have h1 : ¬ n < 1 := by omega
    go_enter Tryz.func22, Tryz.ntmps22
    go_wp2
    go_returns
    exact ⟨rfl, bl_alloc (bl_refl w) _⟩
theorem rnew_ok (n : Nat) (h1 : 1 ≤ n) (h2 : n ≤ 63) (w : World) :
    Calls Tryz.prog 22 #[.int .i64 n] w fun e w' => e = .returned (.tuple #[refV ⟨n, 0, [], 0⟩ (.slice none 0 0), .int .i64 0]) ∧ Below w.heap.size w w' := by
  go_enter Tryz.func22, Tryz.ntmps22
  go_wp2
  go_returns
  exact ⟨rfl, bl_alloc (bl_refl w) _⟩

def payN (p : List Int) : Int := if p.length = 0 then 2 else if 121 < p.length then 3 else 0
theorem rpay_any (v : Value) (p : List Int) (w : World) (hr : Reads (Value.int .u8) w v p) :
    Calls Tryz.prog 64 #[v] w fun e w' => e = .returned (.int .i64 (payN p)) ∧ w = w' := by
  obtain ⟨hm, ao, cap, rfl, _, _⟩ := hr
  by_cases h0 : p.length = 0
  · have hp : payN p = 2 := by simp [payN, h0]
    rw [hp]
    go_enter Tryz.func64, Tryz.ntmps64
    go_wp2
    go_ret
    exact ⟨rfl, rfl⟩
  · by_cases h1 : 121 < p.length
    · have hp : payN p = 3 := by unfold payN; rw [if_neg h0, if_pos h1]
      rw [hp]
      clear hp
      go_enter Tryz.func64, Tryz.ntmps64
      go_wp2
      go_ret
      exact ⟨rfl, rfl⟩
    · have hp : payN p = 0 := by unfold payN; rw [if_neg h0, if_neg h1]
      rw [hp]
      clear hp
      go_enter Tryz.func64, Tryz.ntmps64
      go_wp2
      go_ret
      exact ⟨rfl, rfl⟩

theorem rreset_any (s : Snd) (v : Value) (w : World) :
    Calls Tryz.prog 86 #[refV s v] w fun e w' => e = .returned (refV ⟨s.size, 0, [], 0⟩ (.slice none 0 0)) ∧ Below w.heap.size w w' := by
  unfold refV
  go_enter Tryz.func86, Tryz.ntmps86
  go_wp2
  go_returns
  exact ⟨rfl, bl_alloc (bl_alloc (bl_refl w) _) _⟩

theorem byt_nil (F : Nat → Prop) (w : World) : Byt F w (.slice none 0 0) [] := ⟨⟨Reads.nil _ _, fun k hk => by simp [Value.ownBlock] at hk⟩, fun n hn => by simp at hn⟩
set_option maxRecDepth 100000 in
set_option maxHeartbeats 1000000 in
theorem ragain_any (R : Nat → Prop) (s : Snd) (hok : s.Ok) (v : Value) (nr : Int) (w : World) (hP : Pays R w v s.ps) :
    Calls Tryz.prog 67 #[refV s v, .int .i64 nr] w fun e w' => ∃ u, e = .returned (.tuple #[u, .int .i64 (s.againE nr)]) ∧ Byt R w' u (s.againP nr) ∧ Below w.heap.size w w' := by
  unfold refV
  by_cases h0 : nr < 0 ∨ 127 < nr
  · have hE : s.againE nr = 1 := by unfold Snd.againE; rw [if_pos h0]
    have hp : s.againP nr = [] := by unfold Snd.againP; rw [if_neg (by omega)]
    rw [hE, hp]
    clear hE hp
    rcases h0 with h | h
    all_goals
      have h' : ¬ (0 ≤ nr ∧ nr ≤ 127) := by omega
      go_enter Tryz.func67, Tryz.ntmps67
      go_wp2
      go_returns
      exact ⟨_, rfl, byt_nil _ _, bl_alloc (bl_refl w) _⟩
  · have n0 : 0 ≤ nr := by omega
    have n1 : nr ≤ 127 := by omega
    by_cases hl : (nr - s.base) % 128 < (s.under : Int)
    · have hE : s.againE nr = 0 := by unfold Snd.againE; rw [if_neg h0, if_pos hl]
      have hp : s.againP nr = s.ps.getD ((nr - s.base) % 128).toNat [] := by unfold Snd.againP; rw [if_pos hE]
      rw [hE, hp]
      obtain ⟨m, hm⟩ := Int.eq_ofNat_of_zero_le (show 0 ≤ (nr - s.base) % 128 by omega)
      have hu := hok.under1
      have hml : m < s.ps.length := by omega
      obtain ⟨q, hq⟩ := get_some hml
      have hpq : s.ps.getD ((nr - s.base) % 128).toNat [] = q := by rw [hm, Int.toNat_natCast, List.getD_eq_getElem?_getD, hq]; rfl
      rw [hpq]
      obtain ⟨ao, cap, rfl, hc, _⟩ := hP.form
      obtain ⟨b, o, x, rfl, hb, hcell, hx⟩ := hP.at_ hq
      have hcell := below_cell (bl_alloc (bl_refl w) (.cells #[.int .i64 s.size, .int .i64 s.base, .slice (some ⟨b, o, none⟩) s.ps.length cap, .int .i64 s.under] 31)) hcell
      have hmI : (m : Int) < (s.under : Int) := by omega
      have hmL : (m : Int) < (s.ps.length : Int) := by omega
      clear hE hp hpq hq hu hl h0
      go_enter Tryz.func67, Tryz.ntmps67
      go_wp2_with fail
      refine (rway_any _ _ _).mono ?_
      rintro e w' ⟨rfl, rfl⟩
      rw [hm]
      go_wp2
      go_returns
      exact ⟨_, rfl, hx.below (bl_alloc (bl_refl w) _), bl_alloc (bl_refl w) _⟩
    · have hE : s.againE nr = 4 := by unfold Snd.againE; rw [if_neg h0, if_neg hl]
      have hp : s.againP nr = [] := by unfold Snd.againP; rw [if_neg (by omega)]
      rw [hE, hp]
      obtain ⟨m, hm⟩ := Int.eq_ofNat_of_zero_le (show 0 ≤ (nr - s.base) % 128 by omega)
      have hmI : (s.under : Int) ≤ (m : Int) := by omega
      clear hE hp hl h0
      go_enter Tryz.func67, Tryz.ntmps67
      go_wp2_with fail
      refine (rway_any _ _ _).mono ?_
      rintro e w' ⟨rfl, rfl⟩
      rw [hm]
      go_wp2
      go_returns
      exact ⟨_, rfl, byt_nil _ _, bl_alloc (bl_refl w) _⟩

end Go.Proofs.YthmdibagcbbgoaaGreat

namespace Go.Proofs.YthmdibagcbbgoaaGreat
open Go.RowKit

theorem pays_drop {R : Nat → Prop} {w : World} {ao : Option Addr} {n cap : Nat} {ps : List (List Int)} (h : Pays R w (.slice ao n cap) ps) (k : Nat) (hk : k ≤ n) : Pays R w (.slice (if cap = k then ao else ao.map (·.add k)) (n - k) (cap - k)) (ps.drop k) := by
  obtain ⟨vs, h1, ⟨⟨hm, ao', cap', hv, ⟨hc, hnil⟩, hcell⟩, hF⟩, h3⟩ := h
  cases hv
  refine ⟨vs.drop k, by simp [h1], ⟨⟨by rw [List.length_drop]; omega, _, _, by rw [List.length_drop], ⟨by rw [List.length_drop]; omega, fun h => ?_⟩, fun i x hx => ?_⟩, fun j hj => ?_⟩, fun i x p hx hq => ?_⟩
  · by_cases e : cap = k
    · omega
    · rw [if_neg e] at h
      cases ao with
      | none => have := hnil rfl; omega
      | some a => simp at h
  · rw [List.getElem?_drop] at hx
    have hlt := (List.getElem?_eq_some_iff.1 hx).1
    obtain ⟨b, o, rfl, hcx⟩ := hcell (k + i) x hx
    rw [if_neg (by omega)]
    refine ⟨b, o + k, by rw [← Addr.add_lit b o k]; rfl, ?_⟩
    rw [Nat.add_assoc]
    exact hcx
  · refine hF j ?_
    cases ao with
    | none => split at hj <;> simp [Value.ownBlock] at hj
    | some a =>
      split at hj
      · exact hj
      · simp only [Option.map_some, Value.ownBlock] at hj ⊢
        rw [← hj]
        simp only [Addr.add]
        split <;> rfl
  · rw [List.getElem?_drop] at hx hq
    exact h3 (k + i) x p hx hq

set_option maxRecDepth 100000 in
set_option maxHeartbeats 1000000 in
theorem rack_any (R : Nat → Prop) (s : Snd) (hok : s.Ok) (v : Value) (nr : Int) (w : World) (hP : Pays R w v s.ps) :
    Calls Tryz.prog 93 #[refV s v, .int .i64 nr] w fun e w' => ∃ u, e = .returned (.tuple #[refV (s.ack nr) u, .int .i64 (s.ackN nr), .int .i64 (s.ackE nr)]) ∧ Pays R w' u (s.ack nr).ps ∧ Below w.heap.size w w' := by
  obtain ⟨ao, cap, rfl, hc, _⟩ := hP.form
  by_cases h0 : nr < 0 ∨ 127 < nr
  · have hE : s.ackE nr = 1 := by unfold Snd.ackE; rw [if_pos h0]
    have hn : s.ackN nr = 0 := by unfold Snd.ackN; rw [if_neg (by omega)]
    have hs : s.ack nr = s := by unfold Snd.ack; rw [if_neg (by omega)]
    rw [hE, hn, hs]
    clear hE hn hs
    unfold refV
    rcases h0 with h | h
    all_goals
      have h' : ¬ (0 ≤ nr ∧ nr ≤ 127) := by omega
      go_enter Tryz.func93, Tryz.ntmps93
      go_wp2
      go_returns
      exact ⟨_, rfl, (hP.below (bl_alloc (bl_refl w) _)).below (bl_alloc (bl_refl _) _), bl_alloc (bl_alloc (bl_refl w) _) _⟩
  · have n0 : 0 ≤ nr := by omega
    have n1 : nr ≤ 127 := by omega
    obtain ⟨m, hm⟩ := Int.eq_ofNat_of_zero_le (show 0 ≤ (nr - s.base) % 128 by omega)
    by_cases hl : (s.under : Int) < (nr - s.base) % 128
    · have hE : s.ackE nr = 7 := by unfold Snd.ackE; rw [if_neg h0, if_pos hl]
      have hn : s.ackN nr = 0 := by unfold Snd.ackN; rw [if_neg (by omega)]
      have hs : s.ack nr = s := by unfold Snd.ack; rw [if_neg (by omega)]
      rw [hE, hn, hs]
      have hmI : (s.under : Int) < (m : Int) := by omega
      clear hE hn hs hl h0
      unfold refV
      go_enter Tryz.func93, Tryz.ntmps93
      go_wp2_with fail
      refine (rway_any _ _ _).mono ?_
      rintro e w' ⟨rfl, rfl⟩
      rw [hm]
      go_wp2
      go_returns
      exact ⟨_, rfl, (hP.below (bl_alloc (bl_refl w) _)).below (bl_alloc (bl_refl _) _), bl_alloc (bl_alloc (bl_refl w) _) _⟩
    · have hE : s.ackE nr = 0 := by unfold Snd.ackE; rw [if_neg h0, if_neg hl]
      have hn : s.ackN nr = m := by unfold Snd.ackN; rw [if_pos hE, hm]; rfl
      obtain ⟨k, rfl⟩ := Int.eq_ofNat_of_zero_le n0
      have hs : s.ack k = ⟨s.size, k, s.ps.drop m, s.under - m⟩ := by unfold Snd.ack; rw [if_pos hE, hn]; rfl
      rw [hE, hn, hs]
      have hu := hok.under1
      have hu2 := hok.under2
      have hu3 := hok.size2
      have hmN : m ≤ s.under := by omega
      have hmI : (m : Int) ≤ (s.under : Int) := by omega
      have hsub : ((s.under - m : Nat) : Int) = (s.under : Int) - (m : Int) := by omega
      unfold refV
      rw [hsub]
      have hcut : ∀ W, (Instr.sliceAt 29 (.slice ao s.ps.length cap) (some (.int .i64 m)) none none).run Tryz.prog W = .ok (.slice (if cap = m then ao else ao.map (·.add m)) (s.ps.length - m) (cap - m)) W := fun W => by
        obtain ⟨j0, hj, hy0, hy1, hy2⟩ := info_parts infoBytes
        exact run_cut_from (P := Tryz.prog) Tryz.underlying29 hj hy1 W ao s.ps.length cap m (by omega)
      have hd := pays_drop hP m (by omega)
      generalize (if cap = m then ao else ao.map (·.add m)) = q at hcut hd ⊢
      clear hE hn hs hl h0 hsub hP hc hu
      go_enter Tryz.func93, Tryz.ntmps93
      go_wp2_with fail
      refine (rway_any _ _ _).mono ?_
      rintro e w' ⟨rfl, rfl⟩
      rw [hm]
      go_wp2
      go_region
      go_wp2
      go_returns
      refine ⟨_, rfl, hd.below ?_, ?_⟩ <;> first | exact bl_drew (bl_alloc (bl_alloc (bl_refl w) _) _) | exact bl_drewN (bl_alloc (bl_alloc (bl_refl w) _) _) _

end Go.Proofs.YthmdibagcbbgoaaGreat

namespace Go.Proofs.YthmdibagcbbgoaaGreat
open Go.RowKit

set_option maxRecDepth 100000 in
set_option maxHeartbeats 1000000 in
theorem rsend_any (R : Nat → Prop) (s : Snd) (hok : s.Ok) (v : Value) (w : World) (hP : Pays R w v s.ps) :
    Calls Tryz.prog 65 #[refV s v] w fun e w' => ∃ u, e = .returned (.tuple #[refV s.send v, .int .i64 s.sendN, u, .bool s.can]) ∧ Byt R w' u s.sendP ∧ Below w.heap.size w w' := by
  obtain ⟨ao, cap, rfl, hc, _⟩ := hP.form
  cases hcan : s.can with
  | false =>
    have hn : s.sendN = 0 := by unfold Snd.sendN; rw [hcan]; rfl
    have hp : s.sendP = [] := by unfold Snd.sendP; rw [hcan]; rfl
    have hs : s.send = s := by unfold Snd.send; rw [hcan]; rfl
    rw [hn, hp, hs]
    have hor : (s.ps.length : Int) ≤ (s.under : Int) ∨ (s.under : Int) < (s.ps.length : Int) ∧ (s.size : Int) ≤ (s.under : Int) := by
      simp [Snd.can] at hcan
      omega
    clear hn hp hs hcan
    unfold refV
    rcases hor with h | ⟨h, h'⟩
    · go_enter Tryz.func65, Tryz.ntmps65
      go_wp2
      go_returns
      exact ⟨_, rfl, byt_nil _ _, by first | exact bl_alloc (bl_alloc (bl_refl w) _) _ | exact bl_drew (bl_alloc (bl_alloc (bl_refl w) _) _)⟩
    · go_enter Tryz.func65, Tryz.ntmps65
      go_wp2
      go_returns
      exact ⟨_, rfl, byt_nil _ _, by first | exact bl_alloc (bl_alloc (bl_refl w) _) _ | exact bl_drew (bl_alloc (bl_alloc (bl_refl w) _) _)⟩
  | true =>
    have hlt : s.under < s.ps.length ∧ s.under < s.size := by simpa [Snd.can] using hcan
    obtain ⟨q, hq⟩ := get_some hlt.1
    have hn : s.sendN = (s.base + s.under) % 128 := by unfold Snd.sendN; rw [if_pos hcan]
    have hp : s.sendP = q := by unfold Snd.sendP; rw [if_pos hcan, List.getD_eq_getElem?_getD, hq]; rfl
    have hs : s.send = { s with under := s.under + 1 } := by unfold Snd.send; rw [if_pos hcan]
    rw [hn, hp, hs]
    obtain ⟨b, o, x, rfl, hb, hcell, hx⟩ := hP.at_ hq
    have hcell := below_cell (bl_alloc (bl_refl w) (.cells #[.int .i64 s.size, .int .i64 s.base, .slice (some ⟨b, o, none⟩) s.ps.length cap, .int .i64 s.under] 31)) hcell
    have hcell := fun cs : Array Value => below_cell (bl_alloc (bl_refl _) (.cells cs 31)) hcell
    obtain ⟨xo, xc, rfl⟩ : ∃ xo xc, x = .slice xo q.length xc := by
      obtain ⟨⟨⟨_, xo, xc, h, _⟩, _⟩, _⟩ := hx
      exact ⟨xo, xc, h⟩
    have i1 : (s.under : Int) < (s.ps.length : Int) := by omega
    have i2 : (s.under : Int) < (s.size : Int) := by omega
    have hbs := hok.base
    have hsz := hok.size2
    have hN : ((s.base : Int) + (s.under : Int)) % 128 = (((s.base + s.under) % 128 : Nat) : Int) := by omega
    generalize (s.base + s.under) % 128 = N at hN ⊢
    have HS : ∀ cs : Array Value, (fun w' : World => w'.cell? ⟨w.heap.size, 0, none⟩ = some (.int .i64 s.size) ∧ w'.cell? ⟨w.heap.size, 1, none⟩ = some (.int .i64 s.base) ∧ w'.cell? ⟨w.heap.size, 2, none⟩ = some (.slice (some ⟨b, o, none⟩) s.ps.length cap) ∧ w'.cell? ⟨w.heap.size, 3, none⟩ = some (.int .i64 s.under) ∧ w'.cell? ⟨b, o + s.under, none⟩ = some (.slice xo q.length xc)) ((w.alloc (.cells #[.int .i64 s.size, .int .i64 s.base, .slice (some ⟨b, o, none⟩) s.ps.length cap, .int .i64 s.under] 31)).alloc (.cells cs 31)) := fun cs => by
      obtain ⟨c0, c1, c2, c3⟩ := cells_of4 (kept_alloc (heap_alloc_new w (.cells #[.int .i64 s.size, .int .i64 s.base, .slice (some ⟨b, o, none⟩) s.ps.length cap, .int .i64 s.under] 31)) (.cells cs 31))
      exact ⟨c0, c1, c2, c3, hcell cs⟩
    unfold refV
    clear hn hp hs hcan hlt hq
    go_enter Tryz.func65, Tryz.ntmps65
    go_wp2_with fail
    refine wp_region_order (fun w' => w'.cell? ⟨w.heap.size, 0, none⟩ = some (.int .i64 s.size) ∧ w'.cell? ⟨w.heap.size, 1, none⟩ = some (.int .i64 s.base) ∧ w'.cell? ⟨w.heap.size, 2, none⟩ = some (.slice (some ⟨b, o, none⟩) s.ps.length cap) ∧ w'.cell? ⟨w.heap.size, 3, none⟩ = some (.int .i64 s.under) ∧ w'.cell? ⟨b, o + s.under, none⟩ = some (.slice xo q.length xc))
      [(0, 0), (1, 1), (2, 0), (3, 1), (4, 0), (5, 1), (6, 0), (7, 1), (8, 0), (9, 0), (10, 0), (11, 1), (12, 0), (13, 1), (14, 0), (16, 0), (17, 1), (18, 0), (19, 1), (20, 1), (21, 1), (15, 2), (22, 2), (23, 0), (24, 0)] [(25, false)] [25] []
      (by kernel_rfl) (fun _ _ d _ _ h => by cases d <;> exact h) (by decide +kernel) (HS _) ?_
    refine wpHead_free (v := ?_) rfl (by rfl) ?_ ?_
    rotate_left
    focus (intro w1; go_simp; try with_reducible rfl)
    simp only [Act.put, List.setIfInBounds_toArray]
    refine wpHead_take (v := ?_) rfl (by rfl) ?_ ?_
    rotate_left
    focus (rintro w1 ⟨q0, q1, q2, q3, q4⟩; go_simp; try with_reducible rfl)
    simp only [Act.put]
    refine wpHead_free (v := ?_) rfl (by rfl) ?_ ?_
    rotate_left
    focus (intro w1; go_simp; try with_reducible rfl)
    simp only [Act.put]
    refine wpHead_take (v := ?_) rfl (by rfl) ?_ ?_
    rotate_left
    focus (rintro w1 ⟨q0, q1, q2, q3, q4⟩; go_simp; try with_reducible rfl)
    simp only [Act.put]
    refine wpHead_free (v := ?_) rfl (by rfl) ?_ ?_
    rotate_left
    focus (intro w1; go_simp; try with_reducible rfl)
    simp only [Act.put]
    refine wpHead_take (v := ?_) rfl (by rfl) ?_ ?_
    rotate_left
    focus (rintro w1 ⟨q0, q1, q2, q3, q4⟩; go_simp; try with_reducible rfl)
    simp only [Act.put]
    refine wpHead_free (v := ?_) rfl (by rfl) ?_ ?_
    rotate_left
    focus (intro w1; go_simp; try with_reducible rfl)
    simp only [Act.put]
    refine wpHead_take (v := ?_) rfl (by rfl) ?_ ?_
    rotate_left
    focus (rintro w1 ⟨q0, q1, q2, q3, q4⟩; go_simp; try with_reducible rfl)
    simp only [Act.put]
    refine wpHead_free (v := ?_) rfl (by rfl) ?_ ?_
    rotate_left
    focus (intro w1; go_simp; try with_reducible rfl)
    simp only [Act.put]
    refine wpHead_free (v := ?_) rfl (by rfl) ?_ ?_
    rotate_left
    focus (intro w1; go_simp; try with_reducible rfl)
    simp only [Act.put]
    refine wpHead_free (v := ?_) rfl (by rfl) ?_ ?_
    rotate_left
    focus (intro w1; go_simp; try with_reducible rfl)
    simp only [Act.put]
    refine wpHead_take (v := ?_) rfl (by rfl) ?_ ?_
    rotate_left
    focus (rintro w1 ⟨q0, q1, q2, q3, q4⟩; go_simp; try with_reducible rfl)
    simp only [Act.put]
    refine wpHead_free (v := ?_) rfl (by rfl) ?_ ?_
    rotate_left
    focus (intro w1; go_simp; try with_reducible rfl)
    simp only [Act.put]
    refine wpHead_take (v := ?_) rfl (by rfl) ?_ ?_
    rotate_left
    focus (rintro w1 ⟨q0, q1, q2, q3, q4⟩; go_simp; try with_reducible rfl)
    simp only [Act.put]
    refine wpHead_free (v := ?_) rfl (by rfl) ?_ ?_
    rotate_left
    focus (intro w1; go_simp; try with_reducible rfl)
    simp only [Act.put]
    refine wpHead_free (v := ?_) rfl (by rfl) ?_ ?_
    rotate_left
    focus (intro w1; go_simp; try with_reducible rfl)
    simp only [Act.put]
    refine wpHead_take (v := ?_) rfl (by rfl) ?_ ?_
    rotate_left
    focus (rintro w1 ⟨q0, q1, q2, q3, q4⟩; go_simp; try with_reducible rfl)
    simp only [Act.put]
    refine wpHead_free (v := ?_) rfl (by rfl) ?_ ?_
    rotate_left
    focus (intro w1; go_simp; try with_reducible rfl)
    simp only [Act.put]
    refine wpHead_take (v := ?_) rfl (by rfl) ?_ ?_
    rotate_left
    focus (rintro w1 ⟨q0, q1, q2, q3, q4⟩; go_simp; try with_reducible rfl)
    simp only [Act.put]
    refine wpHead_take (v := ?_) rfl (by rfl) ?_ ?_
    rotate_left
    focus (rintro w1 ⟨q0, q1, q2, q3, q4⟩; go_simp; try with_reducible rfl)
    simp only [Act.put]
    refine wpHead_take (v := ?_) rfl (by rfl) ?_ ?_
    rotate_left
    focus (rintro w1 ⟨q0, q1, q2, q3, q4⟩; go_simp; try with_reducible rfl)
    simp only [Act.put]
    refine wpHead_step rfl (by rfl) (fun K hK => ?_)
    go_simp; go_at_call 85; refine (rreduce_any _ _).mono ?_; rintro e w' ⟨rfl, rfl⟩; simp only []
    refine hK.out _ _ (HS _) ?_
    clear hK K
    try simp only [Act.put, List.setIfInBounds_toArray]
    refine wpHead_step rfl (by rfl) (fun K hK => ?_)
    go_simp
    refine hK.out _ _ (HS _) ?_
    clear hK K
    try simp only [Act.put, List.setIfInBounds_toArray]
    iterate 2
      refine wpHead_free (v := ?_) rfl (by rfl) ?_ ?_
      rotate_left
      focus (intro w1; go_simp; try with_reducible rfl)
      simp only [Act.put]
    refine wpHead_nil ?_
    refine wpTail_step rfl (by rfl) (fun K hK => ?_)
    go_simp
    refine hK.out _ _ ?_
    clear hK K
    try simp only [Act.put, List.setIfInBounds_toArray]
    refine wpTail_nil ?_
    -- behind the region
    go_wp2
    go_returns
    have w1 : IntKind.i64.wrap ((s.base : Int) + (s.under : Int)) = (s.base : Int) + (s.under : Int) := IntWalk.i64_in _ (by omega)
    have w2 : IntKind.i64.wrap ((s.under : Int) + 1) = ((s.under + 1 : Nat) : Int) := (IntWalk.i64_in _ (by omega)).trans (by omega)
    try rw [w1, hN]
    try rw [w2]
    refine ⟨_, rfl, hx.below ?_, ?_⟩ <;> first | exact bl_alloc (bl_alloc (bl_refl w) _) _ | exact bl_drew (bl_alloc (bl_alloc (bl_refl w) _) _)

end Go.Proofs.YthmdibagcbbgoaaGreat

namespace Go.Proofs.YthmdibagcbbgoaaGreat
open Go.RowKit

set_option maxRecDepth 100000 in
set_option maxHeartbeats 1000000 in
theorem rpush_bad (R : Nat → Prop) (s : Snd) (v u : Value) (p : List Int) (w : World) (hP : Pays R w v s.ps) (hr : Reads (Value.int .u8) w u p) (hE : s.pushE p ≠ 0) :
    Calls Tryz.prog 43 #[refV s v, u] w fun e w' => e = .returned (.tuple #[refV s v, .int .i64 (s.pushE p)]) ∧ Below w.heap.size w w' := by
  obtain ⟨ao, cap, rfl, hc, _⟩ := hP.form
  obtain ⟨po, pcap, rfl⟩ : ∃ po pcap, u = .slice po p.length pcap := by
    obtain ⟨_, po, pcap, h, _⟩ := hr
    exact ⟨po, pcap, h⟩
  clear hP
  have hr2 := (hr.below (bl_alloc (bl_refl w) (.cells #[.int .i64 s.size, .int .i64 s.base, .slice ao s.ps.length cap, .int .i64 s.under] 31))).below (bl_alloc (bl_refl _) (.cells #[.int .i64 0, .int .i64 0, .slice none 0 0, .int .i64 0] 31))
  by_cases h0 : p.length = 0 ∨ 121 < p.length
  · have hp : s.pushE p = payN p := by
      unfold Snd.pushE payN
      rcases h0 with h | h
      · rw [if_pos h, if_pos h]
      · rw [if_neg (by omega), if_pos h, if_neg (by omega), if_pos h]
    have hp0 : payN p ≠ 0 := by rw [← hp]; exact hE
    rw [hp]
    clear hp hE h0 hr
    unfold refV
    generalize hpn : payN p = pn at hp0 ⊢
    have hb : (pn != 0) = true := by simpa using hp0
    go_enter Tryz.func43, Tryz.ntmps43
    go_wp2_with fail
    refine (rpay_any _ p _ hr2).mono ?_
    rintro e w' ⟨rfl, rfl⟩
    rw [hpn]
    go_wp2_with fail
    have hrd := hr2.below (bl_drew (bl_refl _))
    go_region_with (go_at_call 64; refine (rpay_any _ p _ (by first | exact hrd | exact hr2)).mono ?_; rintro e w' ⟨rfl, rfl⟩; rw [hpn])
    all_goals
      go_wp2
      go_returns
      first
        | exact ⟨rfl, bl_alloc (bl_alloc (bl_refl w) _) _⟩
        | exact ⟨rfl, bl_drew (bl_alloc (bl_alloc (bl_refl w) _) _)⟩
  · have hf : 64 ≤ s.ps.length := by
      unfold Snd.pushE at hE
      rw [if_neg (by omega), if_neg (by omega)] at hE
      by_cases h : 64 ≤ s.ps.length
      · exact h
      · rw [if_neg h] at hE
        exact absurd rfl hE
    have hp : s.pushE p = 6 := by unfold Snd.pushE; rw [if_neg (by omega), if_neg (by omega), if_pos hf]
    have hpn : payN p = 0 := by unfold payN; rw [if_neg (by omega), if_neg (by omega)]
    rw [hp]
    clear hp hE h0 hr
    have hfI : (64 : Int) ≤ (s.ps.length : Int) := by omega
    unfold refV
    go_enter Tryz.func43, Tryz.ntmps43
    go_wp2_with fail
    refine (rpay_any _ p _ hr2).mono ?_
    rintro e w' ⟨rfl, rfl⟩
    rw [hpn]
    go_wp2
    go_returns
    first
      | exact ⟨rfl, bl_alloc (bl_alloc (bl_refl w) _) _⟩
      | exact ⟨rfl, bl_drew (bl_alloc (bl_alloc (bl_refl w) _) _)⟩

end Go.Proofs.YthmdibagcbbgoaaGreat
