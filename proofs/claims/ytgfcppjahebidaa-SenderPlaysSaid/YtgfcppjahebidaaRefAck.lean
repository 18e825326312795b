/- The reference's sender: Ack. Conditions: as they stand. -/
import Derived.WalkKit
import Derived.Lib.Hide
import Derived.BigQuiet
import Derived.BigRegion
import Derived.Handy
import Derived.Test.YtgfcppjahebidaaRefSnd
namespace Go.Proofs.Ytgfcppjahebidaa
open Go.RowKit

theorem pays_drop {R : Nat → Prop} {w : World} {ao : Option Addr} {n cap : Nat} {ps : List (List Int)} (h : Pays R w (.slice ao n cap) ps) (k : Nat) (hk : k ≤ n) : Pays R w (.slice (if cap = k then ao else ao.map (·.add k)) (n - k) (cap - k)) (ps.drop k) := by
  obtain ⟨vs, h1, ⟨⟨hm, ao', cap', hv, ⟨hc, hnil⟩, hcell⟩, hF⟩, h3⟩ := h
  cases hv
  refine ⟨vs.drop k, by simp [h1], ⟨⟨by rw [List.length_drop]; omega, _, _, by rw [List.length_drop], ⟨by rw [List.length_drop]; omega, fun h => ?_⟩, fun i x hx => ?_⟩, fun j hj => ?_⟩, fun i x p hx hq => ?_⟩
  · by_cases e : cap = k
    · omega
    · rw [if_neg e] at h
      cases ao with
      | none => have := hnil rfl; omega
      | some a => simp at h
  · rw [List.getElem?_drop] at hx
    have hlt := (List.getElem?_eq_some_iff.1 hx).1
    obtain ⟨b, o, rfl, hcx⟩ := hcell (k + i) x hx
    rw [if_neg (by omega)]
    refine ⟨b, o + k, by rw [← Addr.add_lit b o k]; rfl, ?_⟩
    rw [Nat.add_assoc]
    exact hcx
  · refine hF j ?_
    cases ao with
    | none => split at hj <;> simp [Value.ownBlock] at hj
    | some a =>
      split at hj
      · exact hj
      · simp only [Option.map_some, Value.ownBlock] at hj ⊢
        rw [← hj]
        simp only [Addr.add]
        split <;> rfl
  · rw [List.getElem?_drop] at hx hq
    exact h3 (k + i) x p hx hq

set_option maxRecDepth 100000 in
set_option maxHeartbeats 1000000 in
theorem rack_any (R : Nat → Prop) (s : Snd) (hok : s.Ok) (v : Value) (nr : Int) (w : World) (hP : Pays R w v s.ps) :
    Calls Try.prog 33 #[refV s v, .int .i64 nr] w fun e w' => ∃ u, e = .returned (.tuple #[refV (s.ack nr) u, .int .i64 (s.ackN nr), .int .i64 (s.ackE nr)]) ∧ Pays R w' u (s.ack nr).ps ∧ Below w.heap.size w w' := by
  obtain ⟨ao, cap, rfl, hc, _⟩ := hP.form
  by_cases h0 : nr < 0 ∨ 127 < nr
  · have hE : s.ackE nr = 1 := by unfold Snd.ackE; rw [if_pos h0]
    have hn : s.ackN nr = 0 := by unfold Snd.ackN; rw [if_neg (by omega)]
    have hs : s.ack nr = s := by unfold Snd.ack; rw [if_neg (by omega)]
    rw [hE, hn, hs]
    clear hE hn hs
    unfold refV
    rcases h0 with h | h
    all_goals
      have h' : ¬ (0 ≤ nr ∧ nr ≤ 127) := by omega
      go_enter Try.func33, Try.ntmps33
      go_wp2
      go_returns
      exact ⟨_, rfl, (hP.below (bl_alloc (bl_refl w) _)).below (bl_alloc (bl_refl _) _), bl_alloc (bl_alloc (bl_refl w) _) _⟩
  · have n0 : 0 ≤ nr := by omega
    have n1 : nr ≤ 127 := by omega
    obtain ⟨m, hm⟩ := Int.eq_ofNat_of_zero_le (show 0 ≤ (nr - s.base) % 128 by omega)
    by_cases hl : (s.under : Int) < (nr - s.base) % 128
    · have hE : s.ackE nr = 7 := by unfold Snd.ackE; rw [if_neg h0, if_pos hl]
      have hn : s.ackN nr = 0 := by unfold Snd.ackN; rw [if_neg (by omega)]
      have hs : s.ack nr = s := by unfold Snd.ack; rw [if_neg (by omega)]
      rw [hE, hn, hs]
      have hmI : (s.under : Int) < (m : Int) := by omega
      clear hE hn hs hl h0
      unfold refV
      go_enter Try.func33, Try.ntmps33
      go_wp2_with fail
      refine (rway_any _ _ _).mono ?_
      rintro e w' ⟨rfl, rfl⟩
      rw [hm]
      go_wp2
      go_returns
      exact ⟨_, rfl, (hP.below (bl_alloc (bl_refl w) _)).below (bl_alloc (bl_refl _) _), bl_alloc (bl_alloc (bl_refl w) _) _⟩
    · have hE : s.ackE nr = 0 := by unfold Snd.ackE; rw [if_neg h0, if_neg hl]
      have hn : s.ackN nr = m := by unfold Snd.ackN; rw [if_pos hE, hm]; rfl
      obtain ⟨k, rfl⟩ := Int.eq_ofNat_of_zero_le n0
      have hs : s.ack k = ⟨s.size, k, s.ps.drop m, s.under - m⟩ := by unfold Snd.ack; rw [if_pos hE, hn]; rfl
      rw [hE, hn, hs]
      have hu := hok.under1
      have hu2 := hok.under2
      have hu3 := hok.size2
      have hmN : m ≤ s.under := by omega
      have hmI : (m : Int) ≤ (s.under : Int) := by omega
      have hsub : ((s.under - m : Nat) : Int) = (s.under : Int) - (m : Int) := by omega
      unfold refV
      rw [hsub]
      have hcut : ∀ W, (Instr.sliceAt 38 (.slice ao s.ps.length cap) (some (.int .i64 m)) none none).run Try.prog W = .ok (.slice (if cap = m then ao else ao.map (·.add m)) (s.ps.length - m) (cap - m)) W := fun W => by
        obtain ⟨j0, hj, hy0, hy1, hy2⟩ := info_parts infoBytes
        exact run_cut_from (P := Try.prog) Try.underlying38 hj hy1 W ao s.ps.length cap m (by omega)
      have hd := pays_drop hP m (by omega)
      generalize (if cap = m then ao else ao.map (·.add m)) = q at hcut hd ⊢
      clear hE hn hs hl h0 hsub hP hc hu
      go_enter Try.func33, Try.ntmps33
      go_wp2_with fail
      refine (rway_any _ _ _).mono ?_
      rintro e w' ⟨rfl, rfl⟩
      rw [hm]
      go_wp2
      go_region
      go_wp2
      go_returns
      refine ⟨_, rfl, hd.below ?_, ?_⟩ <;> first | exact bl_drew (bl_alloc (bl_alloc (bl_refl w) _) _) | exact bl_drewN (bl_alloc (bl_alloc (bl_refl w) _) _) _

end Go.Proofs.Ytgfcppjahebidaa
