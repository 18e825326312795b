/- The reference's sender: Push where nothing is pushed. Conditions: as they stand. -/
import Derived.WalkKit
import Derived.Lib.Hide
import Derived.BigQuiet
import Derived.Handy
import Derived.Test.YtgfcppjahebidaaRefSnd
import Derived.Test.YtgfcppjahebidaaSndPush
namespace Go.Proofs.Ytgfcppjahebidaa
open Go.RowKit

set_option maxRecDepth 100000 in
set_option maxHeartbeats 1000000 in
theorem rpush_bad (R : Nat → Prop) (s : Snd) (v u : Value) (p : List Int) (w : World) (hP : Pays R w v s.ps) (hr : Reads (Value.int .u8) w u p) (hE : s.pushE p ≠ 0) :
    Calls Try.prog 31 #[refV s v, u] w fun e w' => e = .returned (.tuple #[refV s v, .int .i64 (s.pushE p)]) ∧ Below w.heap.size w w' := by
  obtain ⟨ao, cap, rfl, hc, _⟩ := hP.form
  obtain ⟨po, pcap, rfl⟩ : ∃ po pcap, u = .slice po p.length pcap := by
    obtain ⟨_, po, pcap, h, _⟩ := hr
    exact ⟨po, pcap, h⟩
  clear hP
  have hr2 := (hr.below (bl_alloc (bl_refl w) (.cells #[.int .i64 s.size, .int .i64 s.base, .slice ao s.ps.length cap, .int .i64 s.under] 51))).below (bl_alloc (bl_refl _) (.cells #[.int .i64 0, .int .i64 0, .slice none 0 0, .int .i64 0] 51))
  by_cases h0 : p.length = 0 ∨ 121 < p.length
  · have hp : s.pushE p = payN p := by
      unfold Snd.pushE payN
      rcases h0 with h | h
      · rw [if_pos h, if_pos h]
      · rw [if_neg (by omega), if_pos h, if_neg (by omega), if_pos h]
    have hp0 : payN p ≠ 0 := by rw [← hp]; exact hE
    rw [hp]
    clear hp hE h0 hr
    unfold refV
    generalize hpn : payN p = pn at hp0 ⊢
    have hb : (pn != 0) = true := by simpa using hp0
    go_enter Try.func31, Try.ntmps31
    go_wp2_with fail
    refine (rpay_any _ p _ hr2).mono ?_
    rintro e w' ⟨rfl, rfl⟩
    rw [hpn]
    go_wp2_with fail
    have hrd := hr2.below (bl_drew (bl_refl _))
    go_region_with (go_at_call 38; refine (rpay_any _ p _ (by first | exact hrd | exact hr2)).mono ?_; rintro e w' ⟨rfl, rfl⟩; rw [hpn])
    all_goals
      go_wp2
      go_returns
      first
        | exact ⟨rfl, bl_alloc (bl_alloc (bl_refl w) _) _⟩
        | exact ⟨rfl, bl_drew (bl_alloc (bl_alloc (bl_refl w) _) _)⟩
  · have hf : 64 ≤ s.ps.length := by
      unfold Snd.pushE at hE
      rw [if_neg (by omega), if_neg (by omega)] at hE
      by_cases h : 64 ≤ s.ps.length
      · exact h
      · rw [if_neg h] at hE
        exact absurd rfl hE
    have hp : s.pushE p = 6 := by unfold Snd.pushE; rw [if_neg (by omega), if_neg (by omega), if_pos hf]
    have hpn : payN p = 0 := by unfold payN; rw [if_neg (by omega), if_neg (by omega)]
    rw [hp]
    clear hp hE h0 hr
    have hfI : (64 : Int) ≤ (s.ps.length : Int) := by omega
    unfold refV
    go_enter Try.func31, Try.ntmps31
    go_wp2_with fail
    refine (rpay_any _ p _ hr2).mono ?_
    rintro e w' ⟨rfl, rfl⟩
    rw [hpn]
    go_wp2
    go_returns
    first
      | exact ⟨rfl, bl_alloc (bl_alloc (bl_refl w) _) _⟩
      | exact ⟨rfl, bl_drew (bl_alloc (bl_alloc (bl_refl w) _) _)⟩

end Go.Proofs.Ytgfcppjahebidaa
