/- The reference's sender: New, Payload, Again, Under, Reset. Conditions: as they stand. -/
import Derived.WalkKit
import Derived.Lib.Hide
import Derived.BigQuiet
import Derived.Handy
import Derived.Test.YtgfcppjahebidaaSndTrio
import Derived.Test.YtgfcppjahebidaaSndAgain
namespace Go.Proofs.Ytgfcppjahebidaa
open Go.RowKit

/-- The reference's sender as a value. -/
def refV (s : Snd) (v : Value) : Value := .agg #[.int .i64 s.size, .int .i64 s.base, v, .int .i64 s.under]

theorem rnew_bad (n : Int) (h : n < 1 ∨ 63 < n) (w : World) :
    Calls Try.prog 22 #[.int .i64 n] w fun e w' => e = .returned (.tuple #[.agg #[.int .i64 0, .int .i64 0, .slice none 0 0, .int .i64 0], .int .i64 1]) ∧ Below w.heap.size w w' := by
  rcases h with h | h
  · go_enter Try.func22, Try.ntmps22
    go_wp2
    go_returns
    exact ⟨rfl, bl_alloc (bl_refl w) _⟩
  · have h1 : ¬ n < 1 := by omega
    go_enter Try.func22, Try.ntmps22
    go_wp2
    go_returns
    exact ⟨rfl, bl_alloc (bl_refl w) _⟩
theorem rnew_ok (n : Nat) (h1 : 1 ≤ n) (h2 : n ≤ 63) (w : World) :
    Calls Try.prog 22 #[.int .i64 n] w fun e w' => e = .returned (.tuple #[refV ⟨n, 0, [], 0⟩ (.slice none 0 0), .int .i64 0]) ∧ Below w.heap.size w w' := by
  go_enter Try.func22, Try.ntmps22
  go_wp2
  go_returns
  exact ⟨rfl, bl_alloc (bl_refl w) _⟩

def payN (p : List Int) : Int := if p.length = 0 then 2 else if 121 < p.length then 3 else 0
theorem rpay_any (v : Value) (p : List Int) (w : World) (hr : Reads (Value.int .u8) w v p) :
    Calls Try.prog 38 #[v] w fun e w' => e = .returned (.int .i64 (payN p)) ∧ w = w' := by
  obtain ⟨hm, ao, cap, rfl, _, _⟩ := hr
  by_cases h0 : p.length = 0
  · have hp : payN p = 2 := by simp [payN, h0]
    rw [hp]
    go_enter Try.func38, Try.ntmps38
    go_wp2
    go_ret
    exact ⟨rfl, rfl⟩
  · by_cases h1 : 121 < p.length
    · have hp : payN p = 3 := by unfold payN; rw [if_neg h0, if_pos h1]
      rw [hp]
      clear hp
      go_enter Try.func38, Try.ntmps38
      go_wp2
      go_ret
      exact ⟨rfl, rfl⟩
    · have hp : payN p = 0 := by unfold payN; rw [if_neg h0, if_neg h1]
      rw [hp]
      clear hp
      go_enter Try.func38, Try.ntmps38
      go_wp2
      go_ret
      exact ⟨rfl, rfl⟩

theorem rreset_any (s : Snd) (v : Value) (w : World) :
    Calls Try.prog 35 #[refV s v] w fun e w' => e = .returned (refV ⟨s.size, 0, [], 0⟩ (.slice none 0 0)) ∧ Below w.heap.size w w' := by
  unfold refV
  go_enter Try.func35, Try.ntmps35
  go_wp2
  go_returns
  exact ⟨rfl, bl_alloc (bl_alloc (bl_refl w) _) _⟩

theorem runder_any (s : Snd) (hok : s.Ok) (v : Value) (w : World) :
    Calls Try.prog 25 #[refV s v] w fun e w' => ∃ u, e = .returned u ∧ Reads (Value.int .i64) w' u s.unders ∧ Below w.heap.size w w' := by
  unfold refV
  go_enter Try.func25, Try.ntmps25
  go_wp2_with fail
  refine (reach_any _ _ _).mono ?_
  rintro e w2 ⟨u, rfl, hO, hb⟩
  go_wp2
  go_ret
  have hl : winLen (s.under : Int) = s.under := by
    have := hok.under2
    have := hok.size2
    unfold winLen
    omega
  rw [hl] at hO
  have hm : (vals (win s.base s.under)).length ≤ maxLen := by
    have := hok.under2
    have := hok.size2
    have e : (vals (win s.base s.under)).length = s.under := by simp [vals, win_length]
    rw [e]
    simp only [maxLen]
    omega
  exact ⟨_, rfl, Reads.of_owns hO hm, bl_trans (bl_alloc (bl_refl w) _) hb⟩

theorem byt_nil (F : Nat → Prop) (w : World) : Byt F w (.slice none 0 0) [] := ⟨⟨Reads.nil _ _, fun k hk => by simp [Value.ownBlock] at hk⟩, fun n hn => by simp at hn⟩
set_option maxRecDepth 100000 in
set_option maxHeartbeats 1000000 in
theorem ragain_any (R : Nat → Prop) (s : Snd) (hok : s.Ok) (v : Value) (nr : Int) (w : World) (hP : Pays R w v s.ps) :
    Calls Try.prog 34 #[refV s v, .int .i64 nr] w fun e w' => ∃ u, e = .returned (.tuple #[u, .int .i64 (s.againE nr)]) ∧ Byt R w' u (s.againP nr) ∧ Below w.heap.size w w' := by
  unfold refV
  by_cases h0 : nr < 0 ∨ 127 < nr
  · have hE : s.againE nr = 1 := by unfold Snd.againE; rw [if_pos h0]
    have hp : s.againP nr = [] := by unfold Snd.againP; rw [if_neg (by omega)]
    rw [hE, hp]
    clear hE hp
    rcases h0 with h | h
    all_goals
      have h' : ¬ (0 ≤ nr ∧ nr ≤ 127) := by omega
      go_enter Try.func34, Try.ntmps34
      go_wp2
      go_returns
      exact ⟨_, rfl, byt_nil _ _, bl_alloc (bl_refl w) _⟩
  · have n0 : 0 ≤ nr := by omega
    have n1 : nr ≤ 127 := by omega
    by_cases hl : (nr - s.base) % 128 < (s.under : Int)
    · have hE : s.againE nr = 0 := by unfold Snd.againE; rw [if_neg h0, if_pos hl]
      have hp : s.againP nr = s.ps.getD ((nr - s.base) % 128).toNat [] := by unfold Snd.againP; rw [if_pos hE]
      rw [hE, hp]
      obtain ⟨m, hm⟩ := Int.eq_ofNat_of_zero_le (show 0 ≤ (nr - s.base) % 128 by omega)
      have hu := hok.under1
      have hml : m < s.ps.length := by omega
      obtain ⟨q, hq⟩ := get_some hml
      have hpq : s.ps.getD ((nr - s.base) % 128).toNat [] = q := by rw [hm, Int.toNat_natCast, List.getD_eq_getElem?_getD, hq]; rfl
      rw [hpq]
      obtain ⟨ao, cap, rfl, hc, _⟩ := hP.form
      obtain ⟨b, o, x, rfl, hb, hcell, hx⟩ := hP.at_ hq
      have hcell := below_cell (bl_alloc (bl_refl w) (.cells #[.int .i64 s.size, .int .i64 s.base, .slice (some ⟨b, o, none⟩) s.ps.length cap, .int .i64 s.under] 51)) hcell
      have hmI : (m : Int) < (s.under : Int) := by omega
      have hmL : (m : Int) < (s.ps.length : Int) := by omega
      clear hE hp hpq hq hu hl h0
      go_enter Try.func34, Try.ntmps34
      go_wp2_with fail
      refine (rway_any _ _ _).mono ?_
      rintro e w' ⟨rfl, rfl⟩
      rw [hm]
      go_wp2
      go_returns
      exact ⟨_, rfl, hx.below (bl_alloc (bl_refl w) _), bl_alloc (bl_refl w) _⟩
    · have hE : s.againE nr = 4 := by unfold Snd.againE; rw [if_neg h0, if_neg hl]
      have hp : s.againP nr = [] := by unfold Snd.againP; rw [if_neg (by omega)]
      rw [hE, hp]
      obtain ⟨m, hm⟩ := Int.eq_ofNat_of_zero_le (show 0 ≤ (nr - s.base) % 128 by omega)
      have hmI : (s.under : Int) ≤ (m : Int) := by omega
      clear hE hp hl h0
      go_enter Try.func34, Try.ntmps34
      go_wp2_with fail
      refine (rway_any _ _ _).mono ?_
      rintro e w' ⟨rfl, rfl⟩
      rw [hm]
      go_wp2
      go_returns
      exact ⟨_, rfl, byt_nil _ _, bl_alloc (bl_refl w) _⟩

end Go.Proofs.Ytgfcppjahebidaa
