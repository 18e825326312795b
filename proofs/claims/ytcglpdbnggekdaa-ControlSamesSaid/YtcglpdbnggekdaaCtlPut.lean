/- The contract of control.Put at any control. Conditions: data of no more bytes than an argument can have. -/
import Derived.WalkKit
import Derived.Lib.Hide
import Derived.Test.YtcglpdbnggekdaaCtlPut1
import Derived.Test.YtcglpdbnggekdaaCtlPut2
import Derived.Test.YtcglpdbnggekdaaCtlPut3
import Derived.Test.YtcglpdbnggekdaaCtlPut4
import Derived.Test.YtcglpdbnggekdaaCtlPut5
import Derived.Test.YtcglpdbnggekdaaCtlPut6
import Derived.Test.YtcglpdbnggekdaaCtlPut7
namespace Go.Proofs.Ytcglpdbnggekdaa
open Go.RowKit

theorem chk_zero {k ns nr me peer : Int} {n : Nat} (h : chkN k ns nr me peer n = 0) : (1 ≤ k ∧ k ≤ 7) ∧ (((0 ≤ ns ∧ ns ≤ 127) ∧ (0 ≤ nr ∧ nr ≤ 127)) ∧ ((0 ≤ me ∧ me ≤ 65535) ∧ (0 ≤ peer ∧ peer ≤ 65535))) ∧ ¬ ((k ≠ 1 ∧ (ns ≠ 0 ∨ 0 < n)) ∨ (4 < k ∧ nr ≠ 0) ∨ (k = 5 ∧ peer ≠ 0) ∨ (k = 1 ∧ n = 0)) ∧ n ≤ 121 := by
  by_cases h1 : k < 1 ∨ 7 < k
  · rw [chk_out h1] at h; omega
  by_cases h2 : ((0 ≤ ns ∧ ns ≤ 127) ∧ (0 ≤ nr ∧ nr ≤ 127)) ∧ ((0 ≤ me ∧ me ≤ 65535) ∧ (0 ≤ peer ∧ peer ≤ 65535))
  · rw [chk_in h1 h2] at h
    by_cases h3 : (k ≠ 1 ∧ (ns ≠ 0 ∨ 0 < n)) ∨ (4 < k ∧ nr ≠ 0) ∨ (k = 5 ∧ peer ≠ 0) ∨ (k = 1 ∧ n = 0)
    · rw [if_pos h3] at h; omega
    · rw [if_neg h3] at h
      refine ⟨by omega, h2, h3, ?_⟩
      by_cases h4 : 121 < n
      · rw [if_pos h4] at h; omega
      · omega
  · rw [chk_rng h2] at h; omega

/-- A control that may not be has no bytes. -/
theorem cput_bad (k ns nr : Int) (p : Bool) (me peer : Int) (ao : Option Addr) (n cap : Nat) (h : (chkN k ns nr me peer n != 0) = true) (w : World) :
    Calls Try.prog 11 #[.agg #[.int .i64 k, .int .i64 ns, .int .i64 nr, .bool p, .int .i64 me, .int .i64 peer, .slice ao n cap]] w fun e w' => e = .returned (.tuple #[.slice none 0 0, .int .i64 (chkN k ns nr me peer n)]) ∧ Below w.heap.size w w' := by
  go_enter Try.func11, Try.ntmps11
  go_wp2_with fail
  refine (check_any _ _ _ _ _ _ _ _ _ _).mono ?_
  rintro e w1 ⟨rfl, hB⟩
  go_wp2
  go_ret2
  exact ⟨rfl, bl_trans (bl_alloc (bl_refl w) _) hB⟩

/-- What Put gives. -/
def Ctl.out (c : Ctl) : List Int := if c.chk = 0 then c.bytes else []
theorem Ctl.out_bad {c : Ctl} (h : c.chk ≠ 0) : c.out = [] := by unfold Ctl.out; rw [if_neg h]
theorem Ctl.out_ok {c : Ctl} (h : c.chk = 0) : c.out = c.bytes := by unfold Ctl.out; rw [if_pos h]

theorem cput_any (c : Ctl) (ao : Option Addr) (cap : Nat) (w : World) (hr : Reads (Value.int .u8) w (.slice ao c.data.length cap) c.data) :
    Calls Try.prog 11 #[c.val ao cap] w fun e w' => ∃ u, e = .returned (.tuple #[u, .int .i64 c.chk]) ∧
      w'.ownsRow w.heap.size 5 1 u c.out.length (c.out.map (Value.int .u8)) ∧ Below w.heap.size w w' := by
  by_cases h : c.chk = 0
  · rw [Ctl.out_ok h, h]
    have hz := chk_zero h
    obtain ⟨k, ns, nr, p, me, peer, ds⟩ := c
    simp only [Ctl.val] at *
    obtain ⟨ns, rfl⟩ := Int.eq_ofNat_of_zero_le hz.2.1.1.1.1
    obtain ⟨nr, rfl⟩ := Int.eq_ofNat_of_zero_le hz.2.1.1.2.1
    obtain ⟨me, rfl⟩ := Int.eq_ofNat_of_zero_le hz.2.1.2.1.1
    obtain ⟨peer, rfl⟩ := Int.eq_ofNat_of_zero_le hz.2.1.2.2.1
    have hd := hz.2.2.2
    have hn := hz.2.1
    rcases (show k = 1 ∨ k = 2 ∨ k = 3 ∨ k = 4 ∨ k = 5 ∨ k = 6 ∨ k = 7 by have := hz.1; omega) with rfl | rfl | rfl | rfl | rfl | rfl | rfl
    · exact cput_1 ns nr me peer p ds ao cap h (by omega) (by omega) (by omega) (by omega) hd _ rfl w hr
    · exact cput_2 ns nr me peer p ds ao cap h (by omega) (by omega) (by omega) (by omega) hd _ rfl w hr
    · exact cput_3 ns nr me peer p ds ao cap h (by omega) (by omega) (by omega) (by omega) hd _ rfl w hr
    · exact cput_4 ns nr me peer p ds ao cap h (by omega) (by omega) (by omega) (by omega) hd _ rfl w hr
    · exact cput_5 ns nr me peer p ds ao cap h (by omega) (by omega) (by omega) (by omega) hd _ rfl w hr
    · exact cput_6 ns nr me peer p ds ao cap h (by omega) (by omega) (by omega) (by omega) hd _ rfl w hr
    · exact cput_7 ns nr me peer p ds ao cap h (by omega) (by omega) (by omega) (by omega) hd _ rfl w hr
  · rw [Ctl.out_bad h]
    refine (cput_bad c.k c.ns c.nr c.p c.me c.peer ao c.data.length cap (by simp only [bne_iff_ne]; exact h) w).mono ?_
    rintro e w' ⟨rfl, hB⟩
    exact ⟨_, rfl, World.ownsRow_nil w' _ _ _, hB⟩

end Go.Proofs.Ytcglpdbnggekdaa
