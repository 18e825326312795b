/- The contract of portageref05.Second at right controls. Conditions: as they stand. -/
import Derived.WalkKit
import Derived.Lib.Hide
import Derived.Test.YtcglpdbnggekdaaCtlPlain
namespace Go.Proofs.Ytcglpdbnggekdaa
open Go.RowKit

theorem reads_two'' {w : World} {x y x' y' : Int} {e : TypeId} {g : Nat} (hg : g = w.heap.size) (hx : x' = x) (hy : y' = y) : Reads (Value.int .u8) (w.alloc (.cells #[.int .u8 x', .int .u8 y'] e)) (.slice (some ⟨g, 0, none⟩) 2 2) [x, y] := by
  subst hx hy hg; exact reads_two' (Value.int .u8) w _ _ e
theorem reads_one'' {w : World} {x x' : Int} {e : TypeId} {g : Nat} (hg : g = w.heap.size) (hx : x' = x) : Reads (Value.int .u8) (w.alloc (.cells #[.int .u8 x'] e)) (.slice (some ⟨g, 0, none⟩) 1 1) [x] := by
  subst hx hg; exact reads_one (Value.int .u8) w _ e

set_option maxRecDepth 100000 in
set_option maxHeartbeats 1000000 in
theorem second_two (k ns nr : Nat) (p : Bool) (me peer : Int) (ao : Option Addr) (n cap : Nat) (s1 : Int) (hk : (k = 1 ∧ s1 = 2 * ns) ∨ (k = 2 ∧ s1 = 1) ∨ (k = 3 ∧ s1 = 5) ∨ (k = 4 ∧ s1 = 13)) (b1 : ns ≤ 127) (b2 : nr ≤ 127) (w : World) :
    Calls Try.prog 24 #[.agg #[.int .i64 k, .int .i64 ns, .int .i64 nr, .bool p, .int .i64 me, .int .i64 peer, .slice ao n cap]] w fun e w' => ∃ u, e = .returned u ∧ Reads (Value.int .u8) w' u [s1, 2 * nr + (bitN p : Nat)] ∧ Below w.heap.size w w' := by
  have ht := Lib.hid bitN_t
  have hf := Lib.hid bitN_f
  rcases hk with ⟨rfl, rfl⟩ | ⟨rfl, rfl⟩ | ⟨rfl, rfl⟩ | ⟨rfl, rfl⟩ <;> cases p
  all_goals
    first | rw [ht.out] | rw [hf.out]
    go_enter Try.func24, Try.ntmps24
    go_wp2
    go_ret
    refine ⟨_, rfl, reads_two'' ?_ ?_ ?_, bl_alloc (bl_alloc (bl_refl w) _) _⟩
    · simp
    · first | rfl | omega
    · first | rfl | omega

set_option maxRecDepth 100000 in
set_option maxHeartbeats 1000000 in
theorem second_one (k : Nat) (ns nr : Int) (p : Bool) (me peer : Int) (ao : Option Addr) (n cap : Nat) (s1 : Int) (hk : (k = 5 ∧ s1 = 111 + 16 * (bitN p : Nat)) ∨ (k = 6 ∧ s1 = 99 + 16 * (bitN p : Nat)) ∨ (k = 7 ∧ s1 = 15 + 16 * (bitN p : Nat))) (b2 : 0 ≤ nr ∧ nr ≤ 127) (w : World) :
    Calls Try.prog 24 #[.agg #[.int .i64 k, .int .i64 ns, .int .i64 nr, .bool p, .int .i64 me, .int .i64 peer, .slice ao n cap]] w fun e w' => ∃ u, e = .returned u ∧ Reads (Value.int .u8) w' u [s1] ∧ Below w.heap.size w w' := by
  have ht := Lib.hid bitN_t
  have hf := Lib.hid bitN_f
  rcases hk with ⟨rfl, rfl⟩ | ⟨rfl, rfl⟩ | ⟨rfl, rfl⟩ <;> cases p
  all_goals
    first | rw [ht.out] | rw [hf.out]
    go_enter Try.func24, Try.ntmps24
    go_wp2
    go_ret
    refine ⟨_, rfl, reads_one'' ?_ ?_, bl_alloc (bl_alloc (bl_refl w) _) _⟩
    · simp
    · first | rfl | omega

/-- portageref05.Second at a right control. -/
theorem second_any (c : Ctl) (hz : c.chk = 0) (ao : Option Addr) (cap : Nat) (w : World) :
    Calls Try.prog 24 #[c.val ao cap] w fun e w' => ∃ u, e = .returned u ∧ Reads (Value.int .u8) w' u c.sec ∧ Below w.heap.size w w' := by
  obtain ⟨k, ns, nr, p, me, peer, ds⟩ := c
  have hb := chk_zero (show chkN k ns nr me peer ds.length = 0 from hz)
  obtain ⟨hk7, ⟨⟨hns, hnr⟩, _, _⟩, _, _⟩ := hb
  simp only [Ctl.val]
  obtain ⟨K, rfl⟩ := Int.eq_ofNat_of_zero_le (show 0 ≤ k by omega)
  obtain ⟨NS, rfl⟩ := Int.eq_ofNat_of_zero_le hns.1
  by_cases hk : K ≤ 4
  · obtain ⟨NR, rfl⟩ := Int.eq_ofNat_of_zero_le hnr.1
    rcases (show K = 1 ∨ K = 2 ∨ K = 3 ∨ K = 4 by omega) with e | e | e | e <;> subst e
    · rw [sec_1 (k := ((1 : Nat) : Int)) rfl]; exact second_two 1 NS NR p me peer ao ds.length cap _ (.inl ⟨rfl, rfl⟩) (by omega) (by omega) w
    · rw [sec_2 (k := ((2 : Nat) : Int)) rfl]; exact second_two 2 NS NR p me peer ao ds.length cap _ (.inr (.inl ⟨rfl, rfl⟩)) (by omega) (by omega) w
    · rw [sec_3 (k := ((3 : Nat) : Int)) rfl]; exact second_two 3 NS NR p me peer ao ds.length cap _ (.inr (.inr (.inl ⟨rfl, rfl⟩))) (by omega) (by omega) w
    · rw [sec_4 (k := ((4 : Nat) : Int)) rfl]; exact second_two 4 NS NR p me peer ao ds.length cap _ (.inr (.inr (.inr ⟨rfl, rfl⟩))) (by omega) (by omega) w
  · rcases (show K = 5 ∨ K = 6 ∨ K = 7 by omega) with e | e | e <;> subst e
    · rw [sec_5 (k := ((5 : Nat) : Int)) rfl]; exact second_one 5 NS nr p me peer ao ds.length cap _ (.inl ⟨rfl, rfl⟩) hnr w
    · rw [sec_6 (k := ((6 : Nat) : Int)) rfl]; exact second_one 6 NS nr p me peer ao ds.length cap _ (.inr (.inl ⟨rfl, rfl⟩)) hnr w
    · rw [sec_7 (k := ((7 : Nat) : Int)) rfl]; exact second_one 7 NS nr p me peer ao ds.length cap _ (.inr (.inr ⟨rfl, rfl⟩)) hnr w

end Go.Proofs.Ytcglpdbnggekdaa
