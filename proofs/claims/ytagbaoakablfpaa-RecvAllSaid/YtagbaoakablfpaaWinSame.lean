/- The contract of portageref06.Same: are two lists of ints the same? Conditions: none. -/
import Derived.WalkKit
import Derived.Lib.Hide
import Derived.BigQuiet
import Derived.Deep.QuietTactic
import Derived.WalkSmall
import Derived.Test.YtagbaoakablfpaaRead
import Derived.Test.YtagbaoakablfpaaProg
namespace Go.Proofs.Ytagbaoakablfpaa
open Go.RowKit

theorem take_next {xs ys : List Int} {k : Nat} {x y : Int} (hx : xs[k]? = some x) (hy : ys[k]? = some y) (h : xs.take k = ys.take k) (e : x = y) : xs.take (k + 1) = ys.take (k + 1) := by
  rw [take_snoc' hx, take_snoc' hy, h, e]
theorem take_all {xs ys : List Int} (hl : xs.length = ys.length) (h : xs.take xs.length = ys.take xs.length) : xs = ys := by
  rw [List.take_length, hl, List.take_length] at h; exact h
theorem ne_of_at {xs ys : List Int} {k : Nat} {x y : Int} (hx : xs[k]? = some x) (hy : ys[k]? = some y) (h : (x != y) = true) : xs ≠ ys := by
  rintro rfl
  rw [hx] at hy
  simp at hy
  subst hy
  simp at h

set_option maxRecDepth 100000 in
set_option maxHeartbeats 1000000 in
theorem same_any (u v : Value) (xs ys : List Int) (w : World) (hu : Reads (Value.int .i64) w u xs) (hv : Reads (Value.int .i64) w v ys) :
    Calls Try.prog 24 #[u, v] w fun e w' => e = .returned (.bool (decide (xs = ys))) ∧ Below w.heap.size w w' := by
  obtain ⟨hm, ao, cap, rfl, _, hc⟩ := hu
  obtain ⟨hm2, ao2, cap2, rfl, _, hc2⟩ := hv
  unfold maxLen at hm hm2
  by_cases hlen : xs.length = ys.length
  · have hb : ((xs.length : Int) != (ys.length : Int)) = false := by simp; omega
    have hL := Lib.hid hlen
    have hle1 : xs.length ≤ ys.length := by omega
    clear hlen
    go_enter Try.func24, Try.ntmps24
    go_wp2
    go_loopw [5] (fun k wr => ∃ i : Nat, i ≤ xs.length ∧ k = .int .i64 i ∧ Below w.heap.size w wr ∧ Hid (xs.take i = ys.take i)) (fun k _ => xs.length - (intOf k).toNat)
    case atStart => exact ⟨0, by omega, rfl, Below.refl _ _, by unfold Hid; simp⟩
    case round =>
      obtain ⟨k, hk, rfl, hB, hT⟩ := hrel
      by_cases hlt : k < xs.length
      · obtain ⟨b, o, x, rfl, hx, hcx⟩ := cell_nth hc hlt
        obtain ⟨b2, o2, y, rfl, hy, hcy⟩ := cell_nth hc2 (by omega : k < ys.length)
        have hcx := below_cell hB hcx
        have hcy := below_cell hB hcy
        have i1 : (k : Int) < (xs.length : Int) := by omega
        have i2 : (k : Int) < (ys.length : Int) := by omega
        clear hc hc2
        by_cases he : x = y
        · have hb2 : (x != y) = false := by simpa using he
          have HE := Lib.hid he
          clear he
          go_wp2
          go_quiet (fail)
          go_wp2
          go_roundw
          case rel => exact ⟨k + 1, by omega, by go_num, below_drewN hB _, take_next hx.out hy.out hT.out HE.out⟩
          case measure => simp [intOf]; omega
        · have hb2 : (x != y) = true := by simpa using he
          clear he
          go_wp2
          go_quiet (fail)
          go_wp2
          go_ret
          exact ⟨ret_bool (by simpa using ne_of_at hx.out hy.out hb2), below_drewN hB _⟩
      · obtain rfl : k = xs.length := by omega
        go_wp2
        go_ret
        exact ⟨ret_bool (by simpa using take_all hL.out hT.out), hB⟩
  · have hb : ((xs.length : Int) != (ys.length : Int)) = true := by simp; omega
    have hne : xs ≠ ys := fun h => hlen (by rw [h])
    clear hlen
    go_enter Try.func24, Try.ntmps24
    go_wp2
    go_ret
    exact ⟨ret_bool (by simpa using hne), Below.refl _ _⟩

end Go.Proofs.Ytagbaoakablfpaa
