/- Contracts of the reference functions of layer 6 on lists: Each, Has, Sort, Missing. Conditions: none but that a list is no longer than an int can say. -/
import Derived.WalkKit
import Derived.Lib.Hide
import Derived.Maps.AppendAt
import Derived.Test.YtagbaoakablfpaaWinRef
import Derived.Test.YtagbaoakablfpaaWinMiss
import Derived.Test.YtagbaoakablfpaaApp
namespace Go.Proofs.Ytagbaoakablfpaa
open Go.RowKit

def vals (l : List N7) : List Int := l.map (·.1)

theorem hasN_take {l : List Int} {k : Nat} {x : Int} (hx : l[k]? = some x) (j : Int) : hasN (l.take (k + 1)) j = (hasN (l.take k) j || x % 128 == j) := by
  rw [take_snoc' hx, hasN_snoc]

set_option maxHeartbeats 1000000 in
theorem rhas_any (v : Value) (l : List Int) (j : Int) (w : World) (hr : Reads (Value.int .i64) w v l) :
    Calls Try.prog 11 #[v, .int .i64 j] w fun e w' => e = .returned (.bool (hasN l j)) ∧ w = w' := by
  obtain ⟨hm, ao, cap, rfl, _, hc⟩ := hr
  unfold maxLen at hm
  go_enter Try.func11, Try.ntmps11
  go_wp2
  go_loop [5] (fun k => ∃ i : Nat, i ≤ l.length ∧ k = .int .i64 i ∧ Hid (hasN (l.take i) j = false)) (fun k => l.length - (intOf k).toNat)
  case atStart => exact ⟨0, by omega, rfl, rfl⟩
  case round =>
    obtain ⟨k, hk, rfl, hH⟩ := hrel
    by_cases hlt : k < l.length
    · obtain ⟨b, o, x, rfl, hx, hcx⟩ := cell_nth hc hlt
      clear hc
      by_cases he : x % 128 = j
      · have hb : (x % 128 == j) = true := by simpa using he
        have hfin : Hid (hasN l j = true) := by
          have : x ∈ l := List.mem_of_getElem? hx.out
          unfold Hid hasN
          rw [List.any_eq_true]
          exact ⟨x, this, hb⟩
        clear he
        go_wp2_with (go_at_call 28; refine (rreduce_any _ _).mono ?_; rintro e w' ⟨rfl, rfl⟩)
        go_ret
        exact ⟨ret_bool hfin.out.symm, rfl⟩
      · have hb : (x % 128 == j) = false := by simpa using he
        have hfin : Hid (hasN (l.take (k + 1)) j = false) := by
          unfold Hid; rw [hasN_take hx.out, hH.out, hb]; rfl
        clear he
        go_wp2_with (go_at_call 28; refine (rreduce_any _ _).mono ?_; rintro e w' ⟨rfl, rfl⟩)
        go_round
        case rel => exact ⟨k + 1, by omega, by go_num, hfin⟩
        case measure => simp [intOf]; omega
    · obtain rfl : k = l.length := by omega
      clear hc
      rw [List.take_length] at hH
      go_wp2
      go_ret
      exact ⟨ret_bool hH.out.symm, rfl⟩

theorem vals_get {l : List N7} {k : Nat} (h : k < (vals l).length) : ∃ x : N7, l[k]? = some x ∧ (vals l)[k]? = some x.1 := by
  have h' : k < l.length := by simpa [vals] using h
  exact ⟨l[k], List.getElem?_eq_getElem h', by simp [vals, h']⟩

end Go.Proofs.Ytagbaoakablfpaa
