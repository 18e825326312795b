/- The contracts of portageref05.two, rest, Guess. Conditions: as they stand. -/
import Derived.WalkKit
import Derived.Lib.Hide
import Derived.RegionTactic
import Derived.Test.YtcglpdbnggekdaaCtlGetAny
import Derived.Test.YtcglpdbnggekdaaCtlRput
namespace Go.Proofs.Ytcglpdbnggekdaa
open Go.RowKit

theorem two_any (v : Value) (p : List Int) (a : Nat) (ha : a ≤ 1000) (hw : Hid (∀ n ∈ p, (Lit.int .u8 n).wf = true)) (w : World) (hr : Reads (Value.int .u8) w v p) :
    Calls Try.prog 32 #[v, .int .i64 a] w fun e w' => e = .returned (.int .i64 (getV p a 2 : Nat)) ∧ w = w' := by
  have hV := getV_le hw.out a
  go_enter Try.func32, Try.ntmps32
  go_wp2_with fail
  refine (rget_any _ p a 2 (by omega) hw _ hr).mono ?_
  rintro e w1 ⟨rfl, rfl⟩
  go_wp2
  go_ret
  exact ⟨rfl, rfl⟩

set_option maxRecDepth 100000 in
set_option maxHeartbeats 1000000 in
theorem rest_any (v : Value) (p : List Int) (a : Nat) (ha : a ≤ 1000) (w : World) (hr : Reads (Value.int .u8) w v p) (hle : p.length ≤ 140737488351232) :
    Calls Try.prog 33 #[v, .int .i64 a] w fun e w' => ∃ (ao : Option Addr) (cap : Nat), e = .returned (.slice ao (p.drop a).length cap) ∧ Rd (fun i => w.heap.size ≤ i) (Value.int .u8) w' (.slice ao (p.drop a).length cap) (p.drop a) ∧ Below w.heap.size w w' := by
  obtain ⟨i0, hi, hz0, hz1, hz2⟩ := info_parts infoByte
  have hr0 := hr
  obtain ⟨hm, ao, cap, rfl, ⟨hcap, _⟩, hc⟩ := hr
  unfold maxLen at hm
  by_cases h : p.length ≤ a
  · have hd : p.drop a = [] := List.drop_eq_nil_of_le h
    rw [hd]
    have hd := Lib.hid hd
    clear hc
    go_enter Try.func33, Try.ntmps33
    go_wp2
    go_ret
    exact ⟨none, 0, rfl, ⟨Reads.nil _ _, fun k hk => by simp [Value.ownBlock] at hk⟩, bl_refl w⟩
  · obtain ⟨x, hx⟩ := get_some (xs := p) (k := a) (by omega)
    obtain ⟨b, o, rfl, _⟩ := hc a x hx
    have hsrc := fun o1 : Obj => (hr0.below (bl_alloc (bl_refl w) o1)).drop (k := a) (by omega)
    clear hc hx
    go_enter Try.func33, Try.ntmps33
    go_wp2_with (at_builtin; refine wpList_append_r _ rfl (.tmp 9) (.tmp 12) 22 rfl w.heap.size 5 i0 (.int .u8 0) 1 Try.underlying22 hi hz0 hz1 hz2 rfl _ _ _ rfl (owns_empty w 5 (Nat.le_refl _)) (Value.int .u8) _ (p.drop a) rfl (hsrc _) (by intros; rfl) (by simp [maxLen, List.length_drop]; try omega) (by simp [List.length_drop]; try omega) (by simp) ?_; intro u7 W7 hO7 hg7 _; have hB7 : Below w.heap.size w W7 := bl_grown (bl_alloc (bl_refl w) _) hg7 (by intro k hk; cases hk; exact Nat.le_refl _))
    go_ret
    have hO : W7.ownsRow w.heap.size 5 1 u7 (p.drop a).length ((p.drop a).map (Value.int .u8)) := by simpa using hO7
    obtain ⟨ao7, cap7, rfl⟩ := owns_form hO
    exact ⟨ao7, cap7, rfl, (Rd.of_owns hO (by rw [List.length_drop]; unfold maxLen; omega)).mono (fun i hi => hi.1), hB7⟩

end Go.Proofs.Ytcglpdbnggekdaa
