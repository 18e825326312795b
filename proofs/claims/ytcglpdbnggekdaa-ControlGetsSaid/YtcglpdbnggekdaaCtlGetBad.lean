/- control.Get at bytes that are too short, or begin with another byte. Conditions: as they stand. -/
import Derived.WalkKit
import Derived.Handy
import Derived.Lib.Hide
import Derived.Test.YtcglpdbnggekdaaCtlGet
namespace Go.Proofs.Ytcglpdbnggekdaa
open Go.RowKit

theorem get_short (ao : Option Addr) (n cap : Nat) (hn : n < 6) (w : World) :
    Calls Try.prog 14 #[.slice ao n cap] w fun e w' => e = .returned (.tuple #[Ctl.zero.val none 0, .int .i64 2]) ∧ Below w.heap.size w w' := by
  go_enter Try.func14, Try.ntmps14
  go_wp2
  go_returns
  exact ⟨rfl, bl_alloc (bl_refl w) _⟩

theorem get_head (v : Value) (p : List Int) (x0 : Int) (hx0 : Hid (p[0]? = some x0)) (h0 : (x0 != 3) = true) (hlen : 6 ≤ p.length) (w : World) (hr : Reads (Value.int .u8) w v p) :
    Calls Try.prog 14 #[v] w fun e w' => e = .returned (.tuple #[Ctl.zero.val none 0, .int .i64 2]) ∧ Below w.heap.size w w' := by
  obtain ⟨hm, ao, cap, rfl, ⟨hcap, _⟩, hc⟩ := hr
  obtain ⟨b, o, rfl, q0⟩ := hc 0 x0 hx0.out
  rw [Nat.add_zero] at q0
  clear hc
  have q0 := below_cell (bl_alloc (bl_refl w) (.cells #[.int .i64 0, .int .i64 0, .int .i64 0, .bool false, .int .i64 0, .int .i64 0, .slice none 0 0] 24)) q0
  go_enter Try.func14, Try.ntmps14
  go_wp2
  go_returns
  exact ⟨rfl, bl_alloc (bl_refl w) _⟩

end Go.Proofs.Ytcglpdbnggekdaa
