/- The walk of the statement ControlChecks. Conditions: the arguments' own. -/
import Derived.WalkKit
import Derived.Lib.Hide
import Derived.Deep.RegionHeld3
import Derived.Deep.DrawnRows
import Derived.Test.YtcglpdbnggekdaaCtlAwake
import Derived.Test.YtcglpdbnggekdaaCtlCopied
import Derived.Test.YtcglpdbnggekdaaCtlWord
namespace Go.Proofs.Ytcglpdbnggekdaa
open Go.RowKit
attribute [local go_sem ↓] Go.wp_at_zero Go.wp_at_succ

theorem held7 {W0 w' : World} {g : Nat} {a b c d e f h : Value} {t : TypeId} (hbx : W0.heap[g]? = some (.cells #[a, b, c, d, e, f, h] t (0, 0))) (hb : Below W0.heap.size W0 w') :
    Below W0.heap.size W0 w' ∧ w'.cell? ⟨g, 0, none⟩ = some a ∧ w'.cell? ⟨g, 1, none⟩ = some b ∧ w'.cell? ⟨g, 2, none⟩ = some c ∧ w'.cell? ⟨g, 3, none⟩ = some d ∧ w'.cell? ⟨g, 4, none⟩ = some e ∧ w'.cell? ⟨g, 5, none⟩ = some f ∧ w'.cell? ⟨g, 6, none⟩ = some h := ⟨hb, cells_of7 (bl_get hb hbx)⟩

set_option maxRecDepth 100000 in
set_option maxHeartbeats 1000000 in
theorem walkControlChecks (k : Int) (_ : (Lit.int .i64 k).wf = true) (ns : Int) (_ : (Lit.int .i64 ns).wf = true) (nr : Int) (_ : (Lit.int .i64 nr).wf = true) (p : Bool) (me : Int) (_ : (Lit.int .i64 me).wf = true) (peer : Int) (_ : (Lit.int .i64 peer).wf = true) (ao : Option Addr) (cap : Nat) (xs : List Int) (w : World) (hr : Reads (Value.int .u8) w (.slice ao xs.length cap) xs) (_ : ∀ n ∈ xs, (Lit.int .u8 n).wf = true) (hle : xs.length * 1 ≤ reachBytes) :
    Calls Try.prog 9 #[.agg #[.int .i64 k, .int .i64 ns, .int .i64 nr, .bool p, .int .i64 me, .int .i64 peer, .slice ao xs.length cap]] w fun e w' => e = .returned (.bool true) ∧ Below w.heap.size w w' := by
  unfold reachBytes at hle
  go_enter Try.func9, Try.ntmps9
  go_wp2_with fail
  have hbx := heap_alloc_new w (.cells #[.int .i64 k, .int .i64 ns, .int .i64 nr, .bool p, .int .i64 me, .int .i64 peer, .slice ao xs.length cap] 24)
  have hB := bl_alloc (bl_refl w) (.cells #[.int .i64 k, .int .i64 ns, .int .i64 nr, .bool p, .int .i64 me, .int .i64 peer, .slice ao xs.length cap] 24)
  have hr := hr.below hB
  generalize w.alloc (.cells #[.int .i64 k, .int .i64 ns, .int .i64 nr, .bool p, .int .i64 me, .int .i64 peer, .slice ao xs.length cap] 24) = W0 at hbx hB hr ⊢
  go_region_held3 (fun w' => Below W0.heap.size W0 w' ∧ w'.cell? ⟨w.heap.size, 0, none⟩ = some (.int .i64 k) ∧ w'.cell? ⟨w.heap.size, 1, none⟩ = some (.int .i64 ns) ∧ w'.cell? ⟨w.heap.size, 2, none⟩ = some (.int .i64 nr) ∧ w'.cell? ⟨w.heap.size, 3, none⟩ = some (.bool p) ∧ w'.cell? ⟨w.heap.size, 4, none⟩ = some (.int .i64 me) ∧ w'.cell? ⟨w.heap.size, 5, none⟩ = some (.int .i64 peer) ∧ w'.cell? ⟨w.heap.size, 6, none⟩ = some (.slice ao xs.length cap)) (exact held7 hbx (by first | assumption | exact bl_drew (bl_refl _)))
    (first
      | (go_at_call 10; refine (copied_any ⟨k, ns, nr, p, me, peer, xs⟩ ao cap _ (hr.below ?_) ?_).mono ?_; (first | assumption | exact bl_drew (bl_refl _)); (show xs.length ≤ _; omega); rintro e W1 ⟨ao1, cap1, rfl, _, hb⟩; have hb1 := bl_trans (by first | assumption | exact bl_drew (bl_refl _)) hb)
      | (go_at_call 18; refine (check_any _ _ _ _ _ _ _ _ _ _).mono ?_; rintro e W1 ⟨rfl, hb⟩; have hb1 := bl_trans (by first | assumption | exact bl_drew (bl_refl _)) hb)
      | (go_at_call 19; refine (rcheck_any _ _ _ _ _ _ _ _ _ _).mono ?_; rintro e W1 ⟨rfl, hb⟩; have hb1 := bl_trans (by first | assumption | exact bl_drew (bl_refl _)) hb)
      | (go_at_call 20; refine (word_any _ _).mono ?_; rintro e W1 ⟨rfl, hb⟩; have hb1 := bl_trans (by first | assumption | exact bl_drew (bl_refl _)) hb)
      | (go_at_call 21; refine (rword_any _ _).mono ?_; rintro e W1 ⟨rfl, rfl⟩)
      | (go_at_call 13; refine (awake_any _).mono ?_; rintro e W1 ⟨rfl, hb⟩; have hb1 := bl_trans (by first | assumption | exact bl_drew (bl_refl _)) hb))
  go_wp2
  go_ret
  exact ⟨rfl, bl_trans hB hb1⟩

end Go.Proofs.Ytcglpdbnggekdaa
