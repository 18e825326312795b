/- The walk of the statement ControlSames. Conditions: the arguments' own. -/
import Derived.WalkKit
import Derived.Lib.Hide
import Derived.Deep.RegionHeld3
import Derived.Deep.DrawnRows
import Derived.Test.YtcglpdbnggekdaaCtlAwake
import Derived.Test.YtcglpdbnggekdaaCtlCopied
namespace Go.Proofs.Ytcglpdbnggekdaa
open Go.RowKit
attribute [local go_sem ↓] Go.wp_at_zero Go.wp_at_succ

theorem held14 {W0 w' : World} {g g' : Nat} {a b c d e f h a' b' c' d' e' f' h' : Value} {t : TypeId} (hbx : W0.heap[g]? = some (.cells #[a, b, c, d, e, f, h] t (0, 0))) (hby : W0.heap[g']? = some (.cells #[a', b', c', d', e', f', h'] t (0, 0))) (hb : Below W0.heap.size W0 w') :
    Below W0.heap.size W0 w' ∧ (w'.cell? ⟨g, 0, none⟩ = some a ∧ w'.cell? ⟨g, 1, none⟩ = some b ∧ w'.cell? ⟨g, 2, none⟩ = some c ∧ w'.cell? ⟨g, 3, none⟩ = some d ∧ w'.cell? ⟨g, 4, none⟩ = some e ∧ w'.cell? ⟨g, 5, none⟩ = some f ∧ w'.cell? ⟨g, 6, none⟩ = some h) ∧
      (w'.cell? ⟨g', 0, none⟩ = some a' ∧ w'.cell? ⟨g', 1, none⟩ = some b' ∧ w'.cell? ⟨g', 2, none⟩ = some c' ∧ w'.cell? ⟨g', 3, none⟩ = some d' ∧ w'.cell? ⟨g', 4, none⟩ = some e' ∧ w'.cell? ⟨g', 5, none⟩ = some f' ∧ w'.cell? ⟨g', 6, none⟩ = some h') := ⟨hb, cells_of7 (bl_get hb hbx), cells_of7 (bl_get hb hby)⟩

theorem same_self2 (a : Ctl) : sameB a a = true := by simp [sameB]

set_option maxRecDepth 100000 in
set_option maxHeartbeats 1000000 in
theorem walkControlSames (k1 : Int) (_ : (Lit.int .i64 k1).wf = true) (ns1 : Int) (_ : (Lit.int .i64 ns1).wf = true) (nr1 : Int) (_ : (Lit.int .i64 nr1).wf = true) (p1 : Bool) (me1 : Int) (_ : (Lit.int .i64 me1).wf = true) (peer1 : Int) (_ : (Lit.int .i64 peer1).wf = true) (ao : Option Addr) (cap : Nat) (xs : List Int) (w : World) (hr : Reads (Value.int .u8) w (.slice ao xs.length cap) xs) (_ : ∀ n ∈ xs, (Lit.int .u8 n).wf = true) (hle : xs.length * 1 ≤ reachBytes) (k2 : Int) (_ : (Lit.int .i64 k2).wf = true) (ns2 : Int) (_ : (Lit.int .i64 ns2).wf = true) (nr2 : Int) (_ : (Lit.int .i64 nr2).wf = true) (p2 : Bool) (me2 : Int) (_ : (Lit.int .i64 me2).wf = true) (peer2 : Int) (_ : (Lit.int .i64 peer2).wf = true) (bo : Option Addr) (cbp : Nat) (ys : List Int) (hs : Reads (Value.int .u8) w (.slice bo ys.length cbp) ys) (_ : ∀ n ∈ ys, (Lit.int .u8 n).wf = true) (_ : ys.length * 1 ≤ reachBytes) :
    Calls Try.prog 8 #[.agg #[.int .i64 k1, .int .i64 ns1, .int .i64 nr1, .bool p1, .int .i64 me1, .int .i64 peer1, .slice ao xs.length cap], .agg #[.int .i64 k2, .int .i64 ns2, .int .i64 nr2, .bool p2, .int .i64 me2, .int .i64 peer2, .slice bo ys.length cbp]] w fun e w' => e = .returned (.bool true) ∧ Below w.heap.size w w' := by
  unfold reachBytes at hle
  have hm := hr.1
  have hS := Lib.hid (same_self2 ⟨k1, ns1, nr1, p1, me1, peer1, xs⟩)
  obtain ⟨B, hBv⟩ : ∃ B : Bool, Hid (sameB ⟨k1, ns1, nr1, p1, me1, peer1, xs⟩ ⟨k2, ns2, nr2, p2, me2, peer2, ys⟩ = B) := ⟨_, rfl⟩
  have hBB : (B == B) = true := beq_self_eq_true B
  go_enter Try.func8, Try.ntmps8
  go_wp2_with fail
  obtain ⟨hbx, hby, _, hB⟩ := two_blocks w (.cells #[.int .i64 k1, .int .i64 ns1, .int .i64 nr1, .bool p1, .int .i64 me1, .int .i64 peer1, .slice ao xs.length cap] 24) (.cells #[.int .i64 k2, .int .i64 ns2, .int .i64 nr2, .bool p2, .int .i64 me2, .int .i64 peer2, .slice bo ys.length cbp] 24)
  have hr := hr.below hB
  have hs := hs.below hB
  generalize (w.alloc (.cells #[.int .i64 k1, .int .i64 ns1, .int .i64 nr1, .bool p1, .int .i64 me1, .int .i64 peer1, .slice ao xs.length cap] 24)).alloc (.cells #[.int .i64 k2, .int .i64 ns2, .int .i64 nr2, .bool p2, .int .i64 me2, .int .i64 peer2, .slice bo ys.length cbp] 24) = W0 at hbx hby hB hr hs ⊢
  go_region_held3 (fun w' => Below W0.heap.size W0 w' ∧ (w'.cell? ⟨w.heap.size, 0, none⟩ = some (.int .i64 k1) ∧ w'.cell? ⟨w.heap.size, 1, none⟩ = some (.int .i64 ns1) ∧ w'.cell? ⟨w.heap.size, 2, none⟩ = some (.int .i64 nr1) ∧ w'.cell? ⟨w.heap.size, 3, none⟩ = some (.bool p1) ∧ w'.cell? ⟨w.heap.size, 4, none⟩ = some (.int .i64 me1) ∧ w'.cell? ⟨w.heap.size, 5, none⟩ = some (.int .i64 peer1) ∧ w'.cell? ⟨w.heap.size, 6, none⟩ = some (.slice ao xs.length cap)) ∧ (w'.cell? ⟨w.heap.size + 1, 0, none⟩ = some (.int .i64 k2) ∧ w'.cell? ⟨w.heap.size + 1, 1, none⟩ = some (.int .i64 ns2) ∧ w'.cell? ⟨w.heap.size + 1, 2, none⟩ = some (.int .i64 nr2) ∧ w'.cell? ⟨w.heap.size + 1, 3, none⟩ = some (.bool p2) ∧ w'.cell? ⟨w.heap.size + 1, 4, none⟩ = some (.int .i64 me2) ∧ w'.cell? ⟨w.heap.size + 1, 5, none⟩ = some (.int .i64 peer2) ∧ w'.cell? ⟨w.heap.size + 1, 6, none⟩ = some (.slice bo ys.length cbp))) (exact held14 hbx hby (by first | assumption | exact bl_drew (bl_refl _)))
    (first
      | (go_at_call 16; refine (rsame_any ⟨k1, ns1, nr1, p1, me1, peer1, xs⟩ ⟨k2, ns2, nr2, p2, me2, peer2, ys⟩ ao bo cap cbp _ (hr.below ?_) (hs.below ?_)).mono ?_; (first | assumption | exact bl_drew (bl_refl _)); (first | assumption | exact bl_drew (bl_refl _)); rintro e W1 ⟨rfl, hb⟩; rw [hBv.out]; have hb1 := bl_trans (by first | assumption | exact bl_drew (bl_refl _)) hb)
      | (go_at_call 10; refine (copied_any ⟨k1, ns1, nr1, p1, me1, peer1, xs⟩ ao cap _ (hr.below ?_) ?_).mono ?_; (first | assumption | exact bl_drew (bl_refl _)); (show xs.length ≤ _; omega); rintro e W1 ⟨ao3, cap3, rfl, hO3, hb⟩; have hR3 := Reads.of_owns hO3 hm; simp only [Ctl.val]; have hb1 := bl_trans (by first | assumption | exact bl_drew (bl_refl _)) hb)
      | (go_at_call_of 17 bo; refine (psame_any ⟨k1, ns1, nr1, p1, me1, peer1, xs⟩ ⟨k2, ns2, nr2, p2, me2, peer2, ys⟩ ao bo cap cbp _ (hr.below ?_) (hs.below ?_)).mono ?_; (first | assumption | exact bl_drew (bl_refl _)); (first | assumption | exact bl_drew (bl_refl _)); rintro e W1 ⟨rfl, hb⟩; rw [hBv.out]; have hb1 := bl_trans (by first | assumption | exact bl_drew (bl_refl _)) hb)
      | (go_at_call_of 17 ao3; refine (psame_any ⟨k1, ns1, nr1, p1, me1, peer1, xs⟩ ⟨k1, ns1, nr1, p1, me1, peer1, xs⟩ ao ao3 cap cap3 _ (hr.below ?_) hR3).mono ?_; (first | assumption | exact bl_drew (bl_refl _)); rintro e W1 ⟨rfl, hb⟩; rw [hS.out]; have hb1 := bl_trans (by first | assumption | exact bl_drew (bl_refl _)) hb)
      | (go_at_call 13; refine (awake_any _).mono ?_; rintro e W1 ⟨rfl, hb⟩; have hb1 := bl_trans (by first | assumption | exact bl_drew (bl_refl _)) hb))
  go_wp2
  go_ret
  exact ⟨rfl, bl_trans hB hb1⟩

end Go.Proofs.Ytcglpdbnggekdaa
