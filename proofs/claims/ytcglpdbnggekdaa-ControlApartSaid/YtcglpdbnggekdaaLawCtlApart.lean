/- The walk of the statement ControlApart. Conditions: the arguments' own. -/
import Derived.WalkKit
import Derived.Lib.Hide
import Derived.Test.YtcglpdbnggekdaaCtlAwake
import Derived.Test.YtcglpdbnggekdaaCtlApart
import Derived.Test.YtcglpdbnggekdaaFrm
import Derived.Test.YtcglpdbnggekdaaLater
namespace Go.Proofs.Ytcglpdbnggekdaa
open Go.RowKit

theorem out_le (c : Ctl) : c.out.length ≤ 135 := by
  by_cases h : c.chk = 0
  · have hd := (chk_zero h).2.2.2
    have hs : c.sec.length ≤ 2 := by unfold Ctl.sec; (repeat' split) <;> simp
    rw [Ctl.out_ok h]
    unfold Ctl.bytes
    simp [be_length]; omega
  · rw [Ctl.out_bad h]; simp

set_option maxRecDepth 100000 in
set_option maxHeartbeats 1000000 in
theorem walkControlApart (k1 : Int) (_ : (Lit.int .i64 k1).wf = true) (ns1 : Int) (_ : (Lit.int .i64 ns1).wf = true) (nr1 : Int) (_ : (Lit.int .i64 nr1).wf = true) (p1 : Bool) (me1 : Int) (_ : (Lit.int .i64 me1).wf = true) (peer1 : Int) (_ : (Lit.int .i64 peer1).wf = true) (ao : Option Addr) (cap : Nat) (xs : List Int) (w : World) (hr : Reads (Value.int .u8) w (.slice ao xs.length cap) xs) (wx : ∀ n ∈ xs, (Lit.int .u8 n).wf = true) (_ : xs.length * 1 ≤ reachBytes) (k2 : Int) (_ : (Lit.int .i64 k2).wf = true) (ns2 : Int) (_ : (Lit.int .i64 ns2).wf = true) (nr2 : Int) (_ : (Lit.int .i64 nr2).wf = true) (p2 : Bool) (me2 : Int) (_ : (Lit.int .i64 me2).wf = true) (peer2 : Int) (_ : (Lit.int .i64 peer2).wf = true) (bo : Option Addr) (cbp : Nat) (ys : List Int) (hs : Reads (Value.int .u8) w (.slice bo ys.length cbp) ys) (wy : ∀ n ∈ ys, (Lit.int .u8 n).wf = true) (_ : ys.length * 1 ≤ reachBytes) :
    Calls Try.prog 6 #[.agg #[.int .i64 k1, .int .i64 ns1, .int .i64 nr1, .bool p1, .int .i64 me1, .int .i64 peer1, .slice ao xs.length cap], .agg #[.int .i64 k2, .int .i64 ns2, .int .i64 nr2, .bool p2, .int .i64 me2, .int .i64 peer2, .slice bo ys.length cbp]] w fun e w' => e = .returned (.bool true) ∧ Below w.heap.size w w' := by
  by_cases h1 : chkN k1 ns1 nr1 me1 peer1 xs.length = 0
  · by_cases h2 : chkN k2 ns2 nr2 me2 peer2 ys.length = 0
    · have hE := apart_eq (a := ⟨k1, ns1, nr1, p1, me1, peer1, xs⟩) (b := ⟨k2, ns2, nr2, p2, me2, peer2, ys⟩) h1 h2 wx wy
      have l1 := out_le ⟨k1, ns1, nr1, p1, me1, peer1, xs⟩
      have l2 := out_le ⟨k2, ns2, nr2, p2, me2, peer2, ys⟩
      have o1 := Ctl.out_ok (c := ⟨k1, ns1, nr1, p1, me1, peer1, xs⟩) h1
      have o2 := Ctl.out_ok (c := ⟨k2, ns2, nr2, p2, me2, peer2, ys⟩) h2
      rw [← o1, ← o2] at hE
      have g1 : Hid ((Ctl.mk k1 ns1 nr1 p1 me1 peer1 xs).chk = 0) := h1
      have g2 : Hid ((Ctl.mk k2 ns2 nr2 p2 me2 peer2 ys).chk = 0) := h2
      clear o1 o2 h1 h2 wx wy
      go_enter Try.func6, Try.ntmps6
      go_wp2_with fail
      have c0 := two_blocks w (.cells #[.int .i64 k1, .int .i64 ns1, .int .i64 nr1, .bool p1, .int .i64 me1, .int .i64 peer1, .slice ao xs.length cap] 24) (.cells #[.int .i64 k2, .int .i64 ns2, .int .i64 nr2, .bool p2, .int .i64 me2, .int .i64 peer2, .slice bo ys.length cbp] 24)
      obtain ⟨bA, bB, _, hB⟩ := c0
      have hr := hr.below hB
      have hs := hs.below hB
      generalize (w.alloc (.cells #[.int .i64 k1, .int .i64 ns1, .int .i64 nr1, .bool p1, .int .i64 me1, .int .i64 peer1, .slice ao xs.length cap] 24)).alloc (.cells #[.int .i64 k2, .int .i64 ns2, .int .i64 nr2, .bool p2, .int .i64 me2, .int .i64 peer2, .slice bo ys.length cbp] 24) = W0 at bA bB hB hr hs ⊢
      refine (cput_any ⟨k1, ns1, nr1, p1, me1, peer1, xs⟩ ao cap _ hr).mono ?_
      rintro e W1 ⟨u, rfl, hO, hb⟩
      rw [g1.out]
      generalize (Ctl.mk k1 ns1 nr1 p1 me1 peer1 xs).out = pa at hO hE l1 ⊢
      have hu := Reads.of_owns hO (by simp [maxLen]; omega)
      obtain ⟨ao1, cap1, rfl⟩ := owns_form hO
      have bA := bl_get hb bA
      have bB := bl_get hb bB
      have hr := hr.below hb
      have hs := hs.below hb
      have hB := bl_trans hB hb
      clear hO hb
      obtain ⟨d0, d1, d2, d3, d4, d5, d6⟩ := cells_of7 bB
      go_wp2_with fail
      refine (cput_any ⟨k2, ns2, nr2, p2, me2, peer2, ys⟩ bo cbp _ hs).mono ?_
      rintro e W2 ⟨u, rfl, hO, hb⟩
      rw [g2.out]
      generalize (Ctl.mk k2 ns2 nr2 p2 me2 peer2 ys).out = qa at hO hE l2 ⊢
      have hv := Reads.of_owns hO (by simp [maxLen]; omega)
      obtain ⟨ao2, cap2, rfl⟩ := owns_form hO
      have bA := bl_get hb bA
      have bB := bl_get hb bB
      have hr := hr.below hb
      have hs := hs.below hb
      have hu := hu.below hb
      have hB := bl_trans hB hb
      clear hO hb d0 d1 d2 d3 d4 d5 d6
      have v1 : ∀ x : Later W2, (convert 22 9 (.slice ao1 pa.length cap1)).run Try.prog x.w = .ok (.string (strOfNums pa)) x.w := fun x => conv_reads (hu.below x.h)
      have v2 : ∀ x : Later W2, (convert 22 9 (.slice ao2 qa.length cap2)).run Try.prog x.w = .ok (.string (strOfNums qa)) x.w := fun x => conv_reads (hv.below x.h)
      obtain ⟨d0, d1, d2, d3, d4, d5, d6⟩ := cells_of7 bA
      obtain ⟨e0, e1, e2, e3, e4, e5, e6⟩ := cells_of7 bB
      have d0 := Later.cell d0
      have d1 := Later.cell d1
      have d2 := Later.cell d2
      have d3 := Later.cell d3
      have d4 := Later.cell d4
      have d5 := Later.cell d5
      have d6 := Later.cell d6
      have e0 := Later.cell e0
      have e1 := Later.cell e1
      have e2 := Later.cell e2
      have e3 := Later.cell e3
      have e4 := Later.cell e4
      have e5 := Later.cell e5
      have e6 := Later.cell e6
      go_wp2_with fail
      refine wp_region_later (by kernel_rfl) (by kernel_rfl) ?_
      repeat (go_big_quiet_step ((first | (go_at_call 13; exact calls_later (awake_any _)) | (go_at_call 16; exact calls_later (rsame_any ⟨k1, ns1, nr1, p1, me1, peer1, xs⟩ ⟨k2, ns2, nr2, p2, me2, peer2, ys⟩ ao bo cap cbp _ (Later.reads hr _) (Later.reads hs _))))))
      refine wpQuiet_nil ?_
      rintro _ ⟨x, rfl⟩
      go_wp2
      go_ret
      exact ⟨rfl, bl_trans hB x.h⟩
    · have g2 : (chkN k2 ns2 nr2 me2 peer2 ys.length != 0) = true := by simp only [bne_iff_ne]; exact h2
      have g1 : Hid ((Ctl.mk k1 ns1 nr1 p1 me1 peer1 xs).chk = 0) := h1
      clear h1 h2 wx wy
      go_enter Try.func6, Try.ntmps6
      go_wp2_with fail
      have c0 := two_blocks w (.cells #[.int .i64 k1, .int .i64 ns1, .int .i64 nr1, .bool p1, .int .i64 me1, .int .i64 peer1, .slice ao xs.length cap] 24) (.cells #[.int .i64 k2, .int .i64 ns2, .int .i64 nr2, .bool p2, .int .i64 me2, .int .i64 peer2, .slice bo ys.length cbp] 24)
      obtain ⟨bA, bB, _, hB⟩ := c0
      have hr := hr.below hB
      have hs := hs.below hB
      generalize (w.alloc (.cells #[.int .i64 k1, .int .i64 ns1, .int .i64 nr1, .bool p1, .int .i64 me1, .int .i64 peer1, .slice ao xs.length cap] 24)).alloc (.cells #[.int .i64 k2, .int .i64 ns2, .int .i64 nr2, .bool p2, .int .i64 me2, .int .i64 peer2, .slice bo ys.length cbp] 24) = W0 at bA bB hB hr hs ⊢
      refine (cput_any ⟨k1, ns1, nr1, p1, me1, peer1, xs⟩ ao cap _ hr).mono ?_
      rintro e W1 ⟨u, rfl, hO, hb⟩
      rw [g1.out]
      obtain ⟨ao1, cap1, rfl⟩ := owns_form hO
      have bB := bl_get hb bB
      have hB := bl_trans hB hb
      clear hO hb
      obtain ⟨d0, d1, d2, d3, d4, d5, d6⟩ := cells_of7 bB
      go_wp2_with fail
      refine (cput_bad k2 ns2 nr2 p2 me2 peer2 bo ys.length cbp g2 _).mono ?_
      rintro e W2 ⟨rfl, hb⟩
      have hB := bl_trans hB hb
      clear hb
      go_wp2_with fail
      refine (awake_any _).mono ?_
      rintro e w2 ⟨rfl, hb⟩
      go_wp2
      go_ret
      exact ⟨rfl, bl_trans hB hb⟩
  · have g1 : (chkN k1 ns1 nr1 me1 peer1 xs.length != 0) = true := by simp only [bne_iff_ne]; exact h1
    clear h1 wx wy
    go_enter Try.func6, Try.ntmps6
    go_wp2_with fail
    have c0 := two_blocks w (.cells #[.int .i64 k1, .int .i64 ns1, .int .i64 nr1, .bool p1, .int .i64 me1, .int .i64 peer1, .slice ao xs.length cap] 24) (.cells #[.int .i64 k2, .int .i64 ns2, .int .i64 nr2, .bool p2, .int .i64 me2, .int .i64 peer2, .slice bo ys.length cbp] 24)
    obtain ⟨bA, bB, _, hB⟩ := c0
    have hr := hr.below hB
    have hs := hs.below hB
    generalize (w.alloc (.cells #[.int .i64 k1, .int .i64 ns1, .int .i64 nr1, .bool p1, .int .i64 me1, .int .i64 peer1, .slice ao xs.length cap] 24)).alloc (.cells #[.int .i64 k2, .int .i64 ns2, .int .i64 nr2, .bool p2, .int .i64 me2, .int .i64 peer2, .slice bo ys.length cbp] 24) = W0 at bA bB hB hr hs ⊢
    refine (cput_bad k1 ns1 nr1 p1 me1 peer1 ao xs.length cap g1 _).mono ?_
    rintro e W1 ⟨rfl, hb⟩
    have bB := bl_get hb bB
    have hs := hs.below hb
    have hB := bl_trans hB hb
    clear hb
    obtain ⟨d0, d1, d2, d3, d4, d5, d6⟩ := cells_of7 bB
    go_wp2_with fail
    refine (cput_any ⟨k2, ns2, nr2, p2, me2, peer2, ys⟩ bo cbp _ hs).mono ?_
    rintro e W2 ⟨u, rfl, hO, hb⟩
    obtain ⟨ao2, cap2, rfl⟩ := owns_form hO
    have hB := bl_trans hB hb
    clear hb hO
    go_wp2_with fail
    refine (awake_any _).mono ?_
    rintro e w2 ⟨rfl, hb⟩
    go_wp2
    go_ret
    exact ⟨rfl, bl_trans hB hb⟩

end Go.Proofs.Ytcglpdbnggekdaa
