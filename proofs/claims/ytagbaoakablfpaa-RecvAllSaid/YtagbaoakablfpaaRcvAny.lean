/- recv: Take at anything, Forget, the nil receiver. Conditions: as they stand. -/
import Derived.WalkMore
import Derived.Test.YtagbaoakablfpaaRcvTake
namespace Go.Proofs.Ytagbaoakablfpaa
open Go.RowKit

set_option maxRecDepth 100000 in
set_option maxHeartbeats 1000000 in
theorem rctake_bad (C D : Nat → Prop) (a : Nat) (r : Rcv) (ns : Int) (ao : Option Addr) (n cap : Nat) (w : World) (hs : RcvAt C D w a r) (hE : r.chk ns n ≠ 0) :
    Calls Try.prog 9 #[.pointer (some ⟨a, 0, none⟩), .int .i64 ns, .slice ao n cap] w fun e w' => e = .returned (.tuple #[.slice none 0 0, .slice none 0 0, .int .i64 (r.chk ns n)]) ∧ ∃ k, w' = w.drewN k := by
  have HCHK := Lib.hid (rccheck_any C D a r ns ao n cap w hs)
  obtain ⟨E, hEE⟩ : ∃ E, r.chk ns n = E := ⟨_, rfl⟩
  rw [hEE] at HCHK hE ⊢
  have g0 : (E == 0) = false := by simpa using hE
  clear hEE hs
  go_enter Try.func9, Try.ntmps9
  go_wp2_with fail
  go_step3
  go_wp2_with fail
  refine HCHK.out.mono ?_
  rintro e w' ⟨rfl, kk, rfl⟩
  go_wp2_with fail
  try rw [Exit.noGoto_ret]
  go_ret3
  exact ⟨rfl, kk, rfl⟩

set_option maxRecDepth 100000 in
set_option maxHeartbeats 1000000 in
theorem rctake_nil (ns : Int) (ao : Option Addr) (n cap : Nat) (w : World) :
    Calls Try.prog 9 #[.pointer none, .int .i64 ns, .slice ao n cap] w fun e w' => e = .returned (.tuple #[.slice none 0 0, .slice none 0 0, .int .i64 7]) ∧ w = w' := by
  have HCHK := Lib.hid (rccheck_nil ns (.slice ao n cap) w)
  go_enter Try.func9, Try.ntmps9
  go_wp2_with fail
  go_step3
  go_wp2_with fail
  refine HCHK.out.mono ?_
  rintro e w' ⟨rfl, rfl⟩
  go_wp2_with fail
  try rw [Exit.noGoto_ret]
  go_ret3
  exact ⟨rfl, rfl⟩

theorem rcforget_nil (w : World) : Calls Try.prog 12 #[.pointer none] w fun e w' => (∃ v, e = .returned v) ∧ w = w' := by
  go_enter Try.func12, Try.ntmps12
  go_wp2
  go_end0
  exact ⟨⟨_, rfl⟩, rfl⟩
theorem rcreset_nil (w : World) : Calls Try.prog 13 #[.pointer none] w fun e w' => (∃ v, e = .returned v) ∧ w = w' := by
  go_enter Try.func13, Try.ntmps13
  go_wp2
  go_end0
  exact ⟨⟨_, rfl⟩, rfl⟩
theorem rcwaits_nil (w : World) : Calls Try.prog 14 #[.pointer none] w fun e w' => e = .returned (.int .i64 0) ∧ w = w' := by
  go_enter Try.func14, Try.ntmps14
  go_wp2
  go_ret
  exact ⟨rfl, rfl⟩
set_option maxRecDepth 100000 in
theorem rckept_nil (w : World) : Calls Try.prog 15 #[.pointer none] w fun e w' => e = .returned (.slice none 0 0) ∧ w = w' := by
  go_enter Try.func15, Try.ntmps15
  go_wp2
  go_ret
  exact ⟨rfl, rfl⟩
set_option maxRecDepth 100000 in
theorem rcmissing_nil (w : World) : Calls Try.prog 10 #[.pointer none] w fun e w' => e = .returned (.slice none 0 0) ∧ w = w' := by
  have H := Lib.hid (rckept_nil w)
  go_enter Try.func10, Try.ntmps10
  go_wp2_with fail
  refine H.out.mono ?_
  rintro e w' ⟨rfl, rfl⟩
  go_wp2
  go_ret
  exact ⟨rfl, rfl⟩

set_option maxRecDepth 100000 in
set_option maxHeartbeats 1000000 in
theorem rcforget_any (C D : Nat → Prop) (a : Nat) (r : Rcv) (w : World) (hs : RcvAt C D w a r) (hC : ∀ k, C k → k < w.heap.size) (hD : ∀ k, D k → k < w.heap.size) :
    Calls Try.prog 12 #[.pointer (some ⟨a, 0, none⟩)] w fun e w' => (∃ v, e = .returned v) ∧ RcvAt (fun k => C k ∨ (w.heap.size ≤ k ∧ k < w'.heap.size)) D w' a { r with asked := [] } ∧ Fr C w w' := by
  obtain ⟨mb, ab, fk, HP⟩ := hs
  have hmk : ∀ (t : TypeId) (W : World), (Instr.makeMap t none).run Try.prog W = .ok (.map (some W.heap.size)) (W.alloc (.map #[] 0)) := fun t W => run_makeMap t W
  have hB := bl_alloc (bl_refl w) (.map #[] 0)
  have m1 := MapIs.made w
  have hP1 := HP.below hB
  have hb2 := hP1.hb
  have hsz : (w.alloc (.map #[] 0)).heap.size = w.heap.size + 1 := by simp
  obtain ⟨c0, c1, c2, c3⟩ := rc_cells hb2
  have z3 := rc_frozen (j := 3) hb2
  obtain ⟨W0, hW0⟩ : ∃ W0, w.alloc (.map #[] 0) = W0 := ⟨_, rfl⟩
  rw [hW0] at hB m1 hP1 hb2 hsz c0 c1 c2 c3 z3
  have HF := Lib.hid (fr_cell W0 a 3 (.map (some w.heap.size)))
  have HB2 := Lib.hid (rc_set _ a 3 _ _ (.map (some w.heap.size)) hb2)
  have HM1 := Lib.hid m1
  have HP1 := Lib.hid hP1
  have HB := Lib.hid hB
  have HSZ := Lib.hid hsz
  have HC := Lib.hid hC
  have HD := Lib.hid hD
  clear m1 hB hb2 hsz HP hP1 hC hD
  go_enter Try.func12, Try.ntmps12
  go_wp2
  go_end0
  have hs := HF.out.size
  have hz := HSZ.out
  have ha := HC.out a HP1.out.ca
  have hm := HC.out mb HP1.out.cm
  have hna : w.heap.size ≠ a := by omega
  obtain ⟨es, clock, hmb, hE⟩ := HP1.out.hM
  have hb8 := HB2.out
  refine ⟨⟨_, rfl⟩, ⟨mb, w.heap.size, fk, .inl HP1.out.ca, .inl HP1.out.cm, .inr ⟨Nat.le_refl _, by omega⟩, by omega, ?_, HP1.out.hM.fr HF.out (fun e => ne_map HP1.out.hb hmb e.symm), HM1.out.fr HF.out hna, HP1.out.keys, fun i x p hx hp => (HP1.out.rows i x p hx hp).fr HF.out (fun k hk e => HP1.out.dis k hk (e ▸ HP1.out.ca)), fun k hk hc => ?_⟩, (Fr.of_below HB.out).trans HF.out (fun _ h => .inl (h ▸ HP1.out.ca))⟩
  · rw [hb8]; simp
  · rcases hc with hc | hc
    · exact HP1.out.dis k hk hc
    · have := HD.out k hk; omega

end Go.Proofs.Ytagbaoakablfpaa
