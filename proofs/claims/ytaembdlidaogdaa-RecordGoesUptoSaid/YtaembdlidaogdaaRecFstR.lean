/- portageref11.First: its contract. Conditions: as they stand. -/
import Derived.Test.YtaembdlidaogdaaRecFirst
import Derived.Test.YtaembdlidaogdaaRecPutR
import Derived.Test.YtaembdlidaogdaaStr
import Derived.BigQuiet
namespace Go.Proofs.Ytaembdlidaogdaa
open Go.RowKit

set_option maxRecDepth 100000 in
set_option maxHeartbeats 400000 in
theorem rfirst_short (ao : Option Addr) (n cap : Nat) (w : World) (hm : n < 4) :
    Calls Try.prog 13 #[.slice ao n cap] w (NoneR w) := by
  go_enter Try.func13, Try.ntmps13
  go_wp2_with fail
  refine (rget_form n ao cap 0 4 (by omega) (by omega) (by omega) (by omega) w).mono ?_
  rintro e w' ⟨rfl, rfl⟩
  go_wp2
  go_ret2
  exact ⟨rfl, rfl⟩

set_option maxRecDepth 100000 in
set_option maxHeartbeats 400000 in
theorem rfirst_over (ao : Option Addr) (n cap L : Nat) (w : World) (h1 : (65536 : Int) < (L : Int))
    (hg1 : Calls Try.prog 24 #[.slice ao n cap, .int .i64 0, .int .i64 4] w fun e w' => e = .returned (.tuple #[.int .u64 L, .int .i64 0]) ∧ w = w') :
    Calls Try.prog 13 #[.slice ao n cap] w (NoneR w) := by
  have hg1 := Lib.hid hg1
  go_enter Try.func13, Try.ntmps13
  go_wp2_with fail
  refine hg1.out.mono ?_
  rintro e w' ⟨rfl, rfl⟩
  go_wp2
  go_ret2
  exact ⟨rfl, rfl⟩

set_option maxRecDepth 100000 in
set_option maxHeartbeats 400000 in
theorem rfirst_cut (ao : Option Addr) (n cap L : Nat) (w : World) (h1 : ¬ (65536 : Int) < (L : Int)) (hcu : IntKind.i64.wrap (L : Int) = (L : Int)) (hcw : wrap64 (8 + (L : Int)) = 8 + (L : Int)) (h2 : (n : Int) < 8 + (L : Int))
    (hg1 : Calls Try.prog 24 #[.slice ao n cap, .int .i64 0, .int .i64 4] w fun e w' => e = .returned (.tuple #[.int .u64 L, .int .i64 0]) ∧ w = w') :
    Calls Try.prog 13 #[.slice ao n cap] w (NoneR w) := by
  have hg1 := Lib.hid hg1
  go_enter Try.func13, Try.ntmps13
  go_wp2_with fail
  refine hg1.out.mono ?_
  rintro e w' ⟨rfl, rfl⟩
  go_wp2
  go_ret2
  exact ⟨rfl, rfl⟩

def PutR (w : World) (E : Int) (q : List Int) (e : Ending) (w' : World) : Prop := ∃ u, e = .returned (.tuple #[u, .int .i64 E]) ∧ w'.ownsRow w.heap.size 5 1 u q.length (q.map (Value.int .u8)) ∧ Below w.heap.size w w'

set_option maxRecDepth 100000 in
set_option maxHeartbeats 400000 in
theorem rfirst_nought (ao qo : Option Addr) (n cap L c1 : Nat) (q : List Int) (w : World) (h1 : ¬ (65536 : Int) < (L : Int)) (hcu : IntKind.i64.wrap (L : Int) = (L : Int)) (hcw : wrap64 (8 + (L : Int)) = 8 + (L : Int)) (h2 : ¬ (n : Int) < 8 + (L : Int))
    (hcut : ∀ W, (Instr.sliceAt 22 (.slice ao n cap) (some (.int .i64 8)) (some (.int .i64 (8 + (L : Int)))) none).run Try.prog W = .ok (.slice qo L c1) W)
    (hg1 : Calls Try.prog 24 #[.slice ao n cap, .int .i64 0, .int .i64 4] w fun e w' => e = .returned (.tuple #[.int .u64 L, .int .i64 0]) ∧ w = w')
    (hp : Calls Try.prog 10 #[.slice qo L c1] w (PutR w 2 q)) :
    Calls Try.prog 13 #[.slice ao n cap] w fun e w' => e = .returned (.tuple #[.slice none 0 0, .int .i64 0]) ∧ Below w.heap.size w w' := by
  have hg1 := Lib.hid hg1
  have hp := Lib.hid hp
  go_enter Try.func13, Try.ntmps13
  go_wp2_with fail
  refine hg1.out.mono ?_
  rintro e w' ⟨rfl, rfl⟩
  go_wp2_with fail
  refine hp.out.mono ?_
  rintro e w1 ⟨u, rfl, hO, hb⟩
  go_wp2_with fail
  go_quiet (fail)
  go_wp2
  go_ret2
  exact ⟨rfl, bl_drewN hb _⟩

set_option maxRecDepth 100000 in
set_option maxHeartbeats 400000 in
theorem rfirst_off (ao qo : Option Addr) (n cap L c1 : Nat) (q f : List Int) (w : World) (h1 : ¬ (65536 : Int) < (L : Int)) (hcu : IntKind.i64.wrap (L : Int) = (L : Int)) (hcw : wrap64 (8 + (L : Int)) = 8 + (L : Int)) (h2 : ¬ (n : Int) < 8 + (L : Int))
    (hcut : ∀ W, (Instr.sliceAt 22 (.slice ao n cap) (some (.int .i64 8)) (some (.int .i64 (8 + (L : Int)))) none).run Try.prog W = .ok (.slice qo L c1) W)
    (hfr : ∀ W, (Instr.sliceAt 22 (.slice ao n cap) none (some (.int .i64 q.length)) none).run Try.prog W = .ok (.slice ao q.length cap) W)
    (hqm : q.length ≤ maxLen) (hf : Reads (Value.int .u8) w (.slice ao q.length cap) f) (hne : ((strOfNums q).toList == (strOfNums f).toList) = false)
    (hg1 : Calls Try.prog 24 #[.slice ao n cap, .int .i64 0, .int .i64 4] w fun e w' => e = .returned (.tuple #[.int .u64 L, .int .i64 0]) ∧ w = w')
    (hp : Calls Try.prog 10 #[.slice qo L c1] w (PutR w 0 q)) :
    Calls Try.prog 13 #[.slice ao n cap] w fun e w' => e = .returned (.tuple #[.slice none 0 0, .int .i64 0]) ∧ Below w.heap.size w w' := by
  have hg1 := Lib.hid hg1
  have hp := Lib.hid hp
  go_enter Try.func13, Try.ntmps13
  go_wp2_with fail
  refine hg1.out.mono ?_
  rintro e w' ⟨rfl, rfl⟩
  go_wp2_with fail
  refine hp.out.mono ?_
  rintro e w1 ⟨u, rfl, hO, hb⟩
  obtain ⟨uo, uc, rfl⟩ := owns_form3 hO
  have v1 : ∀ nq, (convert 22 9 (.slice uo q.length uc)).run Try.prog (w1.drewN nq) = .ok (.string (strOfNums q)) (w1.drewN nq) := fun nq => conv_reads ((Reads.of_owns hO hqm).below (bl_drewN (bl_refl _) nq))
  have v2 : ∀ nq, (convert 22 9 (.slice ao q.length cap)).run Try.prog (w1.drewN nq) = .ok (.string (strOfNums f)) (w1.drewN nq) := fun nq => conv_reads ((hf.below hb).below (bl_drewN (bl_refl _) nq))
  go_wp2_with fail
  go_quiet (fail)
  go_wp2
  go_ret2
  exact ⟨rfl, bl_drewN hb _⟩

set_option maxRecDepth 100000 in
set_option maxHeartbeats 400000 in
theorem rfirst_on (ao qo : Option Addr) (n cap L c1 : Nat) (p q : List Int) (hpl : p.length = L) (w : World) (h1 : ¬ (65536 : Int) < (L : Int)) (hcu : IntKind.i64.wrap (L : Int) = (L : Int)) (hcw : wrap64 (8 + (L : Int)) = 8 + (L : Int)) (h2 : ¬ (n : Int) < 8 + (L : Int))
    (hcut : ∀ W, (Instr.sliceAt 22 (.slice ao n cap) (some (.int .i64 8)) (some (.int .i64 (8 + (L : Int)))) none).run Try.prog W = .ok (.slice qo L c1) W)
    (hfr : ∀ W, (Instr.sliceAt 22 (.slice ao n cap) none (some (.int .i64 q.length)) none).run Try.prog W = .ok (.slice ao q.length cap) W)
    (hqm : q.length ≤ maxLen) (hf : Reads (Value.int .u8) w (.slice ao q.length cap) q) (HR : Reads (Value.int .u8) w (.slice qo L c1) p)
    (hg1 : Calls Try.prog 24 #[.slice ao n cap, .int .i64 0, .int .i64 4] w fun e w' => e = .returned (.tuple #[.int .u64 L, .int .i64 0]) ∧ w = w')
    (hp : Calls Try.prog 10 #[.slice qo L c1] w (PutR w 0 q)) :
    Calls Try.prog 13 #[.slice ao n cap] w fun e w' => ∃ u, e = .returned (.tuple #[u, .int .i64 (q.length : Int)]) ∧ w'.ownsRow w.heap.size 5 1 u p.length (p.map (Value.int .u8)) ∧ Below w.heap.size w w' := by
  subst hpl
  have hg1 := Lib.hid hg1
  have hp := Lib.hid hp
  obtain ⟨i0, hi, hz0, hz1, hz2⟩ := info_parts infoByte
  have P1 : 0 + p.length ≤ maxLen := by simp only [maxLen]; omega
  have P2 : (0 + p.length) * 1 ≤ 140737488355328 := by omega
  go_enter Try.func13, Try.ntmps13
  go_wp2_with fail
  refine hg1.out.mono ?_
  rintro e w' ⟨rfl, rfl⟩
  go_wp2_with fail
  refine hp.out.mono ?_
  rintro e w1 ⟨u, rfl, hO, hb⟩
  obtain ⟨uo, uc, rfl⟩ := owns_form3 hO
  have v1 : ∀ nq, (convert 22 9 (.slice uo q.length uc)).run Try.prog (w1.drewN nq) = .ok (.string (strOfNums q)) (w1.drewN nq) := fun nq => conv_reads ((Reads.of_owns hO hqm).below (bl_drewN (bl_refl _) nq))
  have v2 : ∀ nq, (convert 22 9 (.slice ao q.length cap)).run Try.prog (w1.drewN nq) = .ok (.string (strOfNums q)) (w1.drewN nq) := fun nq => conv_reads ((hf.below hb).below (bl_drewN (bl_refl _) nq))
  go_wp2_with fail
  go_quiet (fail)
  have hb2 := bl_drewN hb nq
  generalize w1.drewN nq = W1 at hb2 ⊢
  clear hb
  have HR2 := (HR.below hb2).below (bl_alloc (bl_refl _) (.cells #[] 5))
  go_wp2_with (at_builtin; refine wpList_append_r _ rfl _ _ 22 rfl W1.heap.size 5 i0 (.int .u8 0) 1 Try.underlying22 hi hz0 hz1 hz2 rfl _ _ _ rfl (owns_empty W1 5 (Nat.le_refl _)) (Value.int .u8) _ p rfl HR2 (by intros; rfl) P1 P2 (by simp) ?_; intro u2 w2 hO2 hg2 hne2)
  go_ret2
  simp only [Nat.zero_add, List.nil_append] at hO2
  exact ⟨u2, rfl, owns_low hO2 hb2.size, bl_trans hb2 (bl_grown (bl_alloc (bl_refl _) _) hg2 (by intro k hk; cases hk; exact Nat.le_refl _))⟩

end Go.Proofs.Ytaembdlidaogdaa
