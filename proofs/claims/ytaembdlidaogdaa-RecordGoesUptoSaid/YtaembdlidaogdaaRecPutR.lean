/- The contract of portageref11.Put. Conditions: as they stand. -/
import Derived.WalkKit
import Derived.Lib.Hide
import Derived.Handy
import Derived.Test.YtaembdlidaogdaaRecPut
namespace Go.Proofs.Ytaembdlidaogdaa
open Go.RowKit

set_option maxRecDepth 100000 in
set_option maxHeartbeats 1000000 in
theorem rrecput_any (v : Value) (p : List Int) (hw : Hid (∀ n ∈ p, (Lit.int .u8 n).wf = true)) (w : World) (hr : Reads (Value.int .u8) w v p) :
    Calls Try.prog 10 #[v] w fun e w' => ∃ u, e = .returned (.tuple #[u, .int .i64 (recE p)]) ∧ w'.ownsRow w.heap.size 5 1 u (recO p).length ((recO p).map (Value.int .u8)) ∧ Below w.heap.size w w' := by
  obtain ⟨ao, cap, rfl⟩ : ∃ ao cap, v = .slice ao p.length cap := by
    obtain ⟨_, ao, cap, h, _⟩ := hr
    exact ⟨ao, cap, h⟩
  by_cases h0 : p.length = 0
  · have e1 : recE p = 2 := by unfold recE; rw [if_pos h0]
    have e2 : recO p = [] := by unfold recO; rw [e1]; rfl
    rw [e1, e2]
    have h00 : (p.length : Int) = 0 := by omega
    clear hr
    go_enter Try.func10, Try.ntmps10
    go_wp2
    go_ret2
    exact ⟨_, rfl, ⟨by simp, .inl ⟨rfl, rfl⟩⟩, bl_refl _⟩
  · by_cases h1 : 65536 < p.length
    · have e1 : recE p = 3 := by unfold recE; rw [if_neg h0, if_pos h1]
      have e2 : recO p = [] := by unfold recO; rw [e1]; rfl
      rw [e1, e2]
      clear hr
      go_enter Try.func10, Try.ntmps10
      go_wp2
      go_ret2
      exact ⟨_, rfl, ⟨by simp, .inl ⟨rfl, rfl⟩⟩, bl_refl _⟩
    · have e1 : recE p = 0 := by unfold recE; rw [if_neg h0, if_neg h1]
      have e2 : recO p = be p.length 4 ++ be (sumN (be p.length 4 ++ p)) 4 ++ p := by unfold recO; rw [if_pos e1]; rfl
      rw [e1, e2]
      have c1 : IntKind.u64.wrap (p.length : Int) = (p.length : Int) := wrap_u64 (by omega)
      have c2 : IntKind.u64.wrap ((sumN (be p.length 4 ++ p) : Nat) : Int) = ((sumN (be p.length 4 ++ p) : Nat) : Int) := wrap_u64 (by have := sumN_lt (be p.length 4 ++ p); omega)
      have hbw := Lib.hid (be_wf p.length 4)
      have hbl := be_length p.length 4
      obtain ⟨i0, hi, hz0, hz1, hz2⟩ := info_parts infoByte
      clear e1 e2
      go_enter Try.func10, Try.ntmps10
      go_wp2_with fail
      refine (rput_good (.slice none 0 0) [] p.length 4 (by omega) (by omega) (show _ < _ by omega) (.inr (by omega)) _ (Reads.nil _ _) (by simp)).mono ?_
      rintro e w1 ⟨u1, rfl, hO1, hb1⟩
      rw [List.nil_append] at hO1
      obtain ⟨lo, lc, rfl⟩ := owns_form3 hO1
      have hr1 := hr.below hb1
      have hl1 := Reads.of_owns hO1 (by rw [hbl]; simp [maxLen])
      have Q1 : 0 + (be p.length 4).length ≤ maxLen := by rw [hbl]; simp [maxLen]
      have Q2 : (0 + (be p.length 4).length) * 1 ≤ 140737488355328 := by rw [hbl]; omega
      have R1 : (be p.length 4).length + p.length ≤ maxLen := by rw [hbl]; simp only [maxLen]; omega
      have R2 : ((be p.length 4).length + p.length) * 1 ≤ 140737488355328 := by rw [hbl]; omega
      have hl1' := hl1.below (bl_alloc (bl_refl w1) (.cells #[] 5))
      go_wp2_with (at_builtin; first
        | (refine wpList_append_r _ rfl (.tmp 22) (.tmp 23) 22 rfl w1.heap.size 5 i0 (.int .u8 0) 1 Try.underlying22 hi hz0 hz1 hz2 rfl _ _ _ rfl (owns_empty w1 5 (Nat.le_refl _)) (Value.int .u8) _ (be p.length 4) rfl hl1' (by intros; rfl) Q1 Q2 (by simp) ?_; intro u2 w2 hO2 hg2 hne2; have hb2 : Below w1.heap.size w1 w2 := bl_grown (bl_alloc (bl_refl w1) _) hg2 (by intro k hk; cases hk; exact Nat.le_refl _); simp only [Nat.zero_add, List.nil_append] at hO2; have hr2 := hr1.below hb2)
        | (refine wpList_append_r _ rfl (.tmp 25) (.tmp 26) 22 rfl w1.heap.size 5 i0 (.int .u8 0) 1 Try.underlying22 hi hz0 hz1 hz2 rfl _ _ _ rfl hO2 (Value.int .u8) _ p rfl hr2 (by intros; rfl) R1 R2 hb2.size ?_; intro u3 w3 hO3 hg3 hne3; have hb3 : Below w1.heap.size w1 w3 := bl_grown hb2 hg3 (fun k hk => (hO2.lt k hk).1)))
      have hr3 := hr1.below hb3
      have hl3 := hl1.below hb3
      rw [← List.map_append, ← List.length_append] at hO3
      refine (rsum_any _ (be p.length 4 ++ p) (by
        intro n hn
        rcases List.mem_append.1 hn with hn | hn
        · exact hbw.out n hn
        · exact hw.out n hn) _ (Reads.of_owns hO3 (by rw [List.length_append]; exact R1))).mono ?_
      rintro e w4 ⟨rfl, rfl⟩
      go_wp2_with fail
      refine (rput_good _ (be p.length 4) (sumN (be p.length 4 ++ p)) 4 (by omega) (by omega) (show _ < _ by have := sumN_lt (be p.length 4 ++ p); omega) (.inr (by have := sumN_lt (be p.length 4 ++ p); omega)) _ hl3 (by rw [hbl]; omega)).mono ?_
      rintro e w5 ⟨u5, rfl, hO5, hb5⟩
      have hr5 := hr3.below hb5
      have hbb := bl_trans hb1 (bl_trans hb3 hb5)
      have hO5 := owns_low hO5 (show w.heap.size ≤ _ from (bl_trans hb1 hb3).size)
      obtain ⟨ro, rc, rfl⟩ := owns_form3 hO5
      have P0 : (be p.length 4 ++ be (sumN (be p.length 4 ++ p)) 4).length = 8 := by simp [be_length]
      have P1 : (be p.length 4 ++ be (sumN (be p.length 4 ++ p)) 4).length + p.length ≤ maxLen := by rw [P0]; simp only [maxLen]; omega
      have P2 : ((be p.length 4 ++ be (sumN (be p.length 4 ++ p)) 4).length + p.length) * 1 ≤ 140737488355328 := by rw [P0]; omega
      clear P0 hbl
      go_wp2_with (at_builtin; refine wpList_append_r _ rfl _ _ 22 rfl w.heap.size 5 i0 (.int .u8 0) 1 Try.underlying22 hi hz0 hz1 hz2 rfl _ _ _ rfl hO5 (Value.int .u8) _ p rfl hr5 (by intros; rfl) P1 P2 hbb.size ?_; intro u6 w6 hO6 hg6 hne6)
      go_ret2
      refine ⟨_, rfl, ?_, bl_grown hbb hg6 (fun k hk => (hO5.lt k hk).1)⟩
      rw [List.length_append, List.map_append]
      exact hO6

end Go.Proofs.Ytaembdlidaogdaa
