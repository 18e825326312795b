/- The contracts of bits.Put and of its reference: any number's bytes behind any others. Conditions: the bytes take no more than the form's reach. -/
import Derived.WalkKit
import Derived.Lib.Hide
import Derived.Maps.AppendAt
import Derived.Test.YtaembdlidaogdaaBitsPlain
import Derived.Test.YtaembdlidaogdaaProg
import Derived.Test.YtaembdlidaogdaaApp
namespace Go.Proofs.Ytaembdlidaogdaa
open Go.RowKit

theorem infoByte : (Try.prog.info? 5).map (fun i => (i.zero, i.size, i.bytes)) = some (some (.int .u8 0), 1, 1) := by kernel_rfl

/-- The s lowest bytes of a number, the highest one first. -/
def be (N : Nat) : Nat → List Int
  | 0 => []
  | s + 1 => ((N / 2 ^ (8 * s) % 256 : Nat) : Int) :: be N s
theorem be_length (N s : Nat) : (be N s).length = s := by
  induction s with
  | zero => rfl
  | succ s ih => simp [be, ih]

theorem be_byte (N r : Nat) (h : 1 ≤ r) : ∃ l, be N r = ((N / 2 ^ (8 * r - 8) % 256 : Nat) : Int) :: l ∧ l = be N (r - 1) := by
  obtain ⟨k, rfl⟩ : ∃ k, r = k + 1 := ⟨r - 1, by omega⟩
  exact ⟨be N k, by rw [be, show 8 * (k + 1) - 8 = 8 * k by omega], by simp⟩
theorem byte_val (N k : Nat) : IntKind.u8.wrap ((N : Int) / 2 ^ k) = ((N / 2 ^ k % 256 : Nat) : Int) := by
  rw [IntKind.wrap_u8, show ((N : Int) / 2 ^ k) = ((N / 2 ^ k : Nat) : Int) by push_cast; rfl]
  omega
theorem fit_false {N s : Nat} (h : N < 2 ^ (8 * s)) : ((N : Int) / 2 ^ (8 * s) != 0) = false := by
  rw [show ((N : Int) / 2 ^ (8 * s)) = ((N / 2 ^ (8 * s) : Nat) : Int) by push_cast; rfl, Nat.div_eq_of_lt h]
  rfl
theorem fit_true {N s : Nat} (h : 2 ^ (8 * s) ≤ N) : ((N : Int) / 2 ^ (8 * s) != 0) = true := by
  rw [show ((N : Int) / 2 ^ (8 * s)) = ((N / 2 ^ (8 * s) : Nat) : Int) by push_cast; rfl, bne_iff_ne]
  have := Nat.div_pos h (Nat.pow_pos (by decide))
  omega

set_option maxRecDepth 100000 in
set_option maxHeartbeats 1000000 in
theorem put_good (v : Value) (bs : List Int) (N s : Nat) (h1 : 1 ≤ s) (h2 : s ≤ 8) (hfit : Hid (s = 8 ∨ N < 2 ^ (8 * s))) (w : World) (hr : Reads (Value.int .u8) w v bs) (hle : bs.length ≤ 140737488351232) :
    Calls Try.prog 19 #[v, .int .u64 N, .int .i64 s] w fun e w' => ∃ u, e = .returned (.tuple #[u, .int .i64 0]) ∧
      w'.ownsRow w.heap.size 5 1 u (bs ++ be N s).length ((bs ++ be N s).map (Value.int .u8)) ∧ Below w.heap.size w w' := by
  obtain ⟨i0, hi, hz0, hz1, hz2⟩ := info_parts infoByte
  have hm := hr.1
  by_cases h8 : s < 8
  · have hf : ((N : Int) / 2 ^ (8 * s) != 0) = false := fit_false (by rcases hfit.out with h | h; omega; exact h)
    go_enter Try.func19, Try.ntmps19
    go_wp2
    go_step3
    go_wp2_with (at_builtin; refine wpList_append_r _ rfl _ _ 22 rfl w.heap.size 5 i0 (.int .u8 0) 1 Try.underlying22 hi hz0 hz1 hz2 rfl _ _ _ rfl (owns_empty w _ (Nat.le_refl _)) (Value.int .u8) _ bs rfl (hr.below (bl_alloc (bl_refl w) _)) (by intros; rfl) (by simp; exact hm) (by simp; omega) (by simp) ?_; intro u w1 hown hgrow _)
    go_step3
    go_wp2_with fail
    have hb1 : Below w.heap.size w w1 := bl_grown (bl_alloc (bl_refl w) _) hgrow (owns_row_ge (owns_empty w 5 (Nat.le_refl _)))
    simp only [Nat.zero_add, List.nil_append] at hown
    clear hgrow hr
    go_loopw [8, 9] (fun u k wr => ∃ (r : Nat) (pre : List Int), 1 ≤ r ∧ r ≤ s ∧ k = .int .i64 (8 * (r : Int)) ∧ Hid (pre ++ be N r = be N s) ∧ wr.ownsRow w.heap.size 5 1 u (bs ++ pre).length ((bs ++ pre).map (Value.int .u8)) ∧ Below w.heap.size w wr)
      (fun _ k _ => (intOf k).toNat)
    case atStart => exact ⟨s, [], h1, Nat.le_refl _, rfl, rfl, by simpa using hown, hb1⟩
    case round =>
      obtain ⟨r, pre, hr1, hrs, rfl, hpre, ho, hB⟩ := hrel
      clear hown hb1
      have hpl : (bs ++ pre).length ≤ bs.length + 8 := by
        have := congrArg List.length hpre.out
        simp [be_length] at this ⊢; omega
      obtain ⟨l, hl1, hl2⟩ := be_byte N r hr1
      have HL := Lib.hid (And.intro hl1 hl2)
      clear hl1 hl2
      have hsz := hB.size
      by_cases hone : r = 1
      · subst hone
        have hfin : Hid (pre ++ [(N : Int) % 256] = be N s) := by
          unfold Hid
          rw [← hpre.out, HL.out.1, HL.out.2]
          simp [be]
        go_wp2_with (at_builtin; refine wpList_append_r _ rfl _ _ 22 rfl w.heap.size 5 i0 (.int .u8 0) 1 Try.underlying22 hi hz0 hz1 hz2 rfl _ _ _ rfl (ho.alloc _) (Value.int .u8) _ [(N : Int) % 256] rfl (reads_one _ _ _ _) (by simp [Value.oneCell']) (by simp [maxLen] at hpl ⊢; omega) (by simp at hpl ⊢; omega) (by simp; omega) ?_; intro v' w2 hown' hgrow' _)
        rw [Exit.noGoto_ret]
        go_ret2
        refine ⟨_, rfl, ?_, bl_grown (bl_alloc hB _) hgrow' (owns_row_ge ho)⟩
        rw [← hfin.out]
        simpa [Nat.add_assoc] using hown'
      · have hne : (8 * (r : Int) - 8 == 0) = false := by simp; omega
        have hr2 : 2 ≤ r := by omega
        have hfin : Hid ((pre ++ [(N : Int) / 2 ^ (8 * r - 8) % 256]) ++ be N (r - 1) = be N s) := by
          unfold Hid
          rw [← hpre.out, HL.out.1, HL.out.2]
          simp
        clear hone
        go_wp2_with (at_builtin; refine wpList_append_r _ rfl _ _ 22 rfl w.heap.size 5 i0 (.int .u8 0) 1 Try.underlying22 hi hz0 hz1 hz2 rfl _ _ _ rfl (ho.alloc _) (Value.int .u8) _ [(N : Int) / 2 ^ (8 * r - 8) % 256] rfl (reads_one _ _ _ _) (by simp [Value.oneCell']) (by simp [maxLen] at hpl ⊢; omega) (by simp at hpl ⊢; omega) (by simp; omega) ?_; intro v' w2 hown' hgrow' _)
        go_roundw
        case rel =>
          refine ⟨r - 1, pre ++ [(N : Int) / 2 ^ (8 * r - 8) % 256], by omega, by omega, by congr 1; omega, hfin, ?_, bl_grown (bl_alloc hB _) hgrow' (owns_row_ge ho)⟩
          simpa [Nat.add_assoc] using hown'
        case measure => simp [intOf]; omega
  · have hs8 : 8 ≤ s := by omega
    clear h8
    go_enter Try.func19, Try.ntmps19
    go_wp2
    go_step3
    go_wp2_with (at_builtin; refine wpList_append_r _ rfl _ _ 22 rfl w.heap.size 5 i0 (.int .u8 0) 1 Try.underlying22 hi hz0 hz1 hz2 rfl _ _ _ rfl (owns_empty w _ (Nat.le_refl _)) (Value.int .u8) _ bs rfl (hr.below (bl_alloc (bl_refl w) _)) (by intros; rfl) (by simp; exact hm) (by simp; omega) (by simp) ?_; intro u w1 hown hgrow _)
    go_step3
    go_wp2_with fail
    have hb1 : Below w.heap.size w w1 := bl_grown (bl_alloc (bl_refl w) _) hgrow (owns_row_ge (owns_empty w 5 (Nat.le_refl _)))
    simp only [Nat.zero_add, List.nil_append] at hown
    clear hgrow hr
    go_loopw [8, 9] (fun u k wr => ∃ (r : Nat) (pre : List Int), 1 ≤ r ∧ r ≤ s ∧ k = .int .i64 (8 * (r : Int)) ∧ Hid (pre ++ be N r = be N s) ∧ wr.ownsRow w.heap.size 5 1 u (bs ++ pre).length ((bs ++ pre).map (Value.int .u8)) ∧ Below w.heap.size w wr)
      (fun _ k _ => (intOf k).toNat)
    case atStart => exact ⟨s, [], h1, Nat.le_refl _, rfl, rfl, by simpa using hown, hb1⟩
    case round =>
      obtain ⟨r, pre, hr1, hrs, rfl, hpre, ho, hB⟩ := hrel
      clear hown hb1
      have hpl : (bs ++ pre).length ≤ bs.length + 8 := by
        have := congrArg List.length hpre.out
        simp [be_length] at this ⊢; omega
      obtain ⟨l, hl1, hl2⟩ := be_byte N r hr1
      have HL := Lib.hid (And.intro hl1 hl2)
      clear hl1 hl2
      have hsz := hB.size
      by_cases hone : r = 1
      · subst hone
        have hfin : Hid (pre ++ [(N : Int) % 256] = be N s) := by
          unfold Hid
          rw [← hpre.out, HL.out.1, HL.out.2]
          simp [be]
        go_wp2_with (at_builtin; refine wpList_append_r _ rfl _ _ 22 rfl w.heap.size 5 i0 (.int .u8 0) 1 Try.underlying22 hi hz0 hz1 hz2 rfl _ _ _ rfl (ho.alloc _) (Value.int .u8) _ [(N : Int) % 256] rfl (reads_one _ _ _ _) (by simp [Value.oneCell']) (by simp [maxLen] at hpl ⊢; omega) (by simp at hpl ⊢; omega) (by simp; omega) ?_; intro v' w2 hown' hgrow' _)
        rw [Exit.noGoto_ret]
        go_ret2
        refine ⟨_, rfl, ?_, bl_grown (bl_alloc hB _) hgrow' (owns_row_ge ho)⟩
        rw [← hfin.out]
        simpa [Nat.add_assoc] using hown'
      · have hne : (8 * (r : Int) - 8 == 0) = false := by simp; omega
        have hr2 : 2 ≤ r := by omega
        have hfin : Hid ((pre ++ [(N : Int) / 2 ^ (8 * r - 8) % 256]) ++ be N (r - 1) = be N s) := by
          unfold Hid
          rw [← hpre.out, HL.out.1, HL.out.2]
          simp
        clear hone
        go_wp2_with (at_builtin; refine wpList_append_r _ rfl _ _ 22 rfl w.heap.size 5 i0 (.int .u8 0) 1 Try.underlying22 hi hz0 hz1 hz2 rfl _ _ _ rfl (ho.alloc _) (Value.int .u8) _ [(N : Int) / 2 ^ (8 * r - 8) % 256] rfl (reads_one _ _ _ _) (by simp [Value.oneCell']) (by simp [maxLen] at hpl ⊢; omega) (by simp at hpl ⊢; omega) (by simp; omega) ?_; intro v' w2 hown' hgrow' _)
        go_roundw
        case rel =>
          refine ⟨r - 1, pre ++ [(N : Int) / 2 ^ (8 * r - 8) % 256], by omega, by omega, by congr 1; omega, hfin, ?_, bl_grown (bl_alloc hB _) hgrow' (owns_row_ge ho)⟩
          simpa [Nat.add_assoc] using hown'
        case measure => simp [intOf]; omega

theorem put_bad (v : Value) (N : Nat) (s : Int) (h : s < 1 ∨ 8 < s) (w : World) :
    Calls Try.prog 19 #[v, .int .u64 N, .int .i64 s] w fun e w' => e = .returned (.tuple #[.slice none 0 0, .int .i64 1]) ∧ w = w' := by
  by_cases h1 : s < 1
  · go_enter Try.func19, Try.ntmps19
    go_wp2
    go_step3
    go_wp2
    rw [Exit.noGoto_ret]
    go_ret2
    exact ⟨rfl, rfl⟩
  · have h2 : 8 < s := by omega
    clear h
    go_enter Try.func19, Try.ntmps19
    go_wp2
    go_step3
    go_wp2
    rw [Exit.noGoto_ret]
    go_ret2
    exact ⟨rfl, rfl⟩

theorem put_long (v : Value) (N s : Nat) (h1 : 1 ≤ s) (h2 : s < 8) (h3 : Hid (2 ^ (8 * s) ≤ N)) (w : World) :
    Calls Try.prog 19 #[v, .int .u64 N, .int .i64 s] w fun e w' => e = .returned (.tuple #[.slice none 0 0, .int .i64 3]) ∧ w = w' := by
  have hf : ((N : Int) / 2 ^ (8 * s) != 0) = true := fit_true h3.out
  go_enter Try.func19, Try.ntmps19
  go_wp2
  go_step3
  go_wp2
  rw [Exit.noGoto_ret]
  go_ret2
  exact ⟨rfl, rfl⟩

/-- What Put answers. -/
def putE (N : Nat) (s : Int) : Int := if s < 1 ∨ 8 < s then 1 else if s < 8 ∧ 2 ^ (8 * s.toNat) ≤ N then 3 else 0
def putV (bs : List Int) (N : Nat) (s : Int) : List Int := if s < 1 ∨ 8 < s then [] else if s < 8 ∧ 2 ^ (8 * s.toNat) ≤ N then [] else bs ++ be N s.toNat
theorem putV_le (bs : List Int) (N : Nat) (s : Int) : (putV bs N s).length ≤ bs.length + 8 := by
  unfold putV
  split
  · simp
  · split
    · simp
    · simp [be_length]; omega

theorem put_any (v : Value) (bs : List Int) (N : Nat) (s : Int) (w : World) (hr : Reads (Value.int .u8) w v bs) (hle : bs.length ≤ 140737488351232) :
    Calls Try.prog 19 #[v, .int .u64 N, .int .i64 s] w fun e w' => ∃ u, e = .returned (.tuple #[u, .int .i64 (putE N s)]) ∧
      w'.ownsRow w.heap.size 5 1 u (putV bs N s).length ((putV bs N s).map (Value.int .u8)) ∧ Below w.heap.size w w' := by
  by_cases h1 : s < 1 ∨ 8 < s
  · refine (put_bad v N s h1 w).mono ?_
    rintro e w' ⟨rfl, rfl⟩
    have e1 : putE N s = 1 := by unfold putE; rw [if_pos h1]
    have e2 : putV bs N s = [] := by unfold putV; rw [if_pos h1]
    exact ⟨_, by rw [e1], by rw [e2]; exact World.ownsRow_nil w _ _ _, Below.refl _ _⟩
  · obtain ⟨n, rfl⟩ := Int.eq_ofNat_of_zero_le (show 0 ≤ s by omega)
    by_cases h2 : (n : Int) < 8 ∧ 2 ^ (8 * n) ≤ N
    · refine (put_long v N n (by omega) (by omega) h2.2 w).mono ?_
      rintro e w' ⟨rfl, rfl⟩
      have e1 : putE N n = 3 := by unfold putE; rw [if_neg h1, Int.toNat_natCast, if_pos h2]
      have e2 : putV bs N n = [] := by unfold putV; rw [if_neg h1, Int.toNat_natCast, if_pos h2]
      exact ⟨_, by rw [e1], by rw [e2]; exact World.ownsRow_nil w _ _ _, Below.refl _ _⟩
    · have e1 : putE N n = 0 := by unfold putE; rw [if_neg h1, Int.toNat_natCast, if_neg h2]
      have e2 : putV bs N n = bs ++ be N n := by unfold putV; rw [if_neg h1, Int.toNat_natCast, if_neg h2]
      rw [e1, e2]
      exact put_good v bs N n (by omega) (by omega) (by unfold Hid; omega) w hr hle

end Go.Proofs.Ytaembdlidaogdaa
