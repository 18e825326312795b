/- The contract of the reference's Put: any number's bytes behind any others. Conditions: the bytes take no more than the form's reach. -/
import Derived.WalkKit
import Derived.Lib.Hide
import Derived.Maps.AppendAt
import Derived.Test.YtaembdlidaogdaaBits
import Derived.Test.YtaembdlidaogdaaBitsPut
namespace Go.Proofs.Ytaembdlidaogdaa
open Go.RowKit

def tail (N s r : Nat) : List Value := List.replicate r (.int .u8 0) ++ (be N (s - r)).map (Value.int .u8)
theorem tail_start (N s : Nat) : tail N s s = List.replicate s (.int .u8 0) := by simp [tail, be]
theorem tail_end (N s : Nat) : tail N s 0 = (be N s).map (Value.int .u8) := by simp [tail]
theorem tail_at {N s r : Nat} (h : 0 < r) : (tail N s r)[r - 1]? = some (.int .u8 0) := by
  rw [tail, List.getElem?_append_left (by simp; omega), List.getElem?_replicate, if_pos (by omega)]
theorem tail_set {N s r : Nat} (h : 0 < r) (hr : r ≤ s) : (tail N s r).set (r - 1) (.int .u8 ((N / 2 ^ (8 * (s - r)) % 256 : Nat) : Int)) = tail N s (r - 1) := by
  obtain ⟨k, rfl⟩ : ∃ k, r = k + 1 := ⟨r - 1, by omega⟩
  unfold tail
  rw [show s - (k + 1 - 1) = (s - (k + 1)) + 1 by omega, be, List.map_cons]
  simp only [Nat.add_sub_cancel]
  rw [List.set_append_left _ _ (by simp), List.replicate_succ', List.set_append_right _ _ (by simp)]
  simp

theorem tail_kept {N s B : Nat} {wr w2 : World} (hs : s ≤ 8) (ho : wr.ownsRow B 5 1 (.slice (some ⟨B, 0, none⟩) s s) s ((be N s).map (Value.int .u8))) (hlt : B < wr.heap.size) {row : Option Nat} (hrow : row = some wr.heap.size) (hg2 : (wr.alloc (.cells #[] 5)).grownBy w2 row) :
    Reads (Value.int .u8) w2 (.slice (some ⟨B, 0, none⟩) s s) (be N s) := by
  have h2 : w2.ownsRow B 5 1 (.slice (some ⟨B, 0, none⟩) s s) (be N s).length ((be N s).map (Value.int .u8)) := by
    rw [be_length]
    refine (ho.alloc _).kept hg2 (.inr (fun e => ?_))
    rw [hrow] at e
    have := Option.some.inj e
    simp at this; omega
  exact Reads.of_owns h2 (by rw [be_length]; unfold maxLen; omega)

theorem shr_byte (N k : Nat) : ((shrN N k : Nat) : Int) % 256 = ((N / 2 ^ k % 256 : Nat) : Int) := by unfold shrN; omega
theorem shr_256 {N k : Nat} (hN : N < 2 ^ 64) : IntKind.u64.wrap (((shrN N k : Nat) : Int) / 256) = ((shrN N (k + 8) : Nat) : Int) := by
  have h := shrN_lt hN k
  rw [show (((shrN N k : Nat) : Int) / 256) = ((shrN N k / 256 : Nat) : Int) by omega, wrap_u64 (by omega)]
  unfold shrN
  rw [Nat.div_div_eq_div_mul, Nat.pow_add]

set_option maxRecDepth 100000 in
set_option maxHeartbeats 1000000 in
theorem rput_good (v : Value) (bs : List Int) (N s : Nat) (h1 : 1 ≤ s) (h2 : s ≤ 8) (hN : Hid (N < 2 ^ 64)) (hfit : Hid (s = 8 ∨ N < 2 ^ (8 * s))) (w : World) (hr : Reads (Value.int .u8) w v bs) (hle : bs.length ≤ 140737488351232) :
    Calls Try.prog 21 #[v, .int .u64 N, .int .i64 s] w fun e w' => ∃ u, e = .returned (.tuple #[u, .int .i64 0]) ∧
      w'.ownsRow w.heap.size 5 1 u (bs ++ be N s).length ((bs ++ be N s).map (Value.int .u8)) ∧ Below w.heap.size w w' := by
  obtain ⟨i0, hi, hz0, hz1, hz2⟩ := info_parts infoByte
  have hm := hr.1
  have hf : Hid (decide (64 ≤ 8 * s ∨ N < 2 ^ (8 * s)) = true) := by unfold Hid; have := hfit.out; simp; omega
  go_enter Try.func21, Try.ntmps21
  go_wp2_with fail
  refine (fits_any N (8 * s) _).mono ?_
  rintro e w' ⟨rfl, rfl⟩
  rw [hf.out]
  go_wp2_with (at_make; refine wpList_make_full _ rfl _ _ 22 rfl w.heap.size 5 i0 (.int .u8 0) 1 Try.underlying22 hi hz0 hz1 .i64 .i64 _ _ s rfl rfl rfl rfl (by rw [hz2]; omega) (by unfold maxLen; omega) (Nat.le_refl _) ?_; intro w1 hown hgrow)
  have hmade : (madeCells (Value.int .u8 0).cells (s * 1)).toList = tail N s s := by
    rw [tail_start]
    apply List.ext_getElem
    · simp [madeCells]
    · intro i h1 h2; simp [madeCells, Value.cells, Nat.mod_one]
  rw [hmade] at hown
  clear hmade
  have hB0 : Below w.heap.size w w1 := bl_grown (bl_refl w) hgrow (by simp)
  clear hgrow
  go_loopw [1, 9] (fun n i wr => ∃ r : Nat, r ≤ s ∧ n = .int .u64 ((shrN N (8 * (s - r)) : Nat) : Int) ∧ i = .int .i64 ((r : Int) - 1) ∧ wr.ownsRow w.heap.size 5 1 (.slice (some ⟨w.heap.size, 0, none⟩) s s) s (tail N s r) ∧ Below w.heap.size w wr)
    (fun _ i _ => (intOf i + 1).toNat)
  case atStart => exact ⟨s, by omega, by simp [shrN_zero], rfl, hown, hB0⟩
  case round =>
    obtain ⟨r, hrs, rfl, rfl, ho, hB⟩ := hrel
    clear hown hB0
    by_cases hpos : 0 < r
    · have hc : wr.cell? ⟨w.heap.size, r - 1, none⟩ = some (.int .u8 0) := by rw [ho.cellAt (r - 1) (by omega), tail_at hpos]
      have hz := ho.frozenAt (r - 1)
      have hst := (ho.stored (r - 1) (.int .u8 ((N / 2 ^ (8 * (s - r)) % 256 : Nat) : Int)))
      rw [tail_set hpos hrs] at hst
      have HST := Lib.hid hst
      clear hst
      have i0' : 0 ≤ (r : Int) - 1 := by omega
      have i1' : (r : Int) - 1 < (s : Int) := by omega
      go_wp2
      go_roundw
      case rel =>
        refine ⟨r - 1, by omega, by rw [shr_256 hN.out, show 8 * (s - (r - 1)) = 8 * (s - r) + 8 by omega], by congr 1; omega, ?_, hB.setCell (p := ⟨w.heap.size, r - 1, none⟩) (Nat.le_refl _) _⟩
        rw [shr_byte]; exact HST.out.1
      case measure => simp [intOf]; omega
    · obtain rfl : r = 0 := by omega
      rw [tail_end] at ho
      have hsz := hB.size
      have hlt : w.heap.size < wr.heap.size := (ho.lt w.heap.size rfl).2
      have hE := owns_empty wr 5 hsz
      go_wp2_with (first | (at_builtin; refine wpList_append_r _ rfl (.tmp 38) (.tmp 39) 22 rfl w.heap.size 5 i0 (.int .u8 0) 1 Try.underlying22 hi hz0 hz1 hz2 rfl _ _ _ rfl (owns_empty wr _ hsz) (Value.int .u8) _ bs rfl ((hr.below hB).below (bl_alloc (bl_refl wr) _)) (by intros; rfl) (by simp [maxLen]; omega) (by simp; omega) (by simp; omega) ?_; intro u w2 ho2 hg2 _; have hb2 : Below w.heap.size w w2 := bl_grown (bl_alloc hB _) hg2 (owns_row_ge hE); have htl := tail_kept h2 ho hlt rfl hg2) | (at_builtin; refine wpList_append_r _ rfl (.tmp 41) (.tmp 42) 22 rfl w.heap.size 5 i0 (.int .u8 0) 1 Try.underlying22 hi hz0 hz1 hz2 rfl _ _ _ rfl ho2 (Value.int .u8) _ (be N s) rfl htl (by intros; rfl) (by simp [maxLen, be_length]; omega) (by simp [be_length]; omega) (by have := hb2.size; omega) ?_; intro u3 w3 ho3 hg3 _))
      go_ret2
      refine ⟨_, rfl, ?_, bl_grown hb2 hg3 (owns_row_ge ho2)⟩
      simpa using ho3

theorem rput_bad (v : Value) (N : Nat) (s : Int) (h : s < 1 ∨ 8 < s) (w : World) :
    Calls Try.prog 21 #[v, .int .u64 N, .int .i64 s] w fun e w' => e = .returned (.tuple #[.slice none 0 0, .int .i64 1]) ∧ w = w' := by
  by_cases h1 : s < 1
  · go_enter Try.func21, Try.ntmps21
    go_wp2
    go_ret2
    exact ⟨rfl, rfl⟩
  · have h2 : 8 < s := by omega
    clear h
    go_enter Try.func21, Try.ntmps21
    go_wp2
    go_ret2
    exact ⟨rfl, rfl⟩

theorem rput_long (v : Value) (N s : Nat) (h1 : 1 ≤ s) (h2 : s < 8) (h3 : Hid (2 ^ (8 * s) ≤ N)) (w : World) :
    Calls Try.prog 21 #[v, .int .u64 N, .int .i64 s] w fun e w' => e = .returned (.tuple #[.slice none 0 0, .int .i64 3]) ∧ w = w' := by
  have hf : Hid (decide (64 ≤ 8 * s ∨ N < 2 ^ (8 * s)) = false) := by unfold Hid; have := h3.out; simp; omega
  go_enter Try.func21, Try.ntmps21
  go_wp2_with fail
  refine (fits_any N (8 * s) _).mono ?_
  rintro e w' ⟨rfl, rfl⟩
  rw [hf.out]
  go_wp2
  go_ret2
  exact ⟨rfl, rfl⟩

theorem rput_any (v : Value) (bs : List Int) (N : Nat) (s : Int) (hN : N < 2 ^ 64) (w : World) (hr : Reads (Value.int .u8) w v bs) (hle : bs.length ≤ 140737488351232) :
    Calls Try.prog 21 #[v, .int .u64 N, .int .i64 s] w fun e w' => ∃ u, e = .returned (.tuple #[u, .int .i64 (putE N s)]) ∧
      w'.ownsRow w.heap.size 5 1 u (putV bs N s).length ((putV bs N s).map (Value.int .u8)) ∧ Below w.heap.size w w' := by
  by_cases h1 : s < 1 ∨ 8 < s
  · refine (rput_bad v N s h1 w).mono ?_
    rintro e w' ⟨rfl, rfl⟩
    have e1 : putE N s = 1 := by unfold putE; rw [if_pos h1]
    have e2 : putV bs N s = [] := by unfold putV; rw [if_pos h1]
    exact ⟨_, by rw [e1], by rw [e2]; exact World.ownsRow_nil w _ _ _, Below.refl _ _⟩
  · obtain ⟨n, rfl⟩ := Int.eq_ofNat_of_zero_le (show 0 ≤ s by omega)
    by_cases h2 : (n : Int) < 8 ∧ 2 ^ (8 * n) ≤ N
    · refine (rput_long v N n (by omega) (by omega) h2.2 w).mono ?_
      rintro e w' ⟨rfl, rfl⟩
      have e1 : putE N n = 3 := by unfold putE; rw [if_neg h1, Int.toNat_natCast, if_pos h2]
      have e2 : putV bs N n = [] := by unfold putV; rw [if_neg h1, Int.toNat_natCast, if_pos h2]
      exact ⟨_, by rw [e1], by rw [e2]; exact World.ownsRow_nil w _ _ _, Below.refl _ _⟩
    · have e1 : putE N n = 0 := by unfold putE; rw [if_neg h1, Int.toNat_natCast, if_neg h2]
      have e2 : putV bs N n = bs ++ be N n := by unfold putV; rw [if_neg h1, Int.toNat_natCast, if_neg h2]
      rw [e1, e2]
      exact rput_good v bs N n (by omega) (by omega) hN (by unfold Hid; omega) w hr hle

end Go.Proofs.Ytaembdlidaogdaa
