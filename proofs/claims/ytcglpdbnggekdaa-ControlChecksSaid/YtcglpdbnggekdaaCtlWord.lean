/- The contracts of control.Word and portageref05.Word. Conditions: none. -/
import Derived.WalkKit
import Derived.Lib.Hide
import Derived.Test.YtcglpdbnggekdaaRead
import Derived.Test.YtcglpdbnggekdaaProg
namespace Go.Proofs.Ytcglpdbnggekdaa
open Go.RowKit

/-- A kind's word. -/
def wordN (k : Int) : ByteArray := if k = 1 then ⟨#[105]⟩ else if k = 2 then ⟨#[114, 114]⟩ else if k = 3 then ⟨#[114, 110, 114]⟩ else if k = 4 then ⟨#[115, 114, 101, 106]⟩ else if k = 5 then ⟨#[115, 97, 98, 109, 101]⟩ else if k = 6 then ⟨#[117, 97]⟩ else if k = 7 then ⟨#[100, 109]⟩ else ⟨#[]⟩
theorem ret_str {a b : ByteArray} (h : a = b) : Ending.returned (.string a) = .returned (.string b) := by rw [h]

theorem word_out (k : Int) (h : k < 0 ∨ 8 ≤ k) (w : World) :
    Calls Try.prog 20 #[.int .i64 k] w fun e w' => e = .returned (.string ⟨#[]⟩) ∧ Below w.heap.size w w' := by
  rcases h with h | h
  · go_enter Try.func20, Try.ntmps20
    go_wp2
    go_ret
    exact ⟨rfl, bl_alloc (bl_refl w) _⟩
  · have h0 : ¬ k < 0 := by omega
    go_enter Try.func20, Try.ntmps20
    go_wp2
    go_ret
    exact ⟨rfl, bl_alloc (bl_refl w) _⟩

theorem word_any (k : Int) (w : World) :
    Calls Try.prog 20 #[.int .i64 k] w fun e w' => e = .returned (.string (wordN k)) ∧ Below w.heap.size w w' := by
  by_cases h : k < 0 ∨ 8 ≤ k
  · have : wordN k = ⟨#[]⟩ := by
      unfold wordN
      rw [if_neg (by omega), if_neg (by omega), if_neg (by omega), if_neg (by omega), if_neg (by omega), if_neg (by omega), if_neg (by omega)]
    rw [this]
    exact word_out k h w
  · rcases (show k = 0 ∨ k = 1 ∨ k = 2 ∨ k = 3 ∨ k = 4 ∨ k = 5 ∨ k = 6 ∨ k = 7 by omega) with rfl | rfl | rfl | rfl | rfl | rfl | rfl | rfl
    all_goals
      clear h
      go_enter Try.func20, Try.ntmps20
      go_wp2
      go_ret
      exact ⟨ret_str (by decide +kernel), bl_alloc (bl_refl w) _⟩

theorem rword_any (k : Int) (w : World) :
    Calls Try.prog 21 #[.int .i64 k] w fun e w' => e = .returned (.string (wordN k)) ∧ w = w' := by
  by_cases h : k < 1 ∨ 8 ≤ k
  · have hv : wordN k = ⟨#[]⟩ := by
      unfold wordN
      rw [if_neg (by omega), if_neg (by omega), if_neg (by omega), if_neg (by omega), if_neg (by omega), if_neg (by omega), if_neg (by omega)]
    rw [hv]
    have hv := Lib.hid hv
    have h1 : (k == 1) = false := by rw [beq_eq_false_iff_ne]; omega
    have h2 : (k == 2) = false := by rw [beq_eq_false_iff_ne]; omega
    have h3 : (k == 3) = false := by rw [beq_eq_false_iff_ne]; omega
    have h4 : (k == 4) = false := by rw [beq_eq_false_iff_ne]; omega
    have h5 : (k == 5) = false := by rw [beq_eq_false_iff_ne]; omega
    have h6 : (k == 6) = false := by rw [beq_eq_false_iff_ne]; omega
    have h7 : (k == 7) = false := by rw [beq_eq_false_iff_ne]; omega
    clear h
    go_enter Try.func21, Try.ntmps21
    go_wp2
    go_ret
    exact ⟨rfl, rfl⟩
  · rcases (show k = 1 ∨ k = 2 ∨ k = 3 ∨ k = 4 ∨ k = 5 ∨ k = 6 ∨ k = 7 by omega) with rfl | rfl | rfl | rfl | rfl | rfl | rfl
    all_goals
      clear h
      go_enter Try.func21, Try.ntmps21
      go_wp2
      go_ret
      exact ⟨ret_str (by decide +kernel), rfl⟩

end Go.Proofs.Ytcglpdbnggekdaa
