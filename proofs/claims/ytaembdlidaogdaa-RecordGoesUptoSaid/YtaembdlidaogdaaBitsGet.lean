/- The contracts of bits.Get and of its reference: the number of any bytes at any place. Conditions: none. -/
import Derived.WalkKit
import Derived.Lib.Hide
import Derived.OpenShut
import Derived.Test.YtaembdlidaogdaaBitsPlain
import Derived.Test.YtaembdlidaogdaaRead
import Derived.Test.YtaembdlidaogdaaProg
namespace Go.Proofs.Ytaembdlidaogdaa
open Go.RowKit

/-- The number of k bytes from a place on. -/
def getTo (bs : List Int) (at_ : Nat) : Nat → Nat
  | 0 => 0
  | k + 1 => 256 * getTo bs at_ k + (bs.getD (at_ + k) 0).toNat
theorem getTo_zero (bs : List Int) (a : Nat) : getTo bs a 0 = 0 := rfl
theorem getTo_succ (bs : List Int) (a k : Nat) : getTo bs a (k + 1) = 256 * getTo bs a k + (bs.getD (a + k) 0).toNat := rfl
theorem getTo_lt (bs : List Int) (a k : Nat) (hw : ∀ n ∈ bs, (Lit.int .u8 n).wf = true) : getTo bs a k < 256 ^ k := by
  induction k with
  | zero => simp [getTo]
  | succ k ih =>
    have hb : (bs.getD (a + k) 0).toNat < 256 := by
      rw [List.getD_eq_getElem?_getD]
      cases h : bs[a + k]? with
      | none => simp
      | some x =>
        have := hw x (List.mem_of_getElem? h)
        have := bounds_u8 this
        simp; omega
    rw [getTo, Nat.pow_succ]; omega
attribute [irreducible] getTo


theorem get_step {bs : List Int} {a i : Nat} {x : Int} (hx : Hid (bs[a + i]? = some x)) (hw : Hid (∀ n ∈ bs, (Lit.int .u8 n).wf = true)) (hi : i < 8) :
    IntKind.u64.wrap (IntKind.u64.wrap (256 * ((getTo bs a i : Nat) : Int)) + IntKind.u64.wrap x) = ((getTo bs a (i + 1) : Nat) : Int) := by
  have hb := bounds_u8 (hw.out x (List.mem_of_getElem? hx.out))
  have hlt := getTo_lt bs a i hw.out
  have hp : 256 ^ i ≤ 256 ^ 7 := Nat.pow_le_pow_right (by decide) (by omega)
  obtain ⟨y, rfl⟩ := Int.eq_ofNat_of_zero_le hb.1
  have h7 : 256 ^ 7 = 72057594037927936 := by decide
  rw [getTo_succ, List.getD_eq_getElem?_getD, hx.out, show (256 * ((getTo bs a i : Nat) : Int)) = ((256 * getTo bs a i : Nat) : Int) by omega, wrap_u64 (by omega), wrap_u64 (by omega), ← Int.natCast_add, wrap_u64 (by omega)]
  simp
theorem get_step2 {bs : List Int} {a i : Nat} {x : Int} (hx : Hid (bs[a + i]? = some x)) (hw : Hid (∀ n ∈ bs, (Lit.int .u8 n).wf = true)) (hi : i < 8) :
    bits .or .u64 (IntKind.u64.wrap (((getTo bs a i : Nat) : Int) * 256)) (IntKind.u64.wrap x) = ((getTo bs a (i + 1) : Nat) : Int) := by
  have hb := bounds_u8 (hw.out x (List.mem_of_getElem? hx.out))
  have hlt := getTo_lt bs a i hw.out
  have hp : 256 ^ i ≤ 256 ^ 7 := Nat.pow_le_pow_right (by decide) (by omega)
  obtain ⟨y, rfl⟩ := Int.eq_ofNat_of_zero_le hb.1
  have h7 : 256 ^ 7 = 72057594037927936 := by decide
  rw [getTo_succ, List.getD_eq_getElem?_getD, hx.out, show (((getTo bs a i : Nat) : Int) * 256) = ((2 ^ 8 * getTo bs a i : Nat) : Int) by omega, wrap_u64 (by omega), wrap_u64 (by omega), or_u64 (by omega) (by omega), nat_join 8 _ _ (by omega) (by omega)]
  simp

set_option maxRecDepth 100000 in
set_option maxHeartbeats 1000000 in
theorem rget_good (v : Value) (bs : List Int) (a s : Nat) (h1 : 1 ≤ s) (h2 : s ≤ 8) (h3 : a + s ≤ bs.length) (hw : Hid (∀ n ∈ bs, (Lit.int .u8 n).wf = true)) (w : World) (hr : Reads (Value.int .u8) w v bs) :
    Calls Try.prog 24 #[v, .int .i64 a, .int .i64 s] w fun e w' => e = .returned (.tuple #[.int .u64 (getTo bs a s : Nat), .int .i64 0]) ∧ w = w' := by
  obtain ⟨hm, ao, cap, rfl, _, hc⟩ := hr
  unfold maxLen at hm
  go_enter Try.func24, Try.ntmps24
  go_wp2
  go_loop [8, 9] (fun n k => ∃ i : Nat, i ≤ s ∧ n = .int .u64 ((getTo bs a i : Nat) : Int) ∧ k = .int .i64 i) (fun _ k => s - (intOf k).toNat)
  case atStart => exact ⟨0, by omega, by simp [getTo_zero], rfl⟩
  case round =>
    obtain ⟨i, hi, rfl, rfl⟩ := hrel
    by_cases hlt : i < s
    · obtain ⟨b, o, x, rfl, hx, hcx⟩ := cell_nth hc (show a + i < bs.length by omega)
      clear hc
      have hs1 : (a : Int) + (i : Int) < (bs.length : Int) := by omega
      go_wp2
      go_round
      case rel => exact ⟨i + 1, by omega, by rw [get_step hx hw (by omega)], by go_num⟩
      case measure => simp [intOf]; omega
    · obtain rfl : i = s := by omega
      clear hc
      go_wp2
      go_ret2
      exact ⟨rfl, rfl⟩

set_option maxRecDepth 100000 in
set_option maxHeartbeats 1000000 in
theorem get_good (v : Value) (bs : List Int) (a s : Nat) (h1 : 1 ≤ s) (h2 : s ≤ 8) (h3 : a + s ≤ bs.length) (hw : Hid (∀ n ∈ bs, (Lit.int .u8 n).wf = true)) (w : World) (hr : Reads (Value.int .u8) w v bs) :
    Calls Try.prog 23 #[v, .int .i64 a, .int .i64 s] w fun e w' => e = .returned (.tuple #[.int .u64 (getTo bs a s : Nat), .int .i64 0]) ∧ w = w' := by
  obtain ⟨hm, ao, cap, rfl, ⟨hcap, _⟩, hc⟩ := hr
  unfold maxLen at hm
  obtain ⟨b, o, x, rfl, _, _⟩ := cell_nth hc (show a < bs.length by omega)
  go_enter Try.func23, Try.ntmps23
  go_wp2
  go_loop [8, 10, 40] (fun n _ k => ∃ i : Nat, i ≤ s ∧ n = .int .u64 ((getTo bs a i : Nat) : Int) ∧ k = .int .i64 i) (fun _ _ k => s - (intOf k).toNat)
  case atStart => exact ⟨0, by omega, by simp [getTo_zero], rfl⟩
  case round =>
    obtain ⟨i, hi, rfl, rfl⟩ := hrel
    by_cases hlt : i < s
    · obtain ⟨b', o', x', hao, hx', hcx'⟩ := cell_nth hc (show a + i < bs.length by omega)
      cases hao
      clear hc
      have hs1 : o + (a + i) = o + a + i := by omega
      rw [hs1] at hcx'
      go_wp2
      go_round
      case rel => exact ⟨i + 1, by omega, by rw [get_step2 hx' hw (by omega)], by go_num⟩
      case measure => simp [intOf]; omega
    · obtain rfl : i = s := by omega
      clear hc
      go_wp2
      go_ret2
      exact ⟨rfl, rfl⟩

theorem get_bad (n : Nat) (ao : Option Addr) (cap : Nat) (a s : Int) (ha : - 9223372036854775808 ≤ a ∧ a ≤ 9223372036854775807) (h : (s < 1 ∨ 8 < s) ∨ a < 0) (w : World) :
    Calls Try.prog 23 #[.slice ao n cap, .int .i64 a, .int .i64 s] w fun e w' => e = .returned (.tuple #[.int .u64 0, .int .i64 1]) ∧ w = w' := by
  by_cases h1 : s < 1
  · go_enter Try.func23, Try.ntmps23
    go_wp2
    go_ret2
    exact ⟨rfl, rfl⟩
  · by_cases h2 : 8 < s
    · clear h
      go_enter Try.func23, Try.ntmps23
      go_wp2
      go_ret2
      exact ⟨rfl, rfl⟩
    · have h3 : a < 0 := by omega
      clear h
      go_enter Try.func23, Try.ntmps23
      go_wp2
      go_ret2
      exact ⟨rfl, rfl⟩

theorem get_form (n : Nat) (ao : Option Addr) (cap : Nat) (a s : Int) (h1 : 1 ≤ s) (h2 : s ≤ 8) (h3 : 0 ≤ a) (h : (n : Int) < a ∨ (n : Int) - a < s) (w : World) :
    Calls Try.prog 23 #[.slice ao n cap, .int .i64 a, .int .i64 s] w fun e w' => e = .returned (.tuple #[.int .u64 0, .int .i64 2]) ∧ w = w' := by
  by_cases h4 : (n : Int) < a
  · clear h
    go_enter Try.func23, Try.ntmps23
    go_wp2
    go_ret2
    exact ⟨rfl, rfl⟩
  · have h5 : (n : Int) - a < s := by omega
    clear h
    go_enter Try.func23, Try.ntmps23
    go_wp2
    go_ret2
    exact ⟨rfl, rfl⟩

theorem rget_bad (n : Nat) (ao : Option Addr) (cap : Nat) (a s : Int) (ha : - 9223372036854775808 ≤ a ∧ a ≤ 9223372036854775807) (h : (s < 1 ∨ 8 < s) ∨ a < 0) (w : World) :
    Calls Try.prog 24 #[.slice ao n cap, .int .i64 a, .int .i64 s] w fun e w' => e = .returned (.tuple #[.int .u64 0, .int .i64 1]) ∧ w = w' := by
  by_cases h1 : s < 1
  · go_enter Try.func24, Try.ntmps24
    go_wp2
    go_ret2
    exact ⟨rfl, rfl⟩
  · by_cases h2 : 8 < s
    · clear h
      go_enter Try.func24, Try.ntmps24
      go_wp2
      go_ret2
      exact ⟨rfl, rfl⟩
    · have h3 : a < 0 := by omega
      clear h
      go_enter Try.func24, Try.ntmps24
      go_wp2
      go_ret2
      exact ⟨rfl, rfl⟩

theorem rget_form (n : Nat) (ao : Option Addr) (cap : Nat) (a s : Int) (h1 : 1 ≤ s) (h2 : s ≤ 8) (h3 : 0 ≤ a) (h : (n : Int) < a ∨ (n : Int) - a < s) (w : World) :
    Calls Try.prog 24 #[.slice ao n cap, .int .i64 a, .int .i64 s] w fun e w' => e = .returned (.tuple #[.int .u64 0, .int .i64 2]) ∧ w = w' := by
  by_cases h4 : (n : Int) < a
  · clear h
    go_enter Try.func24, Try.ntmps24
    go_wp2
    go_ret2
    exact ⟨rfl, rfl⟩
  · have h5 : (n : Int) - a < s := by omega
    clear h
    go_enter Try.func24, Try.ntmps24
    go_wp2
    go_ret2
    exact ⟨rfl, rfl⟩

/-- What Get answers. -/
def getE (bs : List Int) (a s : Int) : Int := if (s < 1 ∨ 8 < s) ∨ a < 0 then 1 else if (bs.length : Int) < a ∨ (bs.length : Int) - a < s then 2 else 0
def getV (bs : List Int) (a s : Int) : Nat := if (s < 1 ∨ 8 < s) ∨ a < 0 then 0 else if (bs.length : Int) < a ∨ (bs.length : Int) - a < s then 0 else getTo bs a.toNat s.toNat
theorem get_bad' {bs : List Int} {a s : Int} (h : (s < 1 ∨ 8 < s) ∨ a < 0) : getE bs a s = 1 ∧ getV bs a s = 0 := by unfold getE getV; rw [if_pos h, if_pos h]; exact ⟨rfl, rfl⟩
theorem get_form' {bs : List Int} {a s : Int} (h : ¬ ((s < 1 ∨ 8 < s) ∨ a < 0)) (k : (bs.length : Int) < a ∨ (bs.length : Int) - a < s) : getE bs a s = 2 ∧ getV bs a s = 0 := by unfold getE getV; rw [if_neg h, if_neg h, if_pos k, if_pos k]; exact ⟨rfl, rfl⟩
theorem get_good' {bs : List Int} {a s : Nat} (h : ¬ (((s : Int) < 1 ∨ 8 < (s : Int)) ∨ (a : Int) < 0)) (k : ¬ ((bs.length : Int) < a ∨ (bs.length : Int) - a < s)) : getE bs a s = 0 ∧ getV bs a s = getTo bs a s := by unfold getE getV; rw [if_neg h, if_neg h, if_neg k, if_neg k]; exact ⟨rfl, rfl⟩

theorem get_any (v : Value) (bs : List Int) (a s : Int) (ha : - 9223372036854775808 ≤ a ∧ a ≤ 9223372036854775807) (hw : Hid (∀ n ∈ bs, (Lit.int .u8 n).wf = true)) (w : World) (hr : Reads (Value.int .u8) w v bs) :
    Calls Try.prog 23 #[v, .int .i64 a, .int .i64 s] w fun e w' => e = .returned (.tuple #[.int .u64 (getV bs a s : Nat), .int .i64 (getE bs a s)]) ∧ w = w' := by
  by_cases h1 : (s < 1 ∨ 8 < s) ∨ a < 0
  · obtain ⟨hm, ao, cap, rfl, _, _⟩ := hr
    refine (get_bad bs.length ao cap a s ha h1 w).mono ?_
    rintro e w' ⟨rfl, rfl⟩
    exact ⟨by rw [get_bad' h1 |>.1, get_bad' h1 |>.2]; rfl, rfl⟩
  · by_cases h2 : (bs.length : Int) < a ∨ (bs.length : Int) - a < s
    · obtain ⟨hm, ao, cap, rfl, _, _⟩ := hr
      refine (get_form bs.length ao cap a s (by omega) (by omega) (by omega) h2 w).mono ?_
      rintro e w' ⟨rfl, rfl⟩
      exact ⟨by rw [get_form' h1 h2 |>.1, get_form' h1 h2 |>.2]; rfl, rfl⟩
    · obtain ⟨a, rfl⟩ := Int.eq_ofNat_of_zero_le (show 0 ≤ a by omega)
      obtain ⟨s, rfl⟩ := Int.eq_ofNat_of_zero_le (show 0 ≤ s by omega)
      refine (get_good v bs a s (by omega) (by omega) (by omega) hw w hr).mono ?_
      rintro e w' ⟨rfl, rfl⟩
      exact ⟨by rw [get_good' h1 h2 |>.1, get_good' h1 h2 |>.2], rfl⟩

theorem rget_any (v : Value) (bs : List Int) (a s : Int) (ha : - 9223372036854775808 ≤ a ∧ a ≤ 9223372036854775807) (hw : Hid (∀ n ∈ bs, (Lit.int .u8 n).wf = true)) (w : World) (hr : Reads (Value.int .u8) w v bs) :
    Calls Try.prog 24 #[v, .int .i64 a, .int .i64 s] w fun e w' => e = .returned (.tuple #[.int .u64 (getV bs a s : Nat), .int .i64 (getE bs a s)]) ∧ w = w' := by
  by_cases h1 : (s < 1 ∨ 8 < s) ∨ a < 0
  · obtain ⟨hm, ao, cap, rfl, _, _⟩ := hr
    refine (rget_bad bs.length ao cap a s ha h1 w).mono ?_
    rintro e w' ⟨rfl, rfl⟩
    exact ⟨by rw [get_bad' h1 |>.1, get_bad' h1 |>.2]; rfl, rfl⟩
  · by_cases h2 : (bs.length : Int) < a ∨ (bs.length : Int) - a < s
    · obtain ⟨hm, ao, cap, rfl, _, _⟩ := hr
      refine (rget_form bs.length ao cap a s (by omega) (by omega) (by omega) h2 w).mono ?_
      rintro e w' ⟨rfl, rfl⟩
      exact ⟨by rw [get_form' h1 h2 |>.1, get_form' h1 h2 |>.2]; rfl, rfl⟩
    · obtain ⟨a, rfl⟩ := Int.eq_ofNat_of_zero_le (show 0 ≤ a by omega)
      obtain ⟨s, rfl⟩ := Int.eq_ofNat_of_zero_le (show 0 ≤ s by omega)
      refine (rget_good v bs a s (by omega) (by omega) (by omega) hw w hr).mono ?_
      rintro e w' ⟨rfl, rfl⟩
      exact ⟨by rw [get_good' h1 h2 |>.1, get_good' h1 h2 |>.2], rfl⟩

end Go.Proofs.Ytaembdlidaogdaa
