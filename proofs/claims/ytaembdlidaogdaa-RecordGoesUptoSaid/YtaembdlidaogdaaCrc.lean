/- The record's sum: crc.down, crc.Sum, portageref02.Take, portageref02.Sum; a register told byte by byte. Conditions: as they stand. -/
import Derived.WalkKit
import Derived.Lib.Hide
import Derived.IntWalk
import Derived.Laws.BitsAllLaws
import Derived.OpenShut
import Derived.Test.YtaembdlidaogdaaRead
import Derived.Test.YtaembdlidaogdaaProg
namespace Go.Proofs.Ytaembdlidaogdaa
open Go.RowKit

/-- A register down by a bit; by so many; behind a byte; behind bytes. -/
def dn (n : Nat) : Nat := if n % 2 = 1 then (n / 2) ^^^ 3988292384 else n / 2
def dns (n : Nat) : Nat → Nat
  | 0 => n
  | k + 1 => dn (dns n k)
def tk (n b : Nat) : Nat := dns (n ^^^ b) 8
def reg (n : Nat) (xs : List Int) : Nat := xs.foldl (fun n b => tk n b.toNat) n
def sumN (xs : List Int) : Nat := 4294967295 - reg 4294967295 xs
theorem xor_lt32 {a b : Nat} (ha : a < 4294967296) (hb : b < 4294967296) : a ^^^ b < 4294967296 := by
  have h := Nat.xor_lt_two_pow (n := 32) (x := a) (y := b) ha hb
  exact h
theorem dn_lt {n : Nat} (h : n < 4294967296) : dn n < 4294967296 := by
  unfold dn
  split
  · exact xor_lt32 (by omega) (by omega)
  · omega
theorem dns_lt {n : Nat} (h : n < 4294967296) : ∀ k, dns n k < 4294967296
  | 0 => h
  | k + 1 => dn_lt (dns_lt h k)
theorem dns_zero (n : Nat) : dns n 0 = n := rfl
theorem dns_succ (n k : Nat) : dns n (k + 1) = dn (dns n k) := rfl
theorem tk_lt {n b : Nat} (h : n < 4294967296) (hb : b < 256) : tk n b < 4294967296 := by
  unfold tk
  exact dns_lt (xor_lt32 h (by omega)) 8
theorem reg_nil (n : Nat) : reg n [] = n := rfl
theorem reg_cons (n : Nat) (x : Int) (xs : List Int) : reg n (x :: xs) = reg (tk n x.toNat) xs := by unfold reg; rw [List.foldl_cons]
theorem reg_append (n : Nat) (xs ys : List Int) : reg n (xs ++ ys) = reg (reg n xs) ys := by unfold reg; rw [List.foldl_append]
theorem reg_lt {n : Nat} {xs : List Int} (h : n < 4294967296) (hw : ∀ x ∈ xs, (Lit.int .u8 x).wf = true) : reg n xs < 4294967296 := by
  induction xs generalizing n with
  | nil => exact h
  | cons x xs ih =>
    rw [reg_cons]
    have := bounds_u8 (hw x (by simp))
    exact ih (tk_lt h (by omega)) (fun y hy => hw y (by simp [hy]))
theorem reg_take {n : Nat} {xs : List Int} {i : Nat} {x : Int} (hx : xs[i]? = some x) : reg n (xs.take (i + 1)) = tk (reg n (xs.take i)) x.toNat := by
  rw [take_snoc' hx, reg_append, reg_cons, reg_nil]

theorem and1_u32 {a : Nat} (ha : a < 4294967296) : bits .and .u32 (a : Int) 1 = ((a % 2 : Nat) : Int) := by
  have := u32_and_nat a 1 ha (by decide)
  rw [show ((1 : Nat) : Int) = 1 from rfl] at this
  rw [this, Nat.and_one_is_mod]
theorem xor_poly {n : Nat} (h : n < 4294967296) : bits .xor .u32 ((n : Int) / 2) 3988292384 = ((n / 2 ^^^ 3988292384 : Nat) : Int) := by
  have := u32_xor_nat (n / 2) 3988292384 (by omega) (by omega)
  rw [← this]
  rfl

set_option maxRecDepth 100000 in
set_option maxHeartbeats 1000000 in
theorem down_any (n : Nat) (hn : n < 4294967296) (w : World) :
    Calls Try.prog 26 #[.int .u32 n, .int .u32 3988292384] w fun e w' => e = .returned (.int .u32 (dn n : Nat)) ∧ w = w' := by
  by_cases h : n % 2 = 1
  · have e : dn n = n / 2 ^^^ 3988292384 := by unfold dn; rw [if_pos h]
    have ha : bits .and .u32 (n : Int) 1 = 1 := by rw [and1_u32 hn, h]; rfl
    rw [e]
    have hx := xor_poly hn
    go_enter Try.func26, Try.ntmps26
    go_wp2
    go_ret
    exact ⟨by rw [← hx]; rfl, rfl⟩
  · have e : dn n = n / 2 := by unfold dn; rw [if_neg h]
    have ha : bits .and .u32 (n : Int) 1 = 0 := by rw [and1_u32 hn, show n % 2 = 0 by omega]; rfl
    rw [e]
    go_enter Try.func26, Try.ntmps26
    go_wp2
    go_ret
    exact ⟨rfl, rfl⟩

set_option maxRecDepth 100000 in
set_option maxHeartbeats 1000000 in
theorem take_any (n b : Nat) (hn : n < 4294967296) (hb : b < 256) (w : World) :
    Calls Try.prog 28 #[.int .u32 n, .int .u8 b, .int .u32 3988292384] w fun e w' => e = .returned (.int .u32 (tk n b : Nat)) ∧ w = w' := by
  have hx := u32_xor_nat n b hn (by omega)
  have hlt : Hid (n ^^^ b < 4294967296) := xor_lt32 hn (by omega)
  have hwb : IntKind.u32.wrap (b : Int) = (b : Int) := IntWalk.u32_in _ (by omega)
  unfold tk
  go_enter Try.func28, Try.ntmps28
  go_wp2
  go_loop [0, 7, 8] (fun x k _ => ∃ i : Nat, i ≤ 8 ∧ x = .int .u32 ((dns (n ^^^ b) i : Nat) : Int) ∧ k = .int .i64 i) (fun _ k _ => 8 - (intOf k).toNat)
  case atStart => exact ⟨0, by omega, by simp [dns_zero], rfl⟩
  case round =>
    obtain ⟨i, hi, rfl, rfl⟩ := hrel
    have hm := dns_lt hlt.out i
    by_cases h8 : i < 8
    · have hs := dns_succ (n ^^^ b) i
      generalize dns (n ^^^ b) i = m at hm hs ⊢
      by_cases h : m % 2 = 1
      · have e : dn m = m / 2 ^^^ 3988292384 := by unfold dn; rw [if_pos h]
        have hx := xor_poly hm
        have h2 : (m : Int).tmod 2 = 1 := by rw [Int.tmod_eq_emod_of_nonneg (by omega)]; omega
        go_wp2
        go_round
        case rel => exact ⟨i + 1, by omega, by rw [hs, e, ← hx], by go_num⟩
        case measure => simp [intOf]; omega
      · have e : dn m = m / 2 := by unfold dn; rw [if_neg h]
        have h2 : (m : Int).tmod 2 = 0 := by rw [Int.tmod_eq_emod_of_nonneg (by omega)]; omega
        go_wp2
        go_round
        case rel => exact ⟨i + 1, by omega, by rw [hs, e]; rfl, by go_num⟩
        case measure => simp [intOf]; omega
    · obtain rfl : i = 8 := by omega
      go_wp2
      go_ret
      exact ⟨rfl, rfl⟩

attribute [irreducible] dn dns tk reg

set_option maxRecDepth 100000 in
set_option maxHeartbeats 1000000 in
theorem rsum_any (v : Value) (xs : List Int) (hw : Hid (∀ n ∈ xs, (Lit.int .u8 n).wf = true)) (w : World) (hr : Reads (Value.int .u8) w v xs) :
    Calls Try.prog 22 #[v] w fun e w' => e = .returned (.int .u32 (sumN xs : Nat)) ∧ w = w' := by
  obtain ⟨hm, ao, cap, rfl, _, hc⟩ := hr
  unfold maxLen at hm
  have hlt : Hid (∀ i, reg 4294967295 (xs.take i) < 4294967296) := fun i => reg_lt (by decide) (fun y hy => hw.out y (List.mem_of_mem_take hy))
  go_enter Try.func22, Try.ntmps22
  go_wp2
  go_loop [3, 4] (fun x k => ∃ i : Nat, i ≤ xs.length ∧ x = .int .u32 ((reg 4294967295 (xs.take i) : Nat) : Int) ∧ k = .int .i64 i) (fun _ k => xs.length - (intOf k).toNat)
  case atStart => exact ⟨0, by omega, by simp [reg_nil], rfl⟩
  case round =>
    obtain ⟨i, hi, rfl, rfl⟩ := hrel
    by_cases h : i < xs.length
    · obtain ⟨b, o, x, rfl, hx, hcx⟩ := cell_nth hc h
      clear hc
      have hb := bounds_u8 (hw.out x (List.mem_of_getElem? hx))
      obtain ⟨m, rfl⟩ := Int.eq_ofNat_of_zero_le hb.1
      have hs := reg_take (n := 4294967295) hx
      rw [Int.toNat_natCast] at hs
      have hl := hlt.out i
      generalize reg 4294967295 (xs.take i) = r at hs hl ⊢
      clear hx
      go_wp2_with fail
      refine (take_any r m hl (by omega) _).mono ?_
      rintro e w' ⟨rfl, rfl⟩
      go_wp2
      go_round
      case rel => exact ⟨i + 1, by omega, by rw [hs], by go_num⟩
      case measure => simp [intOf]; omega
    · obtain rfl : i = xs.length := by omega
      clear hc
      rw [List.take_length]
      have hl := hlt.out xs.length
      rw [List.take_length] at hl
      have hsn : sumN xs = 4294967295 - reg 4294967295 xs := rfl
      generalize hrr : reg 4294967295 xs = r at hl hsn ⊢
      go_wp2
      go_ret
      exact ⟨congrArg (fun x => Ending.returned (Value.int .u32 x)) (show (4294967295 : Int) - (r : Int) = _ by omega), rfl⟩

end Go.Proofs.Ytaembdlidaogdaa
