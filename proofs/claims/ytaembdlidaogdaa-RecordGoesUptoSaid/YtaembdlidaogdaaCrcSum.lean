/- crc.Sum over any rows of bytes. Conditions: as they stand. -/
import Derived.WalkKit
import Derived.Lib.Hide
import Derived.Test.YtaembdlidaogdaaCrc
import Derived.Test.YtaembdlidaogdaaLst
namespace Go.Proofs.Ytaembdlidaogdaa
open Go.RowKit

theorem not_nat {r : Nat} (h : r < 4294967296) : 4294967295 ^^^ r = 4294967295 - r := by
  have h1 : (BitVec.allOnes 32 ^^^ BitVec.ofNat 32 r).toNat = (~~~ BitVec.ofNat 32 r).toNat := by rw [BitVec.allOnes_xor]
  rw [BitVec.toNat_xor, BitVec.toNat_not, BitVec.toNat_allOnes, BitVec.toNat_ofNat, Nat.mod_eq_of_lt (by omega)] at h1
  simpa using h1
theorem not_u32 {r : Nat} (h : r < 4294967296) : bits .xor .u32 IntKind.u32.max (r : Int) = ((4294967295 - r : Nat) : Int) := by
  have hm : IntKind.u32.max = ((4294967295 : Nat) : Int) := by decide
  rw [hm, u32_xor_nat _ _ (by decide) h, not_nat h]
theorem flat_take {ps : List (List Int)} {i : Nat} {p : List Int} (hp : ps[i]? = some p) : (ps.take (i + 1)).flatten = (ps.take i).flatten ++ p := by
  rw [take_snoc' hp, List.flatten_append]; simp

set_option maxRecDepth 100000 in
set_option maxHeartbeats 2000000 in
theorem sum_any (v : Value) (ps : List (List Int)) (hw : Hid (∀ p ∈ ps, ∀ n ∈ p, (Lit.int .u8 n).wf = true)) (w : World) (hl : Lst w v ps) :
    Calls Try.prog 20 #[v] w fun e w' => e = .returned (.int .u32 (sumN ps.flatten : Nat)) ∧ w = w' := by
  obtain ⟨ao, cap, rfl, hcap, hm⟩ := hl.form
  unfold maxLen at hm
  have hlt : Hid (∀ i, reg 4294967295 (ps.take i).flatten < 4294967296) := fun i => reg_lt (by decide) (fun y hy => by
    obtain ⟨p, hp, hy⟩ := List.mem_flatten.1 hy
    exact hw.out p (List.mem_of_mem_take hp) y hy)
  go_enter Try.func20, Try.ntmps20
  go_wp2
  go_loop [3, 5, 7, 10] (fun x _ _ k => ∃ i : Nat, i ≤ ps.length ∧ x = .int .u32 ((reg 4294967295 (ps.take i).flatten : Nat) : Int) ∧ k = .int .i64 i) (fun _ _ _ k => ps.length - (intOf k).toNat)
  case atStart => exact ⟨0, by omega, by simp [reg_nil], rfl⟩
  case round =>
    obtain ⟨i, hi, rfl, rfl⟩ := hrel
    by_cases h : i < ps.length
    · obtain ⟨p, hp⟩ := get_some h
      obtain ⟨b, o, x, rfl, hcell, hr⟩ := hl.at_ hp
      obtain ⟨hpm, xo, xc, rfl, _, hpc⟩ := hr
      unfold maxLen at hpm
      have hpw := Lib.hid (hw.out p (List.mem_of_getElem? hp))
      have hf := flat_take hp
      have hl0 := hlt.out i
      have hr1 : reg 4294967295 (ps.take (i + 1)).flatten = reg (reg 4294967295 (ps.take i).flatten) p := by rw [hf, reg_append]
      generalize reg 4294967295 (ps.take i).flatten = r at hl0 hr1 ⊢
      have hlt2 : Hid (∀ j, reg r (p.take j) < 4294967296) := fun j => reg_lt hl0 (fun y hy => hpw.out y (List.mem_of_mem_take hy))
      have HR := Lib.hid hr1
      clear hr1 hf hp hl
      go_wp2
      go_loop [3, 7, 16] (fun x _ k => ∃ j : Nat, j ≤ p.length ∧ x = .int .u32 ((reg r (p.take j) : Nat) : Int) ∧ k = .int .i64 j) (fun _ _ k => p.length - (intOf k).toNat)
      case atStart => exact ⟨0, by omega, by simp [reg_nil], rfl⟩
      case round =>
        obtain ⟨j, hj, rfl, rfl⟩ := hrel
        by_cases hjl : j < p.length
        · obtain ⟨b2, o2, x, rfl, hx, hcx⟩ := cell_nth hpc hjl
          clear hpc
          have hb := bounds_u8 (hpw.out x (List.mem_of_getElem? hx))
          obtain ⟨m, rfl⟩ := Int.eq_ofNat_of_zero_le hb.1
          have hs := reg_take (n := r) hx
          rw [Int.toNat_natCast] at hs
          have hlj := hlt2.out j
          generalize reg r (p.take j) = r2 at hs hlj ⊢
          have hx1 := u32_xor_nat r2 m hlj (by omega)
          have hwb : IntKind.u32.wrap (m : Int) = (m : Int) := IntWalk.u32_in _ (by omega)
          have hlx : Hid (r2 ^^^ m < 4294967296) := xor_lt32 hlj (by omega)
          have hs : reg r (p.take (j + 1)) = dns (r2 ^^^ m) 8 := by rw [hs]; unfold tk; rfl
          have HS := Lib.hid hs
          clear hx hs
          go_wp2
          go_loop [3, 24] (fun x k => ∃ q : Nat, q ≤ 8 ∧ x = .int .u32 ((dns (r2 ^^^ m) q : Nat) : Int) ∧ k = .int .i64 q) (fun _ k => 8 - (intOf k).toNat)
          case atStart => exact ⟨0, by omega, by simp [dns_zero], rfl⟩
          case round =>
            obtain ⟨q, hq, rfl, rfl⟩ := hrel
            have hd := dns_lt hlx.out q
            by_cases h8 : q < 8
            · have hds := dns_succ (r2 ^^^ m) q
              generalize dns (r2 ^^^ m) q = d at hd hds ⊢
              go_wp2_with fail
              refine (down_any d hd _).mono ?_
              rintro e w' ⟨rfl, rfl⟩
              go_wp2
              go_round
              case rel => exact ⟨q + 1, by omega, by rw [hds], by go_num⟩
              case measure => simp [intOf]; omega
            · obtain rfl : q = 8 := by omega
              go_wp2
              go_round
              case rel => exact ⟨j + 1, by omega, by rw [HS.out], by go_num⟩
              case measure => simp [intOf]; omega
        · obtain rfl : j = p.length := by omega
          clear hpc
          rw [List.take_length]
          go_wp2
          go_round
          case rel => exact ⟨i + 1, by omega, by rw [HR.out], by go_num⟩
          case measure => simp [intOf]; omega
    · obtain rfl : i = ps.length := by omega
      clear hl
      rw [List.take_length]
      have hl2 := hlt.out ps.length
      rw [List.take_length] at hl2
      have hsn : sumN ps.flatten = 4294967295 - reg 4294967295 ps.flatten := rfl
      generalize hrr : reg 4294967295 ps.flatten = r at hl2 hsn ⊢
      go_wp2
      go_ret
      exact ⟨congrArg (fun x => Ending.returned (Value.int .u32 x)) (not_u32 hl2), rfl⟩

end Go.Proofs.Ytaembdlidaogdaa
