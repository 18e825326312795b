/- recv: Take at anything, Forget, the nil receiver. One byte in new memory. No program in sight. string(b) of whatever reads as bytes: its text. Conditions: as they stand. -/
import Derived.WalkMore
import Derived.Test.YthmdibagcbbgoaaM09
import Derived.WalkKit
import Derived.Test.YthmdibagcbbgoaaM00
import Derived.OpenShut
import Derived.Laws.BytesArg
import Derived.Test.YthmdibagcbbgoaaProg
namespace Go.Proofs.Ythmdibagcbbgoaa
open Go.RowKit

set_option maxRecDepth 100000 in
set_option maxHeartbeats 1000000 in
theorem rctake_bad (C D : Nat → Prop) (a : Nat) (r : Rcv) (ns : Int) (ao : Option Addr) (n cap : Nat) (w : World) (hs : RcvAt C D w a r) (hE : r.chk ns n ≠ 0) :
    Calls Try.prog 67 #[.pointer (some ⟨a, 0, none⟩), .int .i64 ns, .slice ao n cap] w fun e w' => e = .returned (.tuple #[.slice none 0 0, .slice none 0 0, .int .i64 (r.chk ns n)]) ∧ ∃ k, w' = w.drewN k := by
  have HCHK := Lib.hid (rccheck_any C D a r ns ao n cap w hs)
  obtain ⟨E, hEE⟩ : ∃ E, r.chk ns n = E := ⟨_, rfl⟩
  rw [hEE] at HCHK hE ⊢
  have g0 : (E == 0) = false := by simpa using hE
  clear hEE hs
  go_enter Try.func67, Try.ntmps67
  go_wp2_with fail
  go_step3
  go_wp2_with fail
  refine HCHK.out.mono ?_
  rintro e w' ⟨rfl, kk, rfl⟩
  go_wp2_with fail
  try rw [Exit.noGoto_ret]
  go_ret3
  exact ⟨rfl, kk, rfl⟩

set_option maxRecDepth 100000 in
set_option maxHeartbeats 1000000 in
theorem rctake_nil (ns : Int) (ao : Option Addr) (n cap : Nat) (w : World) :
    Calls Try.prog 67 #[.pointer none, .int .i64 ns, .slice ao n cap] w fun e w' => e = .returned (.tuple #[.slice none 0 0, .slice none 0 0, .int .i64 7]) ∧ w = w' := by
  have HCHK := Lib.hid (rccheck_nil ns (.slice ao n cap) w)
  go_enter Try.func67, Try.ntmps67
  go_wp2_with fail
  go_step3
  go_wp2_with fail
  refine HCHK.out.mono ?_
  rintro e w' ⟨rfl, rfl⟩
  go_wp2_with fail
  try rw [Exit.noGoto_ret]
  go_ret3
  exact ⟨rfl, rfl⟩

theorem rcforget_nil (w : World) : Calls Try.prog 66 #[.pointer none] w fun e w' => (∃ v, e = .returned v) ∧ w = w' := by
  go_enter Try.func66, Try.ntmps66
  go_wp2
  go_end0
  exact ⟨⟨_, rfl⟩, rfl⟩
theorem rcreset_nil (w : World) : Calls Try.prog 64 #[.pointer none] w fun e w' => (∃ v, e = .returned v) ∧ w = w' := by
  go_enter Try.func64, Try.ntmps64
  go_wp2
  go_end0
  exact ⟨⟨_, rfl⟩, rfl⟩
theorem rcwaits_nil (w : World) : Calls Try.prog 32 #[.pointer none] w fun e w' => e = .returned (.int .i64 0) ∧ w = w' := by
  go_enter Try.func32, Try.ntmps32
  go_wp2
  go_ret
  exact ⟨rfl, rfl⟩
set_option maxRecDepth 100000 in
theorem rckept_nil (w : World) : Calls Try.prog 73 #[.pointer none] w fun e w' => e = .returned (.slice none 0 0) ∧ w = w' := by
  go_enter Try.func73, Try.ntmps73
  go_wp2
  go_ret
  exact ⟨rfl, rfl⟩
set_option maxRecDepth 100000 in
theorem rcmissing_nil (w : World) : Calls Try.prog 72 #[.pointer none] w fun e w' => e = .returned (.slice none 0 0) ∧ w = w' := by
  have H := Lib.hid (rckept_nil w)
  go_enter Try.func72, Try.ntmps72
  go_wp2_with fail
  refine H.out.mono ?_
  rintro e w' ⟨rfl, rfl⟩
  go_wp2
  go_ret
  exact ⟨rfl, rfl⟩

set_option maxRecDepth 100000 in
set_option maxHeartbeats 1000000 in
theorem rcforget_any (C D : Nat → Prop) (a : Nat) (r : Rcv) (w : World) (hs : RcvAt C D w a r) (hC : ∀ k, C k → k < w.heap.size) (hD : ∀ k, D k → k < w.heap.size) :
    Calls Try.prog 66 #[.pointer (some ⟨a, 0, none⟩)] w fun e w' => (∃ v, e = .returned v) ∧ RcvAt (fun k => C k ∨ (w.heap.size ≤ k ∧ k < w'.heap.size)) D w' a { r with asked := [] } ∧ Fr C w w' := by
  obtain ⟨mb, ab, fk, HP⟩ := hs
  have hmk : ∀ (t : TypeId) (W : World), (Instr.makeMap t none).run Try.prog W = .ok (.map (some W.heap.size)) (W.alloc (.map #[] 0)) := fun t W => run_makeMap t W
  have hB := bl_alloc (bl_refl w) (.map #[] 0)
  have m1 := MapIs.made w
  have hP1 := HP.below hB
  have hb2 := hP1.hb
  have hsz : (w.alloc (.map #[] 0)).heap.size = w.heap.size + 1 := by simp
  obtain ⟨c0, c1, c2, c3⟩ := rc_cells hb2
  have z3 := rc_frozen (j := 3) hb2
  obtain ⟨W0, hW0⟩ : ∃ W0, w.alloc (.map #[] 0) = W0 := ⟨_, rfl⟩
  rw [hW0] at hB m1 hP1 hb2 hsz c0 c1 c2 c3 z3
  have HF := Lib.hid (fr_cell W0 a 3 (.map (some w.heap.size)))
  have HB2 := Lib.hid (rc_set _ a 3 _ _ (.map (some w.heap.size)) hb2)
  have HM1 := Lib.hid m1
  have HP1 := Lib.hid hP1
  have HB := Lib.hid hB
  have HSZ := Lib.hid hsz
  have HC := Lib.hid hC
  have HD := Lib.hid hD
  clear m1 hB hb2 hsz HP hP1 hC hD
  go_enter Try.func66, Try.ntmps66
  go_wp2
  go_end0
  have hs := HF.out.size
  have hz := HSZ.out
  have ha := HC.out a HP1.out.ca
  have hm := HC.out mb HP1.out.cm
  have hna : w.heap.size ≠ a := by omega
  obtain ⟨es, clock, hmb, hE⟩ := HP1.out.hM
  have hb8 := HB2.out
  refine ⟨⟨_, rfl⟩, ⟨mb, w.heap.size, fk, .inl HP1.out.ca, .inl HP1.out.cm, .inr ⟨Nat.le_refl _, by omega⟩, by omega, ?_, HP1.out.hM.fr HF.out (fun e => ne_map HP1.out.hb hmb e.symm), HM1.out.fr HF.out hna, HP1.out.keys, fun i x p hx hp => (HP1.out.rows i x p hx hp).fr HF.out (fun k hk e => HP1.out.dis k hk (e ▸ HP1.out.ca)), fun k hk hc => ?_⟩, (Fr.of_below HB.out).trans HF.out (fun _ h => .inl (h ▸ HP1.out.ca))⟩
  · rw [hb8]; simp
  · rcases hc with hc | hc
    · exact HP1.out.dis k hk hc
    · have := HD.out k hk; omega

end Go.Proofs.Ythmdibagcbbgoaa

namespace Go.Proofs.Ythmdibagcbbgoaa
open Go.RowKit

theorem reads_mark' (w : World) (x : Int) (e : TypeId) (fr : Nat × Nat) : Reads (Value.int .u8) (w.alloc (.cells #[.int .u8 x] e fr)) (.slice (some ⟨w.heap.size, 0, none⟩) 1 1) [x] := by
  refine ⟨by simp [maxLen], _, _, rfl, ⟨by simp, fun h => by cases h⟩, fun i z hz => ⟨_, _, rfl, ?_⟩⟩
  rw [World.cell?_alloc_mark]
  match i, hz with
  | 0, hz => simp at hz; subst hz; simp
  | n + 1, hz => simp at hz
theorem wf_one {x : Int} (h : (Lit.int .u8 x).wf = true) : ∀ n ∈ [x], (Lit.int .u8 n).wf = true := by simpa using h
theorem str_one : strOfNums [97] = ⟨#[97]⟩ := by decide +kernel

end Go.Proofs.Ythmdibagcbbgoaa

namespace Go.Proofs.Ythmdibagcbbgoaa
open Go.RowKit

theorem conv_reads {w : World} {v : Value} {xs : List Int} (h : Reads (Value.int .u8) w v xs) : (convert 22 9 v).run Try.prog w = .ok (.string (strOfNums xs)) w := by
  obtain ⟨_, ao, cap, rfl, _, hc⟩ := h
  cases xs with
  | nil =>
    cases ao with
    | none => exact run_convert_bytes_nil w 22 5 Try.underlying22 Try.underlying5 _ _ _ Try.underlying9
    | some a =>
      rw [run_convert_bytes_string w 22 9 5 _ _ _ Try.underlying22 Try.underlying5 Try.underlying9]
      have := run_bytesToString (P := Try.prog) w a 0 cap [] (by simpa using run_loadCells_list (P := Try.prog) w a [] (fun j v hj => by simp at hj))
      exact this
  | cons x xs =>
    obtain ⟨b, o, rfl, _⟩ := hc 0 x rfl
    refine run_convert_bytes_arg w 22 5 Try.underlying22 Try.underlying5 b o _ cap (x :: xs) rfl (fun i hi => ?_) _ Try.underlying9
    obtain ⟨y, hy⟩ := get_some hi
    obtain ⟨b', o', ha, hcell⟩ := hc i y hy
    cases ha
    rw [hcell, List.getD_eq_getElem?_getD, hy]
    rfl

theorem str_inj {xs ys : List Int} (hx : ∀ n ∈ xs, (Lit.int .u8 n).wf = true) (hy : ∀ n ∈ ys, (Lit.int .u8 n).wf = true) (h : strOfNums xs = strOfNums ys) : xs = ys := by
  have h2 : xs.map (fun n => UInt8.ofNat n.toNat) = ys.map (fun n => UInt8.ofNat n.toNat) := by rw [← strOfNums_data, ← strOfNums_data, h]
  clear h
  induction xs generalizing ys with
  | nil => cases ys with
    | nil => rfl
    | cons y ys => simp at h2
  | cons x xs ih =>
    cases ys with
    | nil => simp at h2
    | cons y ys =>
      simp only [List.map_cons, List.cons.injEq] at h2
      have bx := bounds_u8 (hx x (by simp))
      have bby := bounds_u8 (hy y (by simp))
      have h3 : (UInt8.ofNat x.toNat).toNat = (UInt8.ofNat y.toNat).toNat := by rw [h2.1]
      rw [UInt8.toNat_ofNat', UInt8.toNat_ofNat'] at h3
      rw [ih (fun n hn => hx n (by simp [hn])) (fun n hn => hy n (by simp [hn])) h2.2]
      have : x = y := by omega
      rw [this]

end Go.Proofs.Ythmdibagcbbgoaa
