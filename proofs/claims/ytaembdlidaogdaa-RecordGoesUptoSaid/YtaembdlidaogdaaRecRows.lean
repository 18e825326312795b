/- The iterator of record.rows: it gives the records in their order, each with its place. Conditions: as they stand. -/
import Derived.Shelf.Abstract
import Derived.Shelf.RegionOpen
import Derived.WalkKit
import Derived.OwnWalkIn
import Derived.TacticsInMore
import Derived.LoopNIn
import Derived.LoopIn
import Derived.Lib.Hide
import Derived.Test.YtaembdlidaogdaaTold
import Derived.Test.YtaembdlidaogdaaRecFirst
import Derived.Test.YtaembdlidaogdaaRecScanR
namespace Go.Proofs.Ytaembdlidaogdaa
open Go.RowKit Go.Shelf
attribute [local go_sem] Oper.semAt_some

/-- What a round is given: the place, and a slice that owns the payload's bytes. -/
structure Item where
  at_ : Nat
  p : List Int
  u : Value
def itemArgs (x : Item) : Array Value := #[.int .i64 x.at_, x.u]
def ItemAt (M : Nat) (ps : List (List Int)) (pre : List Item) (x : Item) (A : World) : Prop :=
  ps[pre.length]? = some x.p ∧ x.at_ = place ps pre.length ∧ A.ownsRow M 5 1 x.u x.p.length (x.p.map (Value.int .u8))
/-- What the iterator needs: the box with the row, the row's bytes. -/
def RowIn (M B : Nat) (ao : Option Addr) (cap : Nat) (row : List Int) (A : World) : Prop :=
  A.cell? ⟨B, 0, none⟩ = some (.slice ao row.length cap) ∧ Reads (Value.int .u8) A (.slice ao row.length cap) row ∧ M ≤ A.heap.size
theorem itemAt_turns (M : Nat) (ps : List (List Int)) (b : Nat) (pre : List Item) : Turns b (ItemAt M ps pre) := by
  intro x A l o o' h _ hl ho
  exact ⟨h.1, h.2.1, ownsRow_putObj h.2.2 _ hl ho⟩

theorem at_wrap {r P l : Nat} (h : P + (8 + l) ≤ r) (hl : r ≤ 16777216) : wrap64 ((P : Int) + (8 + (l : Int))) = (P : Int) + (8 + (l : Int)) := by unfold wrap64; omega
theorem at_val (P l : Nat) : Value.int .i64 ((P : Int) + (8 + (l : Int))) = .int .i64 ((P + (8 + l) : Nat) : Int) := by rw [show ((P + (8 + l) : Nat) : Int) = (P : Int) + (8 + (l : Int)) by omega]
def rest (r : Nat) (k : Value) : Nat := r + 1 - (intOf k).toNat
theorem at_less {r P l : Nat} (h : P + (8 + l) ≤ r) : rest r (.int .i64 ((P : Int) + (8 + (l : Int)))) < rest r (.int .i64 (P : Int)) := by
  unfold rest
  simp only [intOf]
  omega

set_option maxRecDepth 100000 in
set_option maxHeartbeats 1000000 in
theorem rows_told (n : Nat) (hn : 1 ≤ n) (M B : Nat) (ao : Option Addr) (cap : Nat) (row : List Int) (ps : List (List Int)) (hs : Hid (Steps row ps)) (hw : Hid (∀ n ∈ row, (Lit.int .u8 n).wf = true)) (hlim : row.length ≤ 16777216) :
    Told n Try.prog 29 #[.pointer (some ⟨B, 0, none⟩)] itemArgs (ItemAt M ps) (RowIn M B ao cap row) (fun xs => xs.length = ps.length) (fun pre => 0 < pre.length ∧ pre.length ≤ ps.length) := by
  intro l J Jx W hJb hJC hY h0
  have hlen := hs.out.1
  obtain ⟨i1, hi1, hz1⟩ := cut_info
  have HJB := Lib.hid hJb
  have HJC := Lib.hid hJC
  have HY := Lib.hid hY
  have H0 := Lib.hid h0
  clear hJb hJC hY h0
  refine callsIn_of_wp Try.func29 rfl trivial ?_ rfl
  simp only [Try.ntmps29, List.size_toArray, List.length_cons, List.length_nil, Nat.reduceAdd, Nat.reduceSub, Array.replicate_succ, Array.replicate_zero, List.push_toArray, List.append_toArray, List.nil_append, List.cons_append]
  gi_wp2
  gi_loopw [3] (fun k wr => ∃ pre : List Item, pre.length ≤ ps.length ∧ k = .int .i64 (place ps pre.length : Nat) ∧ J pre wr) (fun k _ => rest row.length k)
  case atStart => exact ⟨[], by simp, by rw [List.length_nil, place_zero]; rfl, H0.out⟩
  case round =>
    obtain ⟨pre, hi, rfl, hJ⟩ := hrel
    obtain ⟨hcell, hrow, hM⟩ := HJC.out _ _ hJ
    obtain ⟨hf, hpl⟩ := hs.out.2 _ hi
    have hrd := reads_back hrow hpl
    have hnx := fun p => place_succ (ps := ps) (k := pre.length) (p := p)
    have hle := fun h => (hs.out.2 (pre.length + 1) h).2
    have hye := fun (p : List Int) (u : Value) A => HY.out pre ⟨place ps pre.length, p, u⟩ A
    have hat : ∀ (p : List Int) (u : Value) A, ps[pre.length]? = some p → A.ownsRow M 5 1 u p.length (p.map (Value.int .u8)) → ItemAt M ps pre ⟨place ps pre.length, p, u⟩ A := fun p u A h1 h2 => ⟨h1, rfl, h2⟩
    unfold itemArgs at hye
    obtain ⟨P, hP⟩ : ∃ P, place ps pre.length = P := ⟨_, rfl⟩
    rw [hP] at hf hpl hrd hnx ⊢
    simp only [hP] at hye hat
    have hcut : ∀ W, (Instr.sliceAt 22 (.slice ao row.length cap) (some (.int .i64 (P : Int))) none none).run Try.prog W = .ok (cutV ao cap P (row.length - P)) W := fun W => run_back (P := Try.prog) Try.underlying22 hi1 hz1 W ao row.length cap _ hpl
    have hdw : Hid (∀ n ∈ row.drop P, (Lit.int .u8 n).wf = true) := Lib.hid fun n hn => hw.out n (List.mem_of_mem_drop hn)
    have hrl : (row.drop P).length = row.length - P := List.length_drop
    rw [← hrl] at hcut
    have hrd : Reads (Value.int .u8) wr (cutV ao cap P (row.drop P).length) (row.drop P) := by rw [hrl]; exact hrd
    obtain ⟨rw', hrw⟩ : ∃ r, row.drop P = r := ⟨_, rfl⟩
    rw [hrw] at hcut hrd hdw hf
    have hcall := first_any _ _ hdw wr hrd
    unfold cutV at hcut hcall
    generalize (if cap = P then ao else ao.map (·.add P)) = qo at hcut hcall
    have HC := Lib.hid hcall
    have HJ := Lib.hid hJ
    have HYE := Lib.hid hye
    have HAT := Lib.hid hat
    have HP := Lib.hid hP
    have HI := Lib.hid hi
    clear hcall hrd hdw hrl hrw hJ hye hat hrow hP
    cases hp : ps[pre.length]? with
    | none =>
      have HF := Lib.hid (hf.trans hp)
      have HQ := Lib.hid hp
      clear hp hf hnx hle
      gi_wp2_with fail
      refine ⟨trivial, ?_⟩
      refine (callsIn_wide.2 HC.out).mono ?_
      rintro e w1 ⟨u, rfl, -, hb1⟩
      rw [(fst_none HF.out).2]
      gi_wp2
      refine ⟨by simp, ?_⟩
      gi_wp2
      refine bodyPost_ret (results_none rfl _ _ _) rfl ?_
      exact ⟨⟨_, rfl⟩, .inl ⟨pre, Nat.le_antisymm HI.out (List.getElem?_eq_none_iff.1 HQ.out), HJB.out _ _ _ HJ.out hb1⟩⟩
    | some p =>
      have hf2 := fst_some (hf.trans hp)
      have hil := (List.getElem?_eq_some_iff.1 hp).1
      have hN := hnx p hp
      have hpp := hle hil
      rw [hN] at hpp
      have HN := Lib.hid hN
      have HQ := Lib.hid hp
      have HF1 := Lib.hid hf2.1
      have HF2 := Lib.hid hf2.2
      clear hp hf hnx hle hN hf2
      have c2 : wrap64 ((P : Int) + (8 + (p.length : Int))) = (P : Int) + (8 + (p.length : Int)) := at_wrap hpp hlim
      have HM := Lib.hid (show rest row.length (.int .i64 (wrap64 ((P : Int) + (8 + (p.length : Int))))) < rest row.length (.int .i64 (P : Int)) by rw [c2]; exact at_less hpp)
      have HV := Lib.hid (show Value.int .i64 (wrap64 ((P : Int) + (8 + (p.length : Int)))) = .int .i64 ((P + (8 + p.length) : Nat) : Int) by rw [c2]; exact at_val P p.length)
      have HL := Lib.hid (show pre.length + 1 ≤ ps.length from hil)
      clear c2 hpp hil
      have b0 : (((8 + p.length : Nat) : Int) == 0) = false := by simp; omega
      have b1 : ((8 + (p.length : Int)) == 0) = false := by simp; omega
      gi_wp2_with fail
      refine ⟨trivial, ?_⟩
      refine (callsIn_wide.2 HC.out).mono ?_
      rintro e w1 ⟨u, rfl, hu, hb1⟩
      rw [HF2.out]
      rw [HF1.out] at hu
      obtain ⟨fn, tmps, assign, body, hy, hR⟩ := HYE.out p u w1 (HJB.out _ _ _ HJ.out hb1) (HAT.out p u w1 HQ.out (owns_low hu hM))
      have HR := Lib.hid hR
      clear hR hu
      gi_wp2
      all_goals
        refine HR.out.mono ?_
        rintro e W3 (⟨rfl, hJ3⟩ | ⟨rfl, hJx3⟩)
        · gi_wp2
          go_roundw
          case rel => exact ⟨pre ++ [⟨P, p, u⟩], by rw [List.length_append]; exact HL.out, by rw [List.length_append, List.length_singleton, HN.out]; exact HV.out, hJ3⟩
          case measure => exact HM.out
        · gi_wp2
          refine bodyPost_ret (results_none rfl _ _ _) rfl ?_
          exact ⟨⟨_, rfl⟩, .inr ⟨pre ++ [⟨P, p, u⟩], ⟨by simp, by rw [List.length_append]; exact HL.out⟩, hJx3⟩⟩

end Go.Proofs.Ytaembdlidaogdaa
