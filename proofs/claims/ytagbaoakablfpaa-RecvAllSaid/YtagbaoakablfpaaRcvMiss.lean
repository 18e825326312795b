/- recv.Missing. Conditions: as they stand. -/
import Derived.RegionTactic
import Derived.BigRegion
import Derived.Deep.QuietTactic
import Derived.Deep.RegionHeld3
import Derived.Deep.DrawnRows
import Derived.Shelf.RegionOpen
import Derived.Test.YtagbaoakablfpaaRcvKept
namespace Go.Proofs.Ytagbaoakablfpaa
open Go.RowKit

theorem held_ms {w w' : World} {a g k : Nat} {x y : Value} (h1 : w.cell? ⟨a, 1, none⟩ = some x) (h2 : w.cell? ⟨g, k, none⟩ = some y) (hb : Below w.heap.size w w') : Below w.heap.size w w' ∧ w'.cell? ⟨a, 1, none⟩ = some x ∧ w'.cell? ⟨g, k, none⟩ = some y :=
  ⟨hb, below_cell hb h1, below_cell hb h2⟩

def Rcv.numbers (r : Rcv) : List Int := sorted r.keys (win r.waits 128)
def Rcv.missing (r : Rcv) : List Int := match r.numbers.getLast? with
  | none => []
  | some t => missed r.numbers (win r.waits ((t - (r.waits : Int)) % 128).toNat)

set_option maxRecDepth 100000 in
set_option maxHeartbeats 1000000 in
theorem rcmissing_any (C D : Nat → Prop) (a : Nat) (r : Rcv) (w : World) (hs : RcvAt C D w a r) (hk : r.kept.length ≤ 1000) :
    Calls Try.prog 10 #[.pointer (some ⟨a, 0, none⟩)] w fun e w' => ∃ u, e = .returned u ∧
      w'.ownsRow w.heap.size 3 1 u r.missing.length (r.missing.map (Value.int .i64)) ∧ Below w.heap.size w w' := by
  have HK := Lib.hid (rckept_any C D a r w hs hk)
  obtain ⟨mb, ab, fk, _, _, _, _, hb, _⟩ := hs
  have hle : (sorted r.keys (win r.waits 128)).length ≤ 128 := by have := sorted_le r.keys (win r.waits 128); rw [win_length] at this; exact this
  obtain ⟨ns, hns⟩ : ∃ ns, sorted r.keys (win r.waits 128) = ns := ⟨_, rfl⟩
  have hmiss : r.missing = match ns.getLast? with
      | none => []
      | some t => missed ns (win r.waits ((t - (r.waits : Int)) % 128).toNat) := by unfold Rcv.missing Rcv.numbers; rw [hns]
  rw [hns] at hle HK
  have HB := Lib.hid hb
  have HM := Lib.hid hmiss
  clear hb hmiss hns
  cases hl : ns.getLast? with
  | none =>
    have hn0 : ns = [] := List.getLast?_eq_none_iff.1 hl
    subst hn0
    go_enter Try.func10, Try.ntmps10
    go_wp2_with fail
    refine HK.out.mono ?_
    rintro e w1 ⟨u, rfl, hu, hb1⟩
    obtain ⟨uo, uc, rfl⟩ := rc_form hu
    have HB1 := Lib.hid hb1
    clear hu hb1
    go_wp2
    go_ret
    refine ⟨_, rfl, ?_, HB1.out⟩
    rw [HM.out]
    exact ⟨rfl, .inl ⟨rfl, rfl⟩⟩
  | some t =>
    have hlen : 0 < ns.length := by cases ns with
      | nil => cases hl
      | cons x r => simp
    have hlt : ns[ns.length - 1]? = some t := by rw [← List.getLast?_eq_getElem?]; exact hl
    have hm2 : r.missing = missed ns (win r.waits ((t - (r.waits : Int)) % 128).toNat) := by rw [HM.out, hl]
    have HM2 := Lib.hid hm2
    have h0 : ((ns.length : Int) == 0) = false := beq_eq_false_iff_ne.2 (by omega)
    clear HM hm2
    go_enter Try.func10, Try.ntmps10
    go_wp2_with fail
    refine HK.out.mono ?_
    rintro e w1 ⟨u, rfl, hu, hb1⟩
    have hr := Reads.of_owns hu (by unfold maxLen; omega)
    have HR := Lib.hid hr
    obtain ⟨_, uo, uc, rfl, _, hc⟩ := hr
    obtain ⟨bb, oo, rfl, hcell⟩ := hc _ t hlt
    obtain ⟨m, hm⟩ : ∃ m, ns.length = m + 1 := ⟨ns.length - 1, by omega⟩
    rw [hm] at HR hcell hle h0 ⊢
    rw [Nat.add_sub_cancel] at hcell
    have HLEN := Lib.hid hm
    have hb2 := bl_get hb1 HB.out
    obtain ⟨c0, c1, c2, c3⟩ := rc_cells hb2
    have HB1 := Lib.hid hb1
    have f0 : (0 : Int) ≤ (m : Int) := by omega
    have f1 : (m : Int) < (m : Int) + 1 := by omega
    have f2 : (m : Int) < ((m + 1 : Nat) : Int) := by omega
    have f3 : (m : Int) + 1 - 1 = (m : Int) := by omega
    have f4 : ((m + 1 : Nat) : Int) - 1 = (m : Int) := by omega
    have f5 : IntKind.i64.wrap (m : Int) = (m : Int) := IntWalk.i64_in _ (by omega)
    have f6 : m < m + 1 := by omega
    have f7 : wrap64 (m : Int) = (m : Int) := by unfold wrap64; omega
    clear hu hb1 hc hl hb2 hlt hlen hm
    go_wp2_with fail
    go_region_held3 (fun w' => Below w1.heap.size w1 w' ∧ w'.cell? ⟨a, 1, none⟩ = some (.int .i64 r.waits) ∧ w'.cell? ⟨bb, oo + m, none⟩ = some (.int .i64 t))
      (exact held_ms c1 hcell (by first | assumption | exact bl_drew (bl_refl _) | exact bl_refl _))
      (first | (go_at_call 27; refine (missing_any _ _ _ ns _ (HR.out.below (by first | assumption | exact bl_drew (bl_refl _)))).mono ?_; rintro e w' ⟨u2, rfl, hO2, hb2⟩; have hB2 : Below w1.heap.size w1 w' := bl_trans (by first | assumption | exact bl_drew (bl_refl _)) hb2))
    all_goals
      go_wp2
      go_ret
      refine ⟨u2, rfl, ?_, bl_trans HB1.out hB2⟩
      rw [HM2.out]
      exact ownsRow_mono hO2 HB1.out.size

end Go.Proofs.Ytagbaoakablfpaa
