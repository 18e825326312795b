/- The walk of the statement BitsPuts. Conditions: the arguments' own. -/
import Derived.WalkKit
import Derived.Lib.Hide
import Derived.Test.YtphafaohicageaaLawBits
import Derived.Test.YtphafaohicageaaFrm
namespace Go.Proofs.Ytphafaohicageaa
open Go.RowKit

theorem turned_wf {x : Int} (h : (Lit.int .u8 x).wf = true) : IntKind.u8.wrap (255 - x) = 255 - x ∧ (Lit.int .u8 (255 - x)).wf = true := by
  have := bounds_u8 h
  exact ⟨by rw [IntKind.wrap_u8]; omega, Go.WalkArith.wf_u8 (by omega)⟩

theorem owns_slice {w : World} {base : Nat} {e : TypeId} {s : Nat} {v : Value} {n : Nat} {xs : List Value} (h : w.ownsRow base e s v n xs) : ∃ ao cap, v = .slice ao n cap := by
  rcases h.2 with ⟨rfl, h0⟩ | ⟨g, cap, cur, rfl, _⟩
  · exact ⟨none, 0, by rw [h0]⟩
  · exact ⟨_, _, rfl⟩
theorem slice_own {w : World} {base : Nat} {e : TypeId} {s : Nat} {ao : Option Addr} {cap n : Nat} {xs : List Value} (h : w.ownsRow base e s (.slice ao n cap) n xs) (hn : 0 < n) : ∃ g, ao = some ⟨g, 0, none⟩ ∧ base ≤ g ∧ g < w.heap.size := by
  rcases h.2 with ⟨h1, h0⟩ | ⟨g, cap, cur, h1, hb, hg, _⟩
  · omega
  · cases h1
    exact ⟨g, rfl, hb, lt_of_get hg⟩
theorem owns_below {w w' : World} {base : Nat} {e : TypeId} {s : Nat} {v : Value} {n : Nat} {xs : List Value} (h : w.ownsRow base e s v n xs) (hb : Below w.heap.size w w') : w'.ownsRow base e s v n xs := by
  refine ⟨h.1, ?_⟩
  rcases h.2 with h2 | ⟨g, cap, cur, hv, hg, hrow, r⟩
  · exact .inl h2
  · exact .inr ⟨g, cap, cur, hv, hg, bl_get hb hrow, r⟩
theorem reads_kept {w w' : World} {g i : Nat} {x : Value} {v : Value} {xs : List Int} (h : Reads (Value.int .u8) w v xs) {base : Nat} (hb : ∀ k, v.ownBlock = some k → base ≤ k) (hg : g < base) (hw : w' = w.setCell ⟨g, i, none⟩ x) : Reads (Value.int .u8) w' v xs := by
  subst hw
  refine Frm.reads (ex := [g]) (Frm.setCell (Frm.refl _ _) (p := ⟨g, i, none⟩) (by simp) _) h ?_
  cases hv : v.ownBlock with
  | none => exact .inl rfl
  | some k => exact .inr ⟨k, rfl, by have := hb k hv; simp; omega⟩

set_option maxRecDepth 100000 in
set_option maxHeartbeats 1000000 in
theorem walkBitsPuts (v : Value) (l : List Int) (w : World) (hr : Reads (Value.int .u8) w v l) (hw : ∀ n ∈ l, (Lit.int .u8 n).wf = true) (hle : l.length * 1 ≤ reachBytes) (n : Int) (hn : (Lit.int .u64 n).wf = true) (s : Int) (_ : (Lit.int .i64 s).wf = true) :
    Calls Try.prog 3 #[v, .int .u64 n, .int .i64 s] w fun e w' => e = .returned (.bool true) ∧ Below w.heap.size w w' := by
  obtain ⟨N, rfl, hN⟩ := nat_u64 hn
  have hN := Lib.hid hN
  have hw := Lib.hid hw
  unfold reachBytes at hle
  obtain ⟨i0, hi, hz0, hz1, hz2⟩ := info_parts infoByte
  have hr0 := hr
  obtain ⟨hm, ao, cap, rfl, ⟨hcap, _⟩, _⟩ := hr
  have hm2 := hm
  unfold maxLen at hm2
  go_enter Try.func3, Try.ntmps3
  go_wp2_with (first | (at_make; refine wpList_make_own _ rfl _ _ 22 rfl w.heap.size 5 i0 (.int .u8 0) 1 Try.underlying22 hi hz0 hz1 .i64 .i64 _ (l.length + 16) rfl rfl (by first | rfl | omega) (by rw [hz2]; omega) (by unfold maxLen; omega) (Nat.le_refl _) ?_; intro w1 hown1 hgrow1) | (at_builtin; refine wpList_append_r _ rfl _ _ 22 rfl w.heap.size 5 i0 (.int .u8 0) 1 Try.underlying22 hi hz0 hz1 hz2 rfl _ _ _ rfl hown1 (Value.int .u8) _ l rfl (hr0.below (bl_grown (bl_refl w) hgrow1 (by simp))) (by intros; rfl) (by simp; exact hm) (by simp; omega) (by have := hgrow1.size; omega) ?_; intro u w2 hown hgrow _; have hB2 : Below w.heap.size w w2 := bl_grown (bl_grown (bl_refl w) hgrow1 (by simp)) hgrow (owns_row_ge hown1); clear hgrow; obtain ⟨ao1, cap1, rfl⟩ := owns_slice hown))
  simp only [Nat.zero_add, List.nil_append] at hown
  clear hgrow1 hown1
  have hG := Reads.of_owns hown hm
  have hfar : ∀ k, (Value.slice ao1 l.length cap1).ownBlock = some k → k < w2.heap.size := fun k hk => (hown.lt k hk).2
  refine (put_any _ l N s _ hG (by omega)).mono ?_
  rintro e w3 ⟨u, rfl, hu, hb3⟩
  have hPm : (putV l N s).length ≤ maxLen := by have := putV_le l N s; unfold maxLen; omega
  have hPle := putV_le l N s
  obtain ⟨ao2, cap2, rfl⟩ := owns_slice hu
  have hU := Reads.of_owns hu hPm
  have hUb := owns_row_ge hu
  go_wp2_with fail
  refine (rput_any _ l N s hN.out _ ((hr0.below hB2).below hb3) (by omega)).mono ?_
  rintro e w4 ⟨u4, rfl, hu4, hb4⟩
  obtain ⟨ao4, cap4, rfl⟩ := owns_slice hu4
  have hU4 := Reads.of_owns hu4 hPm
  have hU4b := owns_row_ge hu4
  have hU := hU.below hb4
  have hB4 := bl_trans (bl_trans hB2 hb3) hb4
  have hO4 := owns_below (owns_below hown hb3) hb4
  have hs3 := hb3.size
  clear hown hG hu hu4 hr0 hb3 hb4 hB2
  go_wp2_with fail
  go_loopw [12] (fun k wr => ∃ (i : Nat) (xs : List Int), i ≤ l.length ∧ k = .int .i64 i ∧ Hid (xs.length = l.length ∧ ∀ n ∈ xs, (Lit.int .u8 n).wf = true) ∧ wr.ownsRow w.heap.size 5 1 (.slice ao1 l.length cap1) l.length (xs.map (Value.int .u8)) ∧ Below w.heap.size w wr ∧ Reads (Value.int .u8) wr (.slice ao2 (putV l N s).length cap2) (putV l N s) ∧ Reads (Value.int .u8) wr (.slice ao4 (putV l N s).length cap4) (putV l N s))
    (fun k _ => l.length - (intOf k).toNat)
  case atStart => exact ⟨0, l, by omega, rfl, ⟨rfl, hw.out⟩, hO4, hB4, hU, hU4⟩
  case round =>
    clear hO4 hB4 hU hU4
    obtain ⟨i, xs, hile, rfl, hxs, hO, hB, hU, hU4⟩ := hrel
    by_cases hlt : i < l.length
    · obtain ⟨g, rfl, hg1, hg2⟩ := slice_own hO (by omega)
      obtain ⟨x, hx⟩ := get_some (xs := xs) (k := i) (by have := hxs.out.1; omega)
      have hxw := turned_wf (hxs.out.2 x (List.mem_of_getElem? hx))
      have hc : wr.cell? ⟨g, i, none⟩ = some (.int .u8 x) := by rw [hO.cellAt i (by omega), List.getElem?_map, hx]; rfl
      have hz := hO.frozenAt i
      have hst := hO.stored i (.int .u8 (255 - x))
      have hxs2 : Hid ((xs.set i (255 - x)).length = l.length ∧ ∀ n ∈ xs.set i (255 - x), (Lit.int .u8 n).wf = true) := by
        refine ⟨by rw [List.length_set]; exact hxs.out.1, fun n hn => ?_⟩
        rcases List.mem_or_eq_of_mem_set hn with h | h
        · exact hxs.out.2 n h
        · rw [h]; exact hxw.2
      rw [show (Value.int .u8 (255 - x)) = (Value.int .u8) (255 - x) from rfl, ← List.map_set] at hst
      have HST := Lib.hid hst
      have hgl := hfar g rfl
      have hwx := hxw.1
      clear hst hxw hx hxs
      go_wp2
      go_roundw
      case rel =>
        exact ⟨i + 1, xs.set i (255 - x), by omega, by go_num, hxs2, HST.out.1, bl_frm hB (Frm.setCell (Frm.refl [g] wr) (p := ⟨g, i, none⟩) (by simp) _) (by simp; omega), reads_kept hU hUb hgl rfl, reads_kept hU4 (fun k hk => Nat.le_trans hs3 (hU4b k hk)) hgl rfl⟩
      case measure => simp [intOf]; omega
    · have hi2 : i = l.length := by omega
      have c1 := conv_reads hU
      have c2 := conv_reads hU4
      clear hfar hO
      go_wp2_with fail
      refine (awake_any _).mono ?_
      rintro e w' ⟨rfl, hb⟩
      go_wp2
      go_ret
      exact ⟨rfl, bl_trans hB hb⟩

end Go.Proofs.Ytphafaohicageaa
