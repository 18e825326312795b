/- The walk of the law WindowGoes. Conditions: none. -/
import Derived.RangeFuncNested
import Derived.RangeFuncBound
import Derived.RangeFuncCalls
import Derived.RangeFuncLeaves
import Derived.Shelf.Abstract
import Derived.Shelf.RegionOpen
import Derived.WalkKit
import Derived.OwnWalkIn
import Derived.TacticsInMore
import Derived.LoopNIn
import Derived.LoopIn
import Derived.Lib.Hide
import Derived.Test.YtchghjghkemamaaWinRefL
import Derived.Test.YtchghjghkemamaaWinAwake
import Derived.Test.YtchghjghkemamaaFrm
namespace Go.Proofs.Ytchghjghkemamaa
open Go.RowKit Go.Shelf
attribute [local go_sem] Oper.semAt_some
set_option linter.unusedVariables false

theorem fn_not_nil (p q : Value) (w : World) : (binOp BinOp.eql 27 (.func (.func 27) #[] #[p, q]) .nilFunc).run Try.prog w = .ok (.bool false) w := by kernel_rfl

theorem leave2 {tmps : Array Value} {w w3 : World} {r D D2 : Nat} (h6 : tmps.getD 6 undef = .pointer (some ⟨r, 0, none⟩)) (hrw : w.heap.size ≤ r) (hrD : r < D) (hDD : D < D2) (q0 : w3.heap[r]? = some (.cells #[.bool false] 4 (0, 0)))
    (e2 : w3.heap[D2]? = some (.deferred (some []))) (e1 : w3.heap[D]? = some (.deferred (some []))) (hb : Below w.heap.size w w3) :
    bodyPostM Fence.wide 9 Try.prog Try.f5 (fun e w' => e = .returned (.bool true) ∧ Below w.heap.size w w') .ret
      { tmps := tmps, defers := [{ target := .collected D2, args := #[] }, { target := .collected D, args := #[] }] } (w3.setCell ⟨r, 0, none⟩ (.bool true)) := by
  have f2 : (w3.setCell ⟨r, 0, none⟩ (.bool true)).heap[D2]? = some (.deferred (some [])) := (Below.heap_setCell _ _ _ _ (by simp; omega)).trans e2
  have f1 : ((w3.setCell ⟨r, 0, none⟩ (.bool true)).putObj D2 (.deferred none)).heap[D]? = some (.deferred (some [])) := (World.putObj_heap_other (by omega)).trans ((Below.heap_setCell _ _ _ _ (by simp; omega)).trans e1)
  have g0 : Boxed (w3.setCell ⟨r, 0, none⟩ (.bool true)) r 4 (.bool true) := Boxed.set _ q0
  have g1 : (((w3.setCell ⟨r, 0, none⟩ (.bool true)).putObj D2 (.deferred none)).putObj D (.deferred none)).heap[r]? = some (.cells #[.bool true] 4 (0, 0)) := (World.putObj_heap_other (by omega)).trans ((World.putObj_heap_other (by omega)).trans g0)
  have hb9 : Below w.heap.size w (((w3.setCell ⟨r, 0, none⟩ (.bool true)).putObj D2 (.deferred none)).putObj D (.deferred none)) := by
    have h1 : Frm [] w (w3.setCell ⟨r, 0, none⟩ (.bool true)) := (Frm.of_below hb).setCell' hrw _
    exact (frm_put (frm_put h1 _ (by omega) f2) _ (by omega) f1).below (by simp)
  refine ⟨by simp, .inl ⟨D2, _, rfl, run_takeDeferred f2, ⟨by simp, .inl ⟨D, _, rfl, run_takeDeferred f1, ?_⟩⟩⟩⟩
  have hc := Boxed.cell g1
  generalize ((w3.setCell ⟨r, 0, none⟩ (.bool true)).putObj D2 (.deferred none)).putObj D (.deferred none) = W9 at hc hb9 ⊢
  have h6' : tmps[6]?.getD undef = .pointer (some ⟨r, 0, none⟩) := by simpa using h6
  exact ⟨.bool true, by simp [results, Try.results5, go_sem, h6', hc], rfl, hb9⟩

set_option maxRecDepth 100000 in
set_option maxHeartbeats 2000000 in
theorem walkWindowGoes (base : Int) (_ : (Lit.int .i64 base).wf = true) (size : Int) (_ : (Lit.int .i64 size).wf = true) (stop : Int) (_ : (Lit.int .i64 stop).wf = true) (w : World) :
    Calls Try.prog 5 #[.int .i64 base, .int .i64 size, .int .i64 stop] w fun e w' => e = .returned (.bool true) ∧ Below w.heap.size w w' := by
  have hfn := fn_not_nil
  refine (callsIn_wide (n := 9)).1 ?_
  refine callsIn_of_wp_marks Try.func5 rfl trivial ?_ rfl
  simp only [Try.ntmps5, List.size_toArray, List.length_cons, List.length_nil, Nat.reduceAdd, Nat.reduceSub, Array.replicate_succ, Array.replicate_zero, List.push_toArray, List.append_toArray, List.nil_append, List.cons_append]
  have hwl : (win base (winLen size)).length = winLen size := win_length _ _
  have hre := reach_any base size
  have hst := fun n hn B0 B1 w => each_stops n hn B0 B1 base size w
  have hN := winLen_le size
  obtain ⟨ww, hww⟩ : ∃ ww, win base (winLen size) = ww := ⟨_, rfl⟩
  rw [hww] at hwl hre hst
  obtain ⟨N, hNN⟩ : ∃ N, winLen size = N := ⟨_, rfl⟩
  rw [hNN] at hwl hst hN
  have hlen : (vals ww).length = N := by simp [vals, hwl]
  have HRE := Lib.hid hre
  have HST := Lib.hid hst
  have HLEN := Lib.hid hlen
  have HWL := Lib.hid hwl
  clear hre hst hwl hww hNN
  gi_wp2_with fail
  refine ⟨trivial, ?_⟩
  refine (callsIn_wide.2 (each_in _ _ _)).mono ?_
  rintro e w' ⟨rfl, rfl⟩
  obtain ⟨V, hV, vS, vR, vB, vZ, vsz, vb⟩ := four_blocks w (.cells #[.int .i64 stop] 3) (.cells #[.bool false] 4) (.cells #[.int .i64 base] 3) (.cells #[.int .i64 size] 3)
  rw [World.size_alloc, World.size_alloc, hV]
  gi_wp2_with fail
  refine ⟨trivial, ?_⟩
  refine (callsIn_wide.2 (HRE.out _)).mono ?_
  rintro e w1 ⟨u, rfl, hown, hb⟩
  have hu : Reads (Value.int .i64) w1 u (vals ww) := Reads.of_owns hown (by unfold maxLen; omega)
  have hub : ∀ k, u.ownBlock = some k → V.heap.size ≤ k ∧ k < w1.heap.size := hown.lt
  obtain ⟨_, ao, cap, rfl, _, hcu⟩ := hu
  clear hown HRE
  rw [hlen] at hub ⊢
  gi_wp2_with fail
  obtain ⟨hW, hNb, hsz0, hb0⟩ := two_blocks w1 (.cells #[.slice ao N cap] 29) (.cells #[.int .i64 0] 3)
  obtain ⟨W0, hW0⟩ : ∃ W0, ((w1.alloc (.cells #[.slice ao N cap] 29)).alloc (.cells #[.int .i64 0] 3)) = W0 := ⟨_, rfl⟩
  rw [hW0] at hW hNb hsz0 hb0 ⊢
  have hbl : Below w.heap.size w W0 := bl_trans (bl_trans vb hb) hb0
  have hS := bl_get hb0 (bl_get hb vS)
  have hR := bl_get hb0 (bl_get hb vR)
  have hBb := bl_get hb0 (bl_get hb vB)
  have hZ := bl_get hb0 (bl_get hb vZ)
  have hv1 : w.heap.size + 4 ≤ w1.heap.size := by have := hb.size; omega
  have hcw : ∀ (i : Nat) x, ww[i]? = some x → ∃ b o, ao = some ⟨b, o, none⟩ ∧ W0.cell? ⟨b, o + i, none⟩ = some (.int .i64 x.1) := by
    intro i x hx
    obtain ⟨b, o, h1, h2⟩ := hcu i x.1 (by simp [vals, hx])
    exact ⟨b, o, h1, below_cell hb0 h2⟩
  have hao : ∀ b o, ao = some ⟨b, o, none⟩ → b < w1.heap.size := by
    rintro b o rfl; exact (hub b rfl).2
  clear hcu vS vR vB vZ hV hW0 hub hb0 hb vb vsz hfn
  rename_i K hK
  have rest : ∀ (D : Nat) (nn : Int) (W : World), W0.heap.size ≤ D → Frm [w1.heap.size + 1] W0 W → W.heap[w1.heap.size + 1]? = some (.cells #[.int .i64 nn] 3 (0, 0)) → (nn = (N : Int) ∨ nn = stop) → W.heap[D]? = some (.deferred (some [])) →
      K { tmps := #[.int .i64 base, .int .i64 size, .int .i64 stop, undef, undef, .pointer (some ⟨w.heap.size, 0, none⟩), .pointer (some ⟨w.heap.size + 1, 0, none⟩), Value.func (Fn.func 27) #[] #[.pointer (some ⟨w.heap.size + 3, 0, none⟩), .pointer (some ⟨w.heap.size + 2, 0, none⟩)], .pointer (some ⟨w1.heap.size, 0, none⟩), .pointer (some ⟨w1.heap.size + 1, 0, none⟩), undef, undef, undef, .int .i64 base, .int .i64 size, Value.func (Fn.func 27) #[] #[.pointer (some ⟨w.heap.size + 3, 0, none⟩), .pointer (some ⟨w.heap.size + 2, 0, none⟩)], .int .i64 base, .int .i64 size, .slice ao N cap, Value.func (Fn.func 27) #[] #[.pointer (some ⟨w.heap.size + 3, 0, none⟩), .pointer (some ⟨w.heap.size + 2, 0, none⟩)], .bool false, Value.func (Fn.func 27) #[] #[.pointer (some ⟨w.heap.size + 3, 0, none⟩), .pointer (some ⟨w.heap.size + 2, 0, none⟩)], undef, undef, undef, undef, undef, undef, undef, undef, undef, undef, undef, undef, undef, undef, undef, undef, undef, undef, undef, undef, undef, undef, undef, undef, undef, undef, undef, undef, undef, undef, undef, undef, undef, undef, undef, undef, undef, undef, undef, undef, undef, undef, undef, undef, undef, undef, undef, undef, undef, undef, undef, undef], defers := [{ target := .collected D, args := #[] }] } W := by
    intro D nn W hD hF hn hor hdef
    have hDW := lt_of_get hdef
    have hWs := hF.size
    refine hK _ _ ?_
    clear hK
    have n1 := Boxed.cell hn
    have s1 := Boxed.cell (hF.get hS (by simp; omega))
    have w1c := Boxed.cell (hF.get hW (by simp))
    gi_wp2_with fail
    have hk0 : (W.alloc (.cells #[.int .i64 0] 3)).heap[W.heap.size]? = some (.cells #[.int .i64 0] 3 (0, 0)) := heap_alloc_new _ _
    have hsz1 : (W.alloc (.cells #[.int .i64 0] 3)).heap.size = W.heap.size + 1 := by simp
    have hFa : Frm [w1.heap.size + 1] W0 (W.alloc (.cells #[.int .i64 0] 3)) := hF.alloc _
    have hna := kept_alloc hn (.cells #[.int .i64 0] 3)
    have hda := kept_alloc hdef (.cells #[.int .i64 0] 3)
    obtain ⟨W1, hW1⟩ : ∃ W1, W.alloc (.cells #[.int .i64 0] 3) = W1 := ⟨_, rfl⟩
    rw [hW1] at hk0 hsz1 hFa hna hda ⊢
    clear hW1 n1 s1 w1c hn hF hdef
    rename_i K2 hK2
    have rest2 : ∀ (D2 : Nat) (W2 : World), W1.heap.size ≤ D2 → Frm [W.heap.size] W1 W2 → W2.heap[W.heap.size]? = some (.cells #[.int .i64 (N : Int)] 3 (0, 0)) → W2.heap[D2]? = some (.deferred (some [])) →
        K2 { tmps := #[.int .i64 base, .int .i64 size, .int .i64 stop, undef, undef, .pointer (some ⟨w.heap.size, 0, none⟩), .pointer (some ⟨w.heap.size + 1, 0, none⟩), Value.func (Fn.func 27) #[] #[.pointer (some ⟨w.heap.size + 3, 0, none⟩), .pointer (some ⟨w.heap.size + 2, 0, none⟩)], .pointer (some ⟨w1.heap.size, 0, none⟩), .pointer (some ⟨w1.heap.size + 1, 0, none⟩), undef, .pointer (some ⟨W.heap.size, 0, none⟩), undef, .int .i64 base, .int .i64 size, Value.func (Fn.func 27) #[] #[.pointer (some ⟨w.heap.size + 3, 0, none⟩), .pointer (some ⟨w.heap.size + 2, 0, none⟩)], .int .i64 base, .int .i64 size, .slice ao N cap, Value.func (Fn.func 27) #[] #[.pointer (some ⟨w.heap.size + 3, 0, none⟩), .pointer (some ⟨w.heap.size + 2, 0, none⟩)], .bool false, Value.func (Fn.func 27) #[] #[.pointer (some ⟨w.heap.size + 3, 0, none⟩), .pointer (some ⟨w.heap.size + 2, 0, none⟩)], undef, undef, undef, undef, undef, undef, undef, undef, undef, undef, undef, undef, undef, undef, undef, undef, undef, undef, Value.func (Fn.func 27) #[] #[.pointer (some ⟨w.heap.size + 3, 0, none⟩), .pointer (some ⟨w.heap.size + 2, 0, none⟩)], undef, undef, undef, undef, undef, undef, undef, undef, undef, undef, undef, undef, undef, undef, undef, undef, undef, undef, undef, undef, undef, undef, undef, undef, undef, undef, undef, undef, undef, undef, undef, undef, undef], defers := [{ target := .collected D2, args := #[] }, { target := .collected D, args := #[] }] } W2 := by
      intro D2 W2 hD2 hF2 hk2 hdef2
      have hW2s := hF2.size
      refine hK2 _ _ ?_
      clear hK2
      have k1 := Boxed.cell hk2
      have n1 := Boxed.cell (hF2.get hna (by simp; omega))
      have s1 := Boxed.cell (hF2.get (hFa.get hS (by simp; omega)) (by simp; omega))
      have w1c := Boxed.cell (hF2.get (hFa.get hW (by simp)) (by simp; omega))
      have r0 := hF2.get (hFa.get hR (by simp; omega)) (by simp; omega)
      have d1 := hF2.get hda (by simp; omega)
      have hbel : Below w.heap.size w W2 := bl_frm (bl_frm hbl hFa (by simp; omega)) hF2 (by simp; omega)
      by_cases hnN : nn = (N : Int)
      · have hb : (nn == (N : Int)) = true := by simpa using hnN
        clear hnN hor
        gi_wp2_with fail
        refine ⟨trivial, ?_⟩
        refine (callsIn_wide.2 (awake_any _)).mono ?_
        rintro e w3 ⟨rfl, hb3⟩
        have hw3 := hb3.size
        have q0 := bl_get hb3 r0
        have q1 := Boxed.cell q0
        have q2 := Boxed.frozen q0
        have e2 := bl_get hb3 hdef2
        have e1 := bl_get hb3 d1
        clear hb hcw hao w1c s1 n1 k1
        gi_wp2
        exact leave2 rfl (by omega) (by omega) (by omega) q0 e2 e1 (bl_trans hbel hb3)
      · have hb : (nn == (N : Int)) = false := by simpa using hnN
        have hb2 : (nn == stop) = true := by rcases hor with h | h; exact absurd h hnN; simpa using h
        clear hnN hor
        gi_wp2_with fail
        refine ⟨trivial, ?_⟩
        refine (callsIn_wide.2 (awake_any _)).mono ?_
        rintro e w3 ⟨rfl, hb3⟩
        have hw3 := hb3.size
        have q0 := bl_get hb3 r0
        have q1 := Boxed.cell q0
        have q2 := Boxed.frozen q0
        have e2 := bl_get hb3 hdef2
        have e1 := bl_get hb3 d1
        clear hb hb2 hcw hao w1c s1 n1 k1
        gi_wp2
        exact leave2 rfl (by omega) (by omega) (by omega) q0 e2 e1 (bl_trans hbel hb3)
    clear hK2
    refine wpIn_rangeFunc_ownG rfl (by decide) (gf := 27) (lb := #[.pointer (some ⟨w.heap.size + 3, 0, none⟩), .pointer (some ⟨w.heap.size + 2, 0, none⟩)]) rfl trivial (enters_of Try.func27 (by kernel_rfl) rfl)
      (HST.out 8 (by decide) (w.heap.size + 2) (w.heap.size + 3) W1 (Boxed.cell (hFa.get hBb (by simp; omega))) (Boxed.cell (hFa.get hZ (by simp; omega)))) KeepB.trans (keepB_put (by omega)) (Below.refl _ _) (fun _ => rfl)
      (fun pre Wx => Frm [W.heap.size] W1 Wx ∧ Wx.heap[W.heap.size]? = some (.cells #[.int .i64 (pre.length : Int)] 3 (0, 0)))
      (fun c pre _ => c = .ret ∧ ¬ pre <+: ww)
      (OwnFrom.and (ownFrom_frm (Nat.le_refl _)) (Own.from (cells_own _ (fun pre : List N7 => .cells #[.int .i64 (pre.length : Int)] 3 (0, 0)) (fun _ => rfl)) _))
      (fun _ _ _ _ _ hs _ _ => hs)
      ⟨Frm.refl _ _, hk0⟩
      (fun x => { tmps := #[.int .i64 base, .int .i64 size, .int .i64 stop, undef, undef, .pointer (some ⟨w.heap.size, 0, none⟩), .pointer (some ⟨w.heap.size + 1, 0, none⟩), Value.func (Fn.func 27) #[] #[.pointer (some ⟨w.heap.size + 3, 0, none⟩), .pointer (some ⟨w.heap.size + 2, 0, none⟩)], .pointer (some ⟨w1.heap.size, 0, none⟩), .pointer (some ⟨w1.heap.size + 1, 0, none⟩), undef, .pointer (some ⟨W.heap.size, 0, none⟩), .int .i64 x.1, .int .i64 base, .int .i64 size, Value.func (Fn.func 27) #[] #[.pointer (some ⟨w.heap.size + 3, 0, none⟩), .pointer (some ⟨w.heap.size + 2, 0, none⟩)], .int .i64 base, .int .i64 size, .slice ao N cap, Value.func (Fn.func 27) #[] #[.pointer (some ⟨w.heap.size + 3, 0, none⟩), .pointer (some ⟨w.heap.size + 2, 0, none⟩)], .bool false, Value.func (Fn.func 27) #[] #[.pointer (some ⟨w.heap.size + 3, 0, none⟩), .pointer (some ⟨w.heap.size + 2, 0, none⟩)], undef, undef, undef, undef, undef, undef, undef, undef, undef, undef, undef, undef, undef, undef, undef, undef, undef, undef, Value.func (Fn.func 27) #[] #[.pointer (some ⟨w.heap.size + 3, 0, none⟩), .pointer (some ⟨w.heap.size + 2, 0, none⟩)], .int .i64 x.1, undef, undef, undef, undef, undef, undef, undef, undef, undef, undef, undef, undef, undef, undef, undef, undef, undef, undef, undef, undef, undef, undef, undef, undef, undef, undef, undef, undef, undef, undef, undef, undef], defers := [] }) ?assign2 ?body2 ?done2 ?stop2
    case assign2 =>
      intro r x W K hK
      gi_wp2
      exact hK
    case body2 =>
      rintro r pre x Wx ⟨hF2, hk2⟩ hlt
      have hW2s := hF2.size
      have hltN : (pre.length : Int) < (N : Int) := by omega
      have k1 := Boxed.cell hk2
      have k2 := Boxed.frozen hk2
      have w1c := Boxed.cell (hF2.get (hFa.get hW (by simp)) (by simp; omega))
      have r0 := hF2.get (hFa.get hR (by simp; omega)) (by simp; omega)
      have r1 := Boxed.cell r0
      have r2 := Boxed.frozen r0
      obtain ⟨y, hy⟩ : ∃ y, ww[pre.length]? = some y := get_some (by rw [HWL.out]; exact hlt)
      obtain ⟨b, o, rfl, hyc⟩ := hcw _ y hy
      have hyc := hF2.cell (hFa.cell hyc (by have := hao b o rfl; simp; omega)) (by have := hao b o rfl; simp; omega)
      have hy := Lib.hid hy
      clear hcw hao
      by_cases hxy : x.1 = y.1
      · have hb2 : (x.1 != y.1) = false := by simpa using hxy
        clear hxy
        gi_wp2
        refine ⟨(KeepsOthers.setCell _ _ _).from _, Below.heap_setCell _ _ _ _ (by simp; omega), hF2.setCell (by simp) _, ?_⟩
        rw [show ((pre ++ [x]).length : Int) = (pre.length : Int) + 1 by simp]
        exact Boxed.set _ hk2
      · have hb2 : (x.1 != y.1) = true := by simpa using hxy
        have hbad : Hid (¬ (pre ++ [x]) <+: ww) := by
          rintro ⟨t, ht⟩
          have h1 := hy.out
          rw [← ht] at h1
          simp at h1
          exact hxy (by rw [h1])
        clear hxy
        gi_wp2
        exact ⟨(KeepsOthers.setCell _ _ _).from _, rfl, hbad.out⟩
    case done2 =>
      rintro D2 ys W2 hD2 hys ⟨hF2, hk2⟩ hdd
      subst hys
      rw [HWL.out] at hk2
      exact rest2 D2 _ hD2 hF2 hk2 hdd
    case stop2 =>
      rintro D2 c pre W2 hD2 hpre ⟨_, h⟩ hdd
      exact absurd hpre h
  clear hK
  refine wpIn_rangeFunc_ownG rfl (by decide) (gf := 27) (lb := #[.pointer (some ⟨w.heap.size + 3, 0, none⟩), .pointer (some ⟨w.heap.size + 2, 0, none⟩)]) rfl trivial (enters_of Try.func27 (by kernel_rfl) rfl)
    (HST.out 8 (by decide) (w.heap.size + 2) (w.heap.size + 3) W0 (Boxed.cell hBb) (Boxed.cell hZ)) KeepB.trans (keepB_put (by omega)) (Below.refl _ _) (fun _ => rfl)
    (fun pre W => Frm [w1.heap.size + 1] W0 W ∧ W.heap[w1.heap.size + 1]? = some (.cells #[.int .i64 (pre.length : Int)] 3 (0, 0)))
    (fun c pre W => (c = .exit 0 ∧ Frm [w1.heap.size + 1] W0 W ∧ W.heap[w1.heap.size + 1]? = some (.cells #[.int .i64 stop] 3 (0, 0))) ∨ (c = .ret ∧ ¬ pre <+: ww))
    (OwnFrom.and (ownFrom_frm (Nat.le_refl _)) (Own.from (cells_own _ (fun pre : List N7 => .cells #[.int .i64 (pre.length : Int)] 3 (0, 0)) (fun _ => rfl)) _))
    (fun c s A B row hs hg hr => by
      rcases hs with ⟨h1, h2, h3⟩ | h
      · exact .inl ⟨h1, ownFrom_frm (β := Unit) (Nat.le_refl _) () A B row h2 hg hr, Own.from (cells_own _ (fun _ : Unit => .cells #[.int .i64 stop] 3 (0, 0)) (fun _ => rfl)) _ () A B row h3 hg hr⟩
      · exact .inr h)
    ⟨Frm.refl _ _, hNb⟩
    (fun x => { tmps := #[.int .i64 base, .int .i64 size, .int .i64 stop, undef, undef, .pointer (some ⟨w.heap.size, 0, none⟩), .pointer (some ⟨w.heap.size + 1, 0, none⟩), Value.func (Fn.func 27) #[] #[.pointer (some ⟨w.heap.size + 3, 0, none⟩), .pointer (some ⟨w.heap.size + 2, 0, none⟩)], .pointer (some ⟨w1.heap.size, 0, none⟩), .pointer (some ⟨w1.heap.size + 1, 0, none⟩), .int .i64 x.1, undef, undef, .int .i64 base, .int .i64 size, Value.func (Fn.func 27) #[] #[.pointer (some ⟨w.heap.size + 3, 0, none⟩), .pointer (some ⟨w.heap.size + 2, 0, none⟩)], .int .i64 base, .int .i64 size, .slice ao N cap, Value.func (Fn.func 27) #[] #[.pointer (some ⟨w.heap.size + 3, 0, none⟩), .pointer (some ⟨w.heap.size + 2, 0, none⟩)], .bool false, Value.func (Fn.func 27) #[] #[.pointer (some ⟨w.heap.size + 3, 0, none⟩), .pointer (some ⟨w.heap.size + 2, 0, none⟩)], .int .i64 x.1, undef, undef, undef, undef, undef, undef, undef, undef, undef, undef, undef, undef, undef, undef, undef, undef, undef, undef, undef, undef, undef, undef, undef, undef, undef, undef, undef, undef, undef, undef, undef, undef, undef, undef, undef, undef, undef, undef, undef, undef, undef, undef, undef, undef, undef, undef, undef, undef, undef, undef, undef], defers := [] }) ?assign ?body ?done ?stop
  case assign =>
    intro r x W K hK
    gi_wp2
    exact hK
  case body =>
    rintro r pre x W ⟨hF, hn⟩ hlt
    have hltN : (pre.length : Int) < (N : Int) := by omega
    have hWs := hF.size
    have n1 := Boxed.cell hn
    have n2 := Boxed.frozen hn
    have s1 := Boxed.cell (hF.get hS (by simp; omega))
    have r1 := Boxed.cell (hF.get hR (by simp; omega))
    have r2 := Boxed.frozen (hF.get hR (by simp; omega))
    have w1c := Boxed.cell (hF.get hW (by simp))
    obtain ⟨y, hy⟩ : ∃ y, ww[pre.length]? = some y := get_some (by rw [HWL.out]; exact hlt)
    obtain ⟨b, o, rfl, hyc⟩ := hcw _ y hy
    have hyc := hF.cell hyc (by have := hao b o rfl; simp; omega)
    have hy := Lib.hid hy
    clear hcw hao
    by_cases hst : (pre.length : Int) = stop
    · have hb : ((pre.length : Int) == stop) = true := by simpa using hst
      have hst := Lib.hid hst
      gi_wp2
      exact ⟨KeepsFrom.refl _ _, .inl ⟨rfl, hF, by rw [hn, hst.out]⟩⟩
    · have hb : ((pre.length : Int) == stop) = false := by simpa using hst
      clear hst
      by_cases hxy : x.1 = y.1
      · have hb2 : (x.1 != y.1) = false := by simpa using hxy
        clear hxy
        gi_wp2
        refine ⟨(KeepsOthers.setCell _ _ _).from _, Below.heap_setCell _ _ _ _ (by simp; omega), hF.setCell (by simp) _, ?_⟩
        rw [show ((pre ++ [x]).length : Int) = (pre.length : Int) + 1 by simp]
        exact Boxed.set _ hn
      · have hb2 : (x.1 != y.1) = true := by simpa using hxy
        have hbad : Hid (¬ (pre ++ [x]) <+: ww) := by
          rintro ⟨t, ht⟩
          have h1 := hy.out
          rw [← ht] at h1
          simp at h1
          exact hxy (by rw [h1])
        clear hxy
        gi_wp2
        exact ⟨(KeepsOthers.setCell _ _ _).from _, .inr ⟨rfl, hbad.out⟩⟩
  case done =>
    rintro D ys W hD hys ⟨hF, hn⟩ hK
    subst hys
    rw [HWL.out] at hn
    exact rest D _ W hD hF hn (.inl rfl) hK
  case stop =>
    rintro D c pre W hD hpre hx hK
    rcases hx with ⟨rfl, hF, hn⟩ | ⟨_, h⟩
    · gi_wp2
      exact rest D _ W hD hF hn (.inr rfl) hK
    · exact absurd hpre h

end Go.Proofs.Ytchghjghkemamaa
