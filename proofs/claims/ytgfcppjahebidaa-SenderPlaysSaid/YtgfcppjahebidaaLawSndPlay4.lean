/- portagelaw07.play where a payload is pushed. Conditions: as they stand. -/
import Derived.WalkKit
import Derived.Lib.Hide
import Derived.BigQuiet
import Derived.Handy
import Derived.Test.YtgfcppjahebidaaLawSndPlay3
namespace Go.Proofs.Ytgfcppjahebidaa
open Go.RowKit

theorem owns_bl {w w' : World} {base : Nat} {e : TypeId} {s : Nat} {v : Value} {n : Nat} {xs : List Value} (h : w.ownsRow base e s v n xs) (hb : Below w.heap.size w w') : w'.ownsRow base e s v n xs := owns_fr (F := fun _ => False) h (.of_below hb) (fun _ _ h => h)
theorem push_bad_same (s : Snd) (p : List Int) (h : s.pushE p ≠ 0) : s.push p = s := by unfold Snd.push; rw [if_neg h]
/-- The reference's Push. -/
theorem rpush_any (R : Nat → Prop) (s : Snd) (v u : Value) (p : List Int) (w : World) (hP : Pays R w v s.ps) (hr : Reads (Value.int .u8) w u p) (hw : ∀ n ∈ p, (Lit.int .u8 n).wf = true) :
    Calls Try.prog 31 #[refV s v, u] w fun e w' => ∃ v', e = .returned (.tuple #[refV (s.push p) v', .int .i64 (s.pushE p)]) ∧ Pays (fun k => R k ∨ (w.heap.size ≤ k ∧ k < w'.heap.size)) w' v' (s.push p).ps ∧ Below w.heap.size w w' := by
  by_cases hE : s.pushE p = 0
  · rw [hE]
    exact rpush_ok R s v u p w hP hr hw hE
  · refine (rpush_bad R s v u p w hP hr hE).mono ?_
    rintro e w' ⟨rfl, hb⟩
    rw [push_bad_same s p hE]
    exact ⟨v, rfl, (hP.below hb).mono (fun k hk => .inl hk), hb⟩

set_option maxRecDepth 100000 in
set_option maxHeartbeats 1000000 in
theorem play_push (w0 : World) (g : Nat) (X : Nat → Obj → Prop) (s : Snd) (v : Value) (n : Int) (u : Value) (p : List Int) (w : World) (hD : Duo w0 g X s v w) (hr : Reads (Value.int .u8) w u p) (hw : ∀ n ∈ p, (Lit.int .u8 n).wf = true) (hle : p.length ≤ 140737488351232) :
    Calls Try.prog 23 #[.pointer (some ⟨g, 0, none⟩), refV s v, .agg #[.int .i64 0, .int .i64 n, u]] w fun e w' => ∃ v', e = .returned (.tuple #[refV (s.push p) v', .bool true]) ∧ Duo w0 g X (s.push p) v' w' := by
  obtain ⟨po, pc, rfl⟩ : ∃ po pc, u = .slice po p.length pc := by
    obtain ⟨_, po, pc, h, _⟩ := hr
    exact ⟨po, pc, h⟩
  obtain ⟨ao, cap, rfl⟩ : ∃ ao cap, v = .slice ao s.ps.length cap := by
    obtain ⟨F, R, _, _, hp, _⟩ := hD
    obtain ⟨ao, cap, h, _⟩ := hp.form
    exact ⟨ao, cap, h⟩
  obtain ⟨W0, hW0⟩ : ∃ W0, ((w.alloc (.cells #[.int .i64 s.size, .int .i64 s.base, .slice ao s.ps.length cap, .int .i64 s.under] 51)).alloc (.cells #[.int .i64 0, .int .i64 n, .slice po p.length pc] 40)).alloc (.cells #[.int .i64 0, .int .i64 0, .slice none 0 0, .int .i64 0] 51) = W0 := ⟨_, rfl⟩
  have hB0 : Below w.heap.size w W0 := by rw [← hW0]; exact bl_alloc (bl_alloc (bl_alloc (bl_refl w) _) _) _
  have hxA : W0.heap[w.heap.size]? = some (.cells #[.int .i64 s.size, .int .i64 s.base, .slice ao s.ps.length cap, .int .i64 s.under] 51 (0, 0)) := by rw [← hW0]; exact kept_alloc (kept_alloc (heap_alloc_new w _) _) _
  have hxC : W0.heap[w.heap.size + 1]? = some (.cells #[.int .i64 0, .int .i64 n, .slice po p.length pc] 40 (0, 0)) := by
    rw [← hW0]
    refine kept_alloc ?_ _
    have := heap_alloc_new (w.alloc (.cells #[.int .i64 s.size, .int .i64 s.base, .slice ao s.ps.length cap, .int .i64 s.under] 51)) (.cells #[.int .i64 0, .int .i64 n, .slice po p.length pc] 40)
    simpa using this
  obtain ⟨a0, a1, a2, a3⟩ := cells_of4 hxA
  have e0 : W0.cell? ⟨w.heap.size + 1, 0, none⟩ = some (.int .i64 0) := by rw [cell_of_row _ _ _ _ _ _ hxC]; rfl
  have e2 : W0.cell? ⟨w.heap.size + 1, 2, none⟩ = some (.slice po p.length pc) := by rw [cell_of_row _ _ _ _ _ _ hxC]; rfl
  have e2' := below_cell (bl_alloc (bl_refl W0) (.cells #[] 5)) e2
  have hxZ : W0.heap[w.heap.size + 1 + 1]? = some (.cells #[.int .i64 0, .int .i64 0, .slice none 0 0, .int .i64 0] 51 (0, 0)) := by
    rw [← hW0]
    have := heap_alloc_new ((w.alloc (.cells #[.int .i64 s.size, .int .i64 s.base, .slice ao s.ps.length cap, .int .i64 s.under] 51)).alloc (.cells #[.int .i64 0, .int .i64 n, .slice po p.length pc] 40)) (.cells #[.int .i64 0, .int .i64 0, .slice none 0 0, .int .i64 0] 51)
    simpa using this
  obtain ⟨F, R, hF, hsw, hpw, hR, hB, hX⟩ := hD
  have hFg := hsw.2.1
  have hs := hsw.below hB0
  have hp := hpw.below hB0
  have hFw := hsw.1
  have hgw := hFw g hsw.2.1
  have hr0 := hr.below hB0
  have hr0' := hr0.below (bl_alloc (bl_refl W0) (.cells #[] 5))
  obtain ⟨i0, hi, hz0, hz1, hz2⟩ := info_parts infoByte'
  have P1 : 0 + p.length ≤ maxLen := by simp only [maxLen]; omega
  have P2 : (0 + p.length) * 1 ≤ 140737488355328 := by omega
  have A3 : W0.heap.size ≤ (W0.alloc (.cells #[] 5)).heap.size := by simp
  have hf1 : Hid (W0.heap.size = w.heap.size + 3) := by rw [← hW0]; show _ = _; simp
  have hw0 := lt_of_get hxZ
  unfold refV
  go_enter Try.func23, Try.ntmps23
  go_wp2_with (at_builtin; refine wpList_append_r _ rfl _ _ 28 rfl W0.heap.size 5 i0 (.int .u8 0) 1 Try.underlying28 hi hz0 hz1 hz2 rfl _ _ _ rfl (owns_empty W0 5 (Nat.le_refl _)) (Value.int .u8) _ p rfl hr0' (by intros; rfl) P1 P2 A3 ?_; intro l1 W1 hO1 hg1 hne1; have hb1 : Below W0.heap.size W0 W1 := bl_grown (bl_alloc (bl_refl W0) _) hg1 (by intro k hk; cases hk; exact Nat.le_refl _); obtain ⟨q0, q1, q2, q3⟩ := cells_of4 (bl_get hb1 hxA); have q4 : W1.cell? ⟨w.heap.size + 1, 2, none⟩ = some (.slice po p.length pc) := by rw [cell_of_row _ _ _ _ _ _ (bl_get hb1 hxC)]; rfl)
  simp only [Nat.zero_add, List.nil_append] at hO1
  obtain ⟨lo, lc, rfl⟩ := owns_form' hO1
  have hp1 := hp.below hb1
  have hs1 := hs.below hb1
  have hr1 := hr0.below hb1
  have hxZ1 := bl_get hb1 hxZ
  have hsz1 := hb1.size
  have hlt1 : ∀ k, (Value.slice lo p.length lc).ownBlock = some k → W0.heap.size ≤ k ∧ k < W1.heap.size := fun k hk => hO1.lt k hk
  clear a0 a1 a2 a3 e0 e2 e2' hg1 hne1 hr0' P1 P2 A3 q0 q1 q2 q3 q4 hxA hxC
  have hv := rpush_any R s (.slice ao s.ps.length cap) (.slice po p.length pc) p W1 hp1 hr1 hw
  unfold refV at hv
  refine hv.mono ?_
  rintro e w2 ⟨v', rfl, hv', hb2⟩
  obtain ⟨vo, vc, rfl, _⟩ := hv'.form
  have hO2 := owns_bl hO1 hb2
  go_wp2_with fail
  refine (spush_any (fun k => F k) g s (.slice lo p.length lc) p _ ((hs1.below hb2).below (bl_alloc (bl_refl w2) _)) (Reads.of_owns (owns_bl hO2 (bl_alloc (bl_refl w2) _)) (by simp only [maxLen]; omega)) hw).mono ?_
  rintro e w3 ⟨rfl, hs3, hF3⟩
  have hO3 := owns_fr (owns_bl hO2 (bl_alloc (bl_refl w2) (.cells #[.int .i64 (s.push p).size, .int .i64 (s.push p).base, .slice vo (s.push p).ps.length vc, .int .i64 (s.push p).under] 51))) hF3 (fun k hk (e : k = g) => by have := (hlt1 k hk).1; have := hf1.out; omega)
  have hw2 := hb2.size
  have hbox := hF3.get (heap_alloc_new w2 (.cells #[.int .i64 (s.push p).size, .int .i64 (s.push p).base, .slice vo (s.push p).ps.length vc, .int .i64 (s.push p).under] 51)) (fun h => by have h : _ = g := h; have := hf1.out; omega)
  have zZ := hF3.get (kept_alloc (bl_get hb2 hxZ1) (.cells #[.int .i64 (s.push p).size, .int .i64 (s.push p).base, .slice vo (s.push p).ps.length vc, .int .i64 (s.push p).under] 51)) (fun h => by have h : _ = g := h; omega)
  have hp3 := (hv'.below (bl_alloc (bl_refl w2) (.cells #[.int .i64 (s.push p).size, .int .i64 (s.push p).base, .slice vo (s.push p).ps.length vc, .int .i64 (s.push p).under] 51))).fr hF3 (fun k hk (e : k = g) => by
    rcases hk with hk | hk
    · exact (hR k hk).2 (e ▸ hsw.2.1)
    · have := hf1.out; omega)
  have hh3 : Fr (fun k => k = g) w w3 := (Fr.of_below (bl_alloc (bl_trans (bl_trans hB0 hb1) hb2) _)).trans hF3 (fun k h => .inl h)
  have hBt : Below w0.heap.size w0 w3 := bl_fr (bl_alloc (bl_trans (bl_trans (bl_trans hB hB0) hb1) hb2) _) hF3 (fun k hk => by have hk : k = g := hk; subst hk; exact hF _ hsw.2.1)
  have hBw := hB.size
  have hfar : ∀ k, (Value.slice lo p.length lc).ownBlock = some k → w.heap.size + 3 ≤ k ∧ k < W1.heap.size := fun k hk => ⟨by have := (hlt1 k hk).1; have := hf1.out; omega, (hlt1 k hk).2⟩
  have hf1' := hf1.out
  have hszA : (w2.alloc (.cells #[.int .i64 (s.push p).size, .int .i64 (s.push p).base, .slice vo (s.push p).ps.length vc, .int .i64 (s.push p).under] 51)).heap.size = w2.heap.size + 1 := by simp
  have hsz23 : w2.heap.size + 1 ≤ w3.heap.size := by have := hF3.size; omega
  have hs3' := hs3
  rw [hszA] at hs3'
  clear hv hv' hb1 hb2 hO1 hO2 hs hp hp1 hs1 hr0 hr1 hr hpw hF3 hB hs3 hxZ hxZ1 hlt1 hszA
  have HF1 := Lib.hid hf1'
  clear hf1'
  have hgw' := Lib.hid hgw
  have hw := Lib.hid hw
  go_wp2_with fail
  go_loopw [12] (fun kk wr => ∃ (i : Nat) (ys : List Int), i ≤ p.length ∧ kk = .int .i64 i ∧ Hid (ys.length = p.length ∧ ∀ n ∈ ys, (Lit.int .u8 n).wf = true) ∧ wr.ownsRow w0.heap.size 5 1 (.slice lo p.length lc) p.length (ys.map (Value.int .u8)) ∧
      wr.heap[w2.heap.size]? = some (.cells #[.int .i64 (s.push p).size, .int .i64 (s.push p).base, .slice vo (s.push p).ps.length vc, .int .i64 (s.push p).under] 51 (0, 0)) ∧
      wr.heap[w.heap.size + 1 + 1]? = some (.cells #[.int .i64 0, .int .i64 0, .slice none 0 0, .int .i64 0] 51 (0, 0)) ∧
      Below w0.heap.size w0 wr ∧ SndAt (fun k => F k ∨ (w2.heap.size + 1 ≤ k ∧ k < w3.heap.size)) wr g (s.push p) ∧ Pays (fun k => R k ∨ (W1.heap.size ≤ k ∧ k < w2.heap.size)) wr (.slice vo (s.push p).ps.length vc) (s.push p).ps ∧ w3.heap.size ≤ wr.heap.size ∧ Fr (fun k => k = g) w wr)
    (fun kk _ => p.length - (intOf kk).toNat)
  case atStart => exact ⟨0, p, by omega, rfl, ⟨rfl, hw.out⟩, owns_mono2 hO3 (by have := HF1.out; omega), hbox, zZ, hBt, hs3', hp3, Nat.le_refl _, hh3⟩
  case round =>
    clear hO3 hBt hs3' hp3 hbox zZ hh3
    obtain ⟨i, ys, hile, rfl, hys, hO, hbox, zZ, hBt, hs3, hp3, hsz3, hh3⟩ := hrel
    by_cases hlt : i < p.length
    · obtain ⟨b, rfl, hg1, hg2, hcap⟩ := own_slice' hO (by omega)
      obtain ⟨x, hx⟩ := get_some (xs := ys) (k := i) (by have := hys.out.1; omega)
      have hxw := turn_u8' (hys.out.2 x (List.mem_of_getElem? hx))
      have hc : wr.cell? ⟨b, i, none⟩ = some (.int .u8 x) := by rw [hO.cellAt i (by omega), List.getElem?_map, hx]; rfl
      have hz := hO.frozenAt i
      have hst := hO.stored i (.int .u8 (255 - x))
      have hys2 : Hid ((ys.set i (255 - x)).length = p.length ∧ ∀ n ∈ ys.set i (255 - x), (Lit.int .u8 n).wf = true) := set_wf' hys.out hxw.2
      rw [show (Value.int .u8 (255 - x)) = (Value.int .u8) (255 - x) from rfl, ← List.map_set] at hst
      have HST := Lib.hid hst
      have hgl := hfar b rfl
      have hwx := hxw.1
      clear hst hxw hx hys
      have HF : Fr (fun j => j = b) wr (wr.setCell ⟨b, i, none⟩ (.int .u8 (255 - x))) := fr_cell wr b i _
      go_wp2
      go_roundw
      case rel =>
        exact ⟨i + 1, ys.set i (255 - x), by omega, by go_num, hys2, HST.out.1, HF.get hbox (by omega), HF.get zZ (by omega), bl_fr hBt HF (by intro j hj; omega),
          hs3.fr HF (by intro j hj e; rcases hj with hj | hj; (have := hFw j hj; omega); omega), hp3.fr HF (by intro j hj e; rcases hj with hj | hj; (have := (hR j hj).1; omega); omega), Nat.le_trans hsz3 HF.size, hh3.trans HF (fun k h => .inr (by omega))⟩
      case measure => simp [intOf]; omega
    · have hi2 : i = p.length := by omega
      obtain ⟨b0, b1, b2, b3⟩ := cells_of4 hbox
      obtain ⟨z0, z1, z2, z3⟩ := cells_of4 zZ
      have f0 := frozen_of' (j := 0) zZ
      have f1 := frozen_of' (j := 1) zZ
      have f2 := frozen_of' (j := 2) zZ
      have f3 := frozen_of' (j := 3) zZ
      go_wp2_with fail
      have hW6 := set_four wr (w.heap.size + 1 + 1) _ _ _ _ (.int .i64 (s.push p).size) (.int .i64 (s.push p).base) (.slice vo (s.push p).ps.length vc) (.int .i64 (s.push p).under) _ zZ
      have hF6 := fr_four wr (w.heap.size + 1 + 1) (.int .i64 (s.push p).size) (.int .i64 (s.push p).base) (.slice vo (s.push p).ps.length vc) (.int .i64 (s.push p).under)
      generalize (((wr.setCell ⟨w.heap.size + 1 + 1, 0, none⟩ (.int .i64 (s.push p).size)).setCell ⟨w.heap.size + 1 + 1, 1, none⟩ (.int .i64 (s.push p).base)).setCell ⟨w.heap.size + 1 + 1, 2, none⟩ (.slice vo (s.push p).ps.length vc)).setCell ⟨w.heap.size + 1 + 1, 3, none⟩ (.int .i64 (s.push p).under) = W6 at hW6 hF6 ⊢
      clear b0 b1 b2 b3 z0 z1 z2 z3 f0 f1 f2 f3 zZ hbox
      obtain ⟨d0, d1, d2, d3⟩ := cells_of4 hW6
      have hsz6 := hF6.size
      have HF1' := HF1.out
      have hs3s := hs3.1
      refine bodyPost_ret (by simp [results, Try.results23, go_sem, d0, d1, d2, d3]; try rfl) rfl ?_
      exact ⟨_, rfl, _, _, fun k hk => by rcases hk with hk | hk; (exact hF k hk); omega, hs3.fr hF6 (fun k hk e => by rcases hk with hk | hk; (have := hFw k hk; omega); omega),
        hp3.fr hF6 (fun k hk e => by rcases hk with hk | hk; (have := (hR k hk).1; omega); omega), fun k hk => ⟨by rcases hk with hk | hk; (have := (hR k hk).1; omega); omega, fun h => by
          rcases hk with hk | hk
          · rcases h with h | h
            · exact (hR k hk).2 h
            · have := (hR k hk).1; omega
          · rcases h with h | h
            · have := hFw k h; omega
            · omega⟩, bl_fr hBt hF6 (fun k hk => by omega), boxes_keep hX (hh3.trans hF6 (fun k h => .inr (by omega))) hFg (fun k h => by rcases h with h | h; (exact .inl h); exact .inr (by omega)) (fun k h => by rcases h with h | h; (exact .inl h); exact .inr (by omega))⟩

end Go.Proofs.Ytgfcppjahebidaa
