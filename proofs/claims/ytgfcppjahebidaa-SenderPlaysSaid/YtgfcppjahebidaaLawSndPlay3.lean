/- portagelaw07.play where a payload is sent. Conditions: as they stand. -/
import Derived.WalkKit
import Derived.Lib.Hide
import Derived.BigQuiet
import Derived.Handy
import Derived.Test.YtgfcppjahebidaaLawSndPlay2
namespace Go.Proofs.Ytgfcppjahebidaa
open Go.RowKit

/-- Send where what is sent is a row of the call's own. -/
theorem ssend_own (F : Nat → Prop) (a : Nat) (s : Snd) (hok : s.Ok) (w : World) (hs : SndAt F w a s) :
    Calls Try.prog 13 #[.pointer (some ⟨a, 0, none⟩)] w fun e w' => ∃ u, e = .returned (.tuple #[.int .i64 s.sendN, u, .bool s.can]) ∧
      w'.ownsRow w.heap.size 5 1 u s.sendP.length (s.sendP.map (Value.int .u8)) ∧ (∀ n ∈ s.sendP, (Lit.int .u8 n).wf = true) ∧ SndAt F w' a s.send ∧ Fr (fun k => k = a) w w' := by
  obtain ⟨h1, h2, av, vs, D, hb, hA, hl, hav, hD, hp⟩ := hs
  obtain ⟨ao, cap, rfl, hcap, hcm, hnil⟩ := hA.form
  cases hc : s.can with
  | false =>
    have h : s.under = vs.length ∨ s.under = s.size := by
      have := hok.under1
      have := hok.under2
      simp only [Snd.can, Bool.and_eq_false_iff, decide_eq_false_iff_not] at hc
      omega
    refine (send_no a s.size s.base s.under vs.length ao cap w hb h).mono ?_
    rintro e w' ⟨rfl, hB⟩
    have e1 : s.sendN = 0 := by simp [Snd.sendN, hc]
    have e2 : s.sendP = [] := by simp [Snd.sendP, hc]
    have e3 : s.send = s := by simp [Snd.send, hc]
    rw [e1, e2, e3]
    exact ⟨.slice none 0 0, rfl, ⟨by simp, .inl ⟨rfl, rfl⟩⟩, fun n hn => by simp at hn, SndAt.below ⟨h1, h2, _, vs, D, hb, hA, hl, hav, hD, hp⟩ hB, .of_below hB⟩
  | true =>
    have hc' := hc
    simp only [Snd.can, Bool.and_eq_true, decide_eq_true_eq] at hc'
    obtain ⟨x, hx⟩ := get_some (xs := vs) (k := s.under) (by omega)
    obtain ⟨q, hq⟩ := get_some (xs := s.ps) (k := s.under) hc'.1
    obtain ⟨g, off, rfl, hcell⟩ := hA.at_ hx
    have hbq := hp _ x q hx hq
    have hpay := hok.pay q (List.mem_of_getElem? hq)
    refine (send_yes a s.size s.base s.under vs.length g off cap x q w hb (by omega) hc'.2 hcell (hbq.1.mono (fun k hk => (hD k hk).2)) (by have := hok.len; omega) hok.base hpay.2).mono ?_
    rintro e w' ⟨u, W, rfl, hF, hbW, hBW, hO⟩
    have e1 : s.sendN = (s.base + s.under) % 128 := by simp [Snd.sendN, hc]
    have e2 : s.sendP = q := by simp [Snd.sendP, hc, hq]
    have e3 : s.send = { s with under := s.under + 1 } := by simp [Snd.send, hc]
    rw [e1, e2, e3]
    have hs1 := hF.size
    refine ⟨u, rfl, owns_mono2 hO hs1, hbq.2, SndAt.below (w := W) ⟨fun k hk => by have := h1 k hk; omega, h2, _, vs, D, hbW, hA.fr hF (fun k hk => (hav k hk).2.1), hl, hav, hD, fun i x p hx hp' => (hp i x p hx hp').fr hF (fun k hk => (hD k hk).2)⟩ hBW, hF.then_below hBW⟩

theorem send_ps (s : Snd) : s.send.ps = s.ps := by unfold Snd.send; split <;> rfl
theorem turn_u8' {x : Int} (h : (Lit.int .u8 x).wf = true) : IntKind.u8.wrap (255 - x) = 255 - x ∧ (Lit.int .u8 (255 - x)).wf = true := by
  have := bounds_u8 h
  exact ⟨by rw [IntKind.wrap_u8]; omega, Go.WalkArith.wf_u8 (by omega)⟩
theorem own_slice' {w : World} {base : Nat} {e : TypeId} {s : Nat} {ao : Option Addr} {cap n : Nat} {xs : List Value} (h : w.ownsRow base e s (.slice ao n cap) n xs) (hn : 0 < n) : ∃ g, ao = some ⟨g, 0, none⟩ ∧ base ≤ g ∧ g < w.heap.size ∧ n ≤ cap := by
  rcases h.2 with ⟨h1, h0⟩ | ⟨g, cap, cur, h1, hb, hg, h2, _⟩
  · omega
  · cases h1
    exact ⟨g, rfl, hb, lt_of_get hg, h2⟩
/-- What a stored byte does to the list. -/
theorem set_wf' {xs : List Int} {n i : Nat} {x : Int} (h : xs.length = n ∧ ∀ y ∈ xs, (Lit.int .u8 y).wf = true) (hx : (Lit.int .u8 x).wf = true) : (xs.set i x).length = n ∧ ∀ y ∈ xs.set i x, (Lit.int .u8 y).wf = true := by
  refine ⟨by rw [List.length_set]; exact h.1, fun y hy => ?_⟩
  rcases List.mem_or_eq_of_mem_set hy with h1 | h1
  · exact h.2 y h1
  · rw [h1]; exact hx

set_option maxRecDepth 100000 in
set_option maxHeartbeats 1000000 in
theorem play_send (w0 : World) (g : Nat) (X : Nat → Obj → Prop) (s : Snd) (hok : s.Ok) (v : Value) (n : Int) (po : Option Addr) (pn pc : Nat) (w : World) (hD : Duo w0 g X s v w) :
    Calls Try.prog 23 #[.pointer (some ⟨g, 0, none⟩), refV s v, .agg #[.int .i64 1, .int .i64 n, .slice po pn pc]] w fun e w' => e = .returned (.tuple #[refV s.send v, .bool true]) ∧ Duo w0 g X s.send v w' := by
  obtain ⟨ao, cap, rfl⟩ : ∃ ao cap, v = .slice ao s.ps.length cap := by
    obtain ⟨F, R, _, _, hp, _⟩ := hD
    obtain ⟨ao, cap, h, _⟩ := hp.form
    exact ⟨ao, cap, h⟩
  obtain ⟨W0, hW0⟩ : ∃ W0, ((w.alloc (.cells #[.int .i64 s.size, .int .i64 s.base, .slice ao s.ps.length cap, .int .i64 s.under] 51)).alloc (.cells #[.int .i64 1, .int .i64 n, .slice po pn pc] 40)).alloc (.cells #[.int .i64 0, .int .i64 0, .slice none 0 0, .int .i64 0] 51) = W0 := ⟨_, rfl⟩
  have hB0 : Below w.heap.size w W0 := by rw [← hW0]; exact bl_alloc (bl_alloc (bl_alloc (bl_refl w) _) _) _
  have hxA : W0.heap[w.heap.size]? = some (.cells #[.int .i64 s.size, .int .i64 s.base, .slice ao s.ps.length cap, .int .i64 s.under] 51 (0, 0)) := by rw [← hW0]; exact kept_alloc (kept_alloc (heap_alloc_new w _) _) _
  have hxC : W0.heap[w.heap.size + 1]? = some (.cells #[.int .i64 1, .int .i64 n, .slice po pn pc] 40 (0, 0)) := by
    rw [← hW0]
    refine kept_alloc ?_ _
    have := heap_alloc_new (w.alloc (.cells #[.int .i64 s.size, .int .i64 s.base, .slice ao s.ps.length cap, .int .i64 s.under] 51)) (.cells #[.int .i64 1, .int .i64 n, .slice po pn pc] 40)
    simpa using this
  obtain ⟨a0, a1, a2, a3⟩ := cells_of4 hxA
  have e0 : W0.cell? ⟨w.heap.size + 1, 0, none⟩ = some (.int .i64 1) := by rw [cell_of_row _ _ _ _ _ _ hxC]; rfl
  have hxZ : W0.heap[w.heap.size + 1 + 1]? = some (.cells #[.int .i64 0, .int .i64 0, .slice none 0 0, .int .i64 0] 51 (0, 0)) := by
    rw [← hW0]
    have := heap_alloc_new ((w.alloc (.cells #[.int .i64 s.size, .int .i64 s.base, .slice ao s.ps.length cap, .int .i64 s.under] 51)).alloc (.cells #[.int .i64 1, .int .i64 n, .slice po pn pc] 40)) (.cells #[.int .i64 0, .int .i64 0, .slice none 0 0, .int .i64 0] 51)
    simpa using this
  obtain ⟨F, R, hF, hsw, hpw, hR, hB, hX⟩ := hD
  have hFg := hsw.2.1
  have hs := hsw.below hB0
  have hp := hpw.below hB0
  have hFw := hsw.1
  have hv := rsend_any R s hok (.slice ao s.ps.length cap) _ hp
  have hPs : s.send.ps = s.ps := send_ps s
  have HPs := Lib.hid hPs
  clear hPs
  unfold refV at hv ⊢
  generalize hcan : s.can = can at hv
  go_enter Try.func23, Try.ntmps23
  go_wp2_with fail
  try simp only [hW0]
  refine hv.mono ?_
  rintro e w2 ⟨u, rfl, hu, hb2⟩
  obtain ⟨⟨hul, uo, uc, rfl, _⟩, _⟩ := id hu.1
  go_wp2_with fail
  refine (ssend_own F g s hok _ ((hs.below hb2).below (bl_alloc (bl_refl w2) _))).mono ?_
  rintro e w3 ⟨q, rfl, hO, hwf, hs3, hF3⟩
  rw [hcan]
  obtain ⟨qo, qc, rfl⟩ := owns_form' hO
  have hu3 := (hu.below (bl_alloc (bl_refl w2) (.cells #[.int .i64 s.send.size, .int .i64 s.send.base, .slice ao s.ps.length cap, .int .i64 s.send.under] 51))).fr hF3 (fun k hk (e : k = g) => (hR k hk).2 (e ▸ hsw.2.1))
  have v1 := conv_reads hu3.1.1
  have v2 := conv_reads (Reads.of_owns hO hul)
  have hw2 := hb2.size
  have hw0 := lt_of_get hxZ
  have hgw := hFw g hsw.2.1
  have hbox := hF3.get (heap_alloc_new w2 (.cells #[.int .i64 s.send.size, .int .i64 s.send.base, .slice ao s.ps.length cap, .int .i64 s.send.under] 51)) (fun h => by have h : _ = g := h; omega)
  have zZ := hF3.get (kept_alloc (bl_get hb2 hxZ) (.cells #[.int .i64 s.send.size, .int .i64 s.send.base, .slice ao s.ps.length cap, .int .i64 s.send.under] 51)) (fun h => by have h : _ = g := h; omega)
  clear a0 a1 a2 a3 e0
  have hf1 : W0.heap.size = w.heap.size + 3 := by rw [← hW0]; simp
  go_wp2_with fail
  have hfar : ∀ k, (Value.slice qo s.sendP.length qc).ownBlock = some k → w2.heap.size < k := fun k hk => by have := (hO.lt k hk).1; simp at this; omega
  have hh3 : Fr (fun k => k = g) w w3 := (Fr.of_below (bl_alloc (bl_trans hB0 hb2) _)).trans hF3 (fun k h => .inl h)
  have hBt : Below w0.heap.size w0 w3 := bl_fr (bl_alloc (bl_trans (bl_trans hB hB0) hb2) _) hF3 (fun k hk => by have hk : k = g := hk; subst hk; exact hF _ hsw.2.1)
  have hp3 := ((hp.below hb2).below (bl_alloc (bl_refl w2) (.cells #[.int .i64 s.send.size, .int .i64 s.send.base, .slice ao s.ps.length cap, .int .i64 s.send.under] 51))).fr hF3 (fun k hk (e : k = g) => (hR k hk).2 (e ▸ hsw.2.1))
  have hBw := hB.size
  have hum := hul
  unfold maxLen at hum
  clear v1 v2 hu3 hu hb2 hs hp hsw hpw hv hxA hxC hxZ hcan hF3 hB
  go_loopw [21] (fun kk wr => ∃ (i : Nat) (ys : List Int), i ≤ s.sendP.length ∧ kk = .int .i64 i ∧ Hid (ys.length = s.sendP.length ∧ ∀ n ∈ ys, (Lit.int .u8 n).wf = true) ∧ wr.ownsRow w0.heap.size 5 1 (.slice qo s.sendP.length qc) s.sendP.length (ys.map (Value.int .u8)) ∧
      wr.heap[w2.heap.size]? = some (.cells #[.int .i64 s.send.size, .int .i64 s.send.base, .slice ao s.ps.length cap, .int .i64 s.send.under] 51 (0, 0)) ∧
      wr.heap[w.heap.size + 1 + 1]? = some (.cells #[.int .i64 0, .int .i64 0, .slice none 0 0, .int .i64 0] 51 (0, 0)) ∧
      Below w0.heap.size w0 wr ∧ SndAt F wr g s.send ∧ Pays R wr (.slice ao s.ps.length cap) s.ps ∧ Fr (fun k => k = g) w wr)
    (fun kk _ => s.sendP.length - (intOf kk).toNat)
  case atStart => exact ⟨0, s.sendP, by omega, rfl, ⟨rfl, hwf⟩, owns_mono2 hO (by simp; omega), hbox, zZ, hBt, hs3, hp3, hh3⟩
  case round =>
    clear hO hBt hs3 hp3 hbox zZ hh3
    obtain ⟨i, ys, hile, rfl, hys, hO, hbox, zZ, hBt, hs3, hp3, hh3⟩ := hrel
    by_cases hlt : i < s.sendP.length
    · obtain ⟨b, rfl, hg1, hg2, hcap⟩ := own_slice' hO (by omega)
      obtain ⟨x, hx⟩ := get_some (xs := ys) (k := i) (by have := hys.out.1; omega)
      have hxw := turn_u8' (hys.out.2 x (List.mem_of_getElem? hx))
      have hc : wr.cell? ⟨b, i, none⟩ = some (.int .u8 x) := by rw [hO.cellAt i (by omega), List.getElem?_map, hx]; rfl
      have hz := hO.frozenAt i
      have hst := hO.stored i (.int .u8 (255 - x))
      have hys2 : Hid ((ys.set i (255 - x)).length = s.sendP.length ∧ ∀ n ∈ ys.set i (255 - x), (Lit.int .u8 n).wf = true) := set_wf' hys.out hxw.2
      rw [show (Value.int .u8 (255 - x)) = (Value.int .u8) (255 - x) from rfl, ← List.map_set] at hst
      have HST := Lib.hid hst
      have hgl := hfar b rfl
      have hwx := hxw.1
      clear hst hxw hx hys
      have HF : Fr (fun j => j = b) wr (wr.setCell ⟨b, i, none⟩ (.int .u8 (255 - x))) := fr_cell wr b i _
      go_wp2
      go_roundw
      case rel =>
        exact ⟨i + 1, ys.set i (255 - x), by omega, by go_num, hys2, HST.out.1, HF.get hbox (by omega), HF.get zZ (by omega), bl_fr hBt HF (by intro j hj; omega), hs3.fr HF (by intro j hj e; have := hFw j hj; omega), hp3.fr HF (by intro j hj e; have := (hR j hj).1; omega), hh3.trans HF (fun k h => .inr (by omega))⟩
      case measure => simp [intOf]; omega
    · have hi2 : i = s.sendP.length := by omega
      obtain ⟨b0, b1, b2, b3⟩ := cells_of4 hbox
      obtain ⟨z0, z1, z2, z3⟩ := cells_of4 zZ
      have f0 := frozen_of' (j := 0) zZ
      have f1 := frozen_of' (j := 1) zZ
      have f2 := frozen_of' (j := 2) zZ
      have f3 := frozen_of' (j := 3) zZ
      go_wp2_with fail
      have hW6 := set_four wr (w.heap.size + 1 + 1) _ _ _ _ (.int .i64 s.send.size) (.int .i64 s.send.base) (.slice ao s.ps.length cap) (.int .i64 s.send.under) _ zZ
      have hF6 := fr_four wr (w.heap.size + 1 + 1) (.int .i64 s.send.size) (.int .i64 s.send.base) (.slice ao s.ps.length cap) (.int .i64 s.send.under)
      generalize (((wr.setCell ⟨w.heap.size + 1 + 1, 0, none⟩ (.int .i64 s.send.size)).setCell ⟨w.heap.size + 1 + 1, 1, none⟩ (.int .i64 s.send.base)).setCell ⟨w.heap.size + 1 + 1, 2, none⟩ (.slice ao s.ps.length cap)).setCell ⟨w.heap.size + 1 + 1, 3, none⟩ (.int .i64 s.send.under) = W6 at hW6 hF6 ⊢
      clear b0 b1 b2 b3 z0 z1 z2 z3 f0 f1 f2 f3 zZ hbox
      obtain ⟨d0, d1, d2, d3⟩ := cells_of4 hW6
      refine bodyPost_ret (by simp [results, Try.results23, go_sem, d0, d1, d2, d3]; try rfl) rfl ?_
      refine ⟨rfl, F, R, hF, hs3.fr hF6 (fun k hk e => by have := hFw k hk; omega), ?_, fun k hk => ⟨by have := (hR k hk).1; have := lt_of_get hW6; omega, (hR k hk).2⟩, bl_fr hBt hF6 (fun k hk => by omega), boxes_keep hX (hh3.trans hF6 (fun k h => .inr (by omega))) hFg (fun k h => .inl h) (fun k h => .inl h)⟩
      rw [HPs.out]
      exact hp3.fr hF6 (fun k hk e => by have := (hR k hk).1; omega)

end Go.Proofs.Ytgfcppjahebidaa
