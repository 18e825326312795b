/- The contract of control.Get at any bytes. Conditions: no more bytes than an argument can have. -/
import Derived.WalkKit
import Derived.Lib.Hide
import Derived.Test.YtcglpdbnggekdaaCtlGet1
import Derived.Test.YtcglpdbnggekdaaCtlGet2
import Derived.Test.YtcglpdbnggekdaaCtlGet3
import Derived.Test.YtcglpdbnggekdaaCtlGetBad
import Derived.Test.YtcglpdbnggekdaaCtlGetCut
import Derived.Test.YtcglpdbnggekdaaCtlPlain
namespace Go.Proofs.Ytcglpdbnggekdaa
open Go.RowKit

theorem getV_le {p : List Int} (hw : ∀ n ∈ p, (Lit.int .u8 n).wf = true) (a : Nat) : getV p a 2 ≤ 65535 := by
  by_cases h : (p.length : Int) < (a : Int) ∨ (p.length : Int) - a < 2
  · rw [(get_form' (bs := p) (a := a) (s := 2) (by omega) h).2]; omega
  · rw [show getV p a 2 = getTo p a 2 from (get_good' (bs := p) (a := a) (s := 2) (by omega) h).2]
    have := getTo_lt p a 2 hw
    omega
theorem getE_ok {p : List Int} {a : Nat} (h : a + 2 ≤ p.length) : getE p a 2 = 0 := (get_good' (bs := p) (a := a) (s := 2) (by omega) (by omega)).1

theorem cget_any (v : Value) (p : List Int) (hw : ∀ n ∈ p, (Lit.int .u8 n).wf = true) (w : World) (hr : Reads (Value.int .u8) w v p) (hle : p.length ≤ 140737488351232) :
    Calls Try.prog 14 #[v] w fun e w' => ∃ (ao : Option Addr) (cap : Nat), e = .returned (.tuple #[(getC p).val ao cap, .int .i64 (getErr p)]) ∧
      w'.ownsRow w.heap.size 5 1 (.slice ao (getC p).data.length cap) (getC p).data.length ((getC p).data.map (Value.int .u8)) ∧ Below w.heap.size w w' := by
  have bad : ¬ GetOk p → (∃ ao n cap, v = .slice ao n cap ∧ n = p.length) → Calls Try.prog 14 #[v] w (fun e w' => e = .returned (.tuple #[Ctl.zero.val none 0, .int .i64 2]) ∧ Below w.heap.size w w') →
      Calls Try.prog 14 #[v] w fun e w' => ∃ (ao : Option Addr) (cap : Nat), e = .returned (.tuple #[(getC p).val ao cap, .int .i64 (getErr p)]) ∧
      w'.ownsRow w.heap.size 5 1 (.slice ao (getC p).data.length cap) (getC p).data.length ((getC p).data.map (Value.int .u8)) ∧ Below w.heap.size w w' := by
    intro hn _ hC
    rw [getC_bad hn, getErr_bad hn]
    exact hC.mono fun e w' ⟨he, hb⟩ => ⟨none, 0, he, World.ownsRow_nil w' _ _ _, hb⟩
  have good : ∀ (c : Ctl), (6 ≤ p.length ∧ p[0]? = some 3 ∧ (thirdB (kindN (p.getD 1 0)) = true → 7 ≤ p.length)) → Ctl.of p = c →
      Calls Try.prog 14 #[v] w (fun e w' => ∃ (c' : Ctl) (ao : Option Addr) (cap : Nat) (E : Int), e = .returned (.tuple #[c'.val ao cap, .int .i64 E]) ∧ w'.ownsRow w.heap.size 5 1 (.slice ao c'.data.length cap) c'.data.length (c'.data.map (Value.int .u8)) ∧ Below w.heap.size w w' ∧
        ((c.chk = 0 ∧ E = 0 ∧ c' = c) ∨ (c.chk ≠ 0 ∧ E = 2 ∧ c' = Ctl.zero))) →
      Calls Try.prog 14 #[v] w fun e w' => ∃ (ao : Option Addr) (cap : Nat), e = .returned (.tuple #[(getC p).val ao cap, .int .i64 (getErr p)]) ∧
      w'.ownsRow w.heap.size 5 1 (.slice ao (getC p).data.length cap) (getC p).data.length ((getC p).data.map (Value.int .u8)) ∧ Below w.heap.size w w' := by
    intro c h1 hc hC
    refine hC.mono ?_
    rintro e w' ⟨c', ao, cap, E, he, hO, hb, h | h⟩
    · obtain ⟨h2, rfl, rfl⟩ := h
      have hok : GetOk p := ⟨h1.1, h1.2.1, h1.2.2, by rw [hc]; exact h2⟩
      rw [getC_ok hok, getErr_ok hok, hc]
      exact ⟨ao, cap, he, hO, hb⟩
    · obtain ⟨h2, rfl, rfl⟩ := h
      have hn : ¬ GetOk p := fun hk => h2 (by rw [← hc]; exact hk.2.2.2)
      rw [getC_bad hn, getErr_bad hn]
      exact ⟨ao, cap, he, hO, hb⟩
  obtain ⟨ao, cap, hv⟩ : ∃ ao cap, v = .slice ao p.length cap := by
    obtain ⟨_, ao, cap, hv, _, _⟩ := hr
    exact ⟨ao, cap, hv⟩
  by_cases h6 : p.length < 6
  · subst hv
    exact bad (fun h => by have := h.1; omega) ⟨_, _, _, rfl, rfl⟩ (get_short ao p.length cap h6 w)
  obtain ⟨x0, hx0⟩ := get_some (xs := p) (k := 0) (by omega)
  obtain ⟨x1, hx1⟩ := get_some (xs := p) (k := 1) (by omega)
  obtain ⟨x2, hx2⟩ := get_some (xs := p) (k := 2) (by omega)
  have b1 := wf_bd (hw x1 (List.mem_of_getElem? hx1))
  have b2 := wf_bd (hw x2 (List.mem_of_getElem? hx2))
  have d1 : p.getD 1 0 = x1 := by rw [List.getD_eq_getElem?_getD, hx1]; rfl
  have d2 : p.getD 2 0 = x2 := by rw [List.getD_eq_getElem?_getD, hx2]; rfl
  by_cases h0 : x0 = 3
  · subst h0
    by_cases ht : thirdB (kindN x1) = true
    · have hk4 := (third_iff _).1 ht
      by_cases h7 : p.length < 7
      · refine bad (fun h => ?_) ⟨_, _, _, hv, rfl⟩ ?_
        · have := h.2.2.1 (by rw [d1]; exact ht)
          omega
        · by_cases hk1 : kindN x1 = 1
          · exact get_cut1 v p x1 x2 hx1 hx2 (by omega) h7 hw w hr hx0 hk1 b1 b2
          · exact get_cut2 v p x1 x2 _ hx1 hx2 (by omega) h7 hw w hr hx0 rfl (by omega) ht b2
      · have hof := of_third (p := p) (by rw [d1]; exact ht)
        rw [d1, d2] at hof
        refine good _ ⟨by omega, hx0, fun _ => by omega⟩ hof ?_
        by_cases hk1 : kindN x1 = 1
        · have := get_v1 v p x1 x2 hx1 hx2 (by omega) hw w hr hx0 hk1 b1 b2 hle _ _ ⟨rfl, getE_ok (a := 3) (by omega)⟩ ⟨rfl, getE_ok (a := 5) (by omega)⟩ (getV_le hw 3) (getV_le hw 5)
          rw [hk1]
          simpa [Ctl.chk] using this
        · have := get_v2 v p x1 x2 _ hx1 hx2 (by omega) hw w hr hx0 rfl (by omega) ht b2 hle _ _ ⟨rfl, getE_ok (a := 3) (by omega)⟩ ⟨rfl, getE_ok (a := 5) (by omega)⟩ (getV_le hw 3) (getV_le hw 5)
          simpa [Ctl.chk, hk1] using this
    · have ht' : thirdB (kindN x1) = false := by rwa [Bool.not_eq_true] at ht
      have hof := of_no (p := p) (by rw [d1]; exact ht')
      rw [d1] at hof
      have hk1 : ¬ kindN x1 = 1 := fun h => ht ((third_iff _).2 (by omega))
      refine good _ ⟨by omega, hx0, fun h => absurd (by rw [← d1]; exact h) ht⟩ hof ?_
      have := get_v3 v p x1 _ hx1 (by omega) hw w hr hx0 rfl ht' hle _ _ ⟨rfl, getE_ok (a := 2) (by omega)⟩ ⟨rfl, getE_ok (a := 4) (by omega)⟩ (getV_le hw 2) (getV_le hw 4)
      simpa [Ctl.chk, hk1] using this
  · refine bad (fun h => ?_) ⟨_, _, _, hv, rfl⟩ (get_head v p x0 hx0 (by simpa [bne_iff_ne] using h0) (by omega) w hr)
    have := h.2.1
    rw [hx0] at this
    cases this
    exact h0 rfl

end Go.Proofs.Ytcglpdbnggekdaa
