/- The contract of sender.Push at any sender and any bytes. Conditions: as they stand. -/
import Derived.Test.YtagbaoakablfpaaSndPush
namespace Go.Proofs.Ytagbaoakablfpaa
open Go.RowKit

theorem spush_any (F : Nat → Prop) (a : Nat) (s : Snd) (v : Value) (p : List Int) (w : World) (hs : SndAt F w a s) (hr : Reads (Value.int .u8) w v p) (hw : ∀ n ∈ p, (Lit.int .u8 n).wf = true) :
    Calls Try.prog 31 #[.pointer (some ⟨a, 0, none⟩), v] w fun e w' => e = .returned (.int .i64 (s.pushE p)) ∧
      SndAt (fun k => F k ∨ (w.heap.size ≤ k ∧ k < w'.heap.size)) w' a (s.push p) ∧ Fr (fun k => k = a) w w' := by
  by_cases hE : s.pushE p = 0
  · obtain ⟨⟨q1, q2⟩, q3⟩ := pushE_zero hE
    have hpu : s.push p = { s with ps := s.ps ++ [p] } := by unfold Snd.push; rw [if_pos hE]
    rw [hE, hpu]
    obtain ⟨h1, h2, av, vs, D, hb, hA, hl, hav, hD, hp⟩ := hs
    obtain ⟨hm, po, pcap, rfl, hpc, hcc⟩ := hr
    refine (push_row a s.size s.base s.under av vs po pcap p w hb hA ⟨hm, po, pcap, rfl, hpc, hcc⟩ q1 q2 (by omega)).mono ?_
    rintro e w' ⟨rfl, W1, W2, u, v', hB1, hO1, hB2, hO2, rfl⟩
    have ha := h1 a h2
    have hs1 := hB1.size
    have hs2 := hB2.size
    have hBt := bl_trans hB1 hB2
    have hF := fr_cell W2 a 2 v'
    have hl' : (vs ++ [u]).length = vs.length + 1 := by simp
    have hO2' : W2.ownsRow W1.heap.size 32 1 v' (vs ++ [u]).length (vs ++ [u]) := by rw [hl']; exact hO2
    have hsz : (W2.setCell ⟨a, 2, none⟩ v').heap.size = W2.heap.size := by simp [World.setCell]
    have hu : Byt (fun k => w.heap.size ≤ k ∧ k < W1.heap.size) W1 u p := ⟨Rd.of_owns hO1 (by unfold maxLen; omega), hw⟩
    refine ⟨rfl, ⟨fun k hk => ?_, .inl h2, v', vs ++ [u], fun k => D k ∨ (w.heap.size ≤ k ∧ k < W1.heap.size), ?_, ?_, by simp [hl], fun k hk => ?_, fun k hk => ?_, fun i x q hx hq => ?_⟩, (Fr.of_below hBt).trans hF (fun i hi => .inl hi)⟩
    · rw [hsz] at hk ⊢
      rcases hk with hk | hk
      · have := h1 k hk; omega
      · exact hk.2
    · exact heap_set_box' _ _ _ _ _ _ (bl_get hBt hb)
    · exact (ArrAt.of_owns hO2').fr hF (fun k hk => by have := hO2.lt k hk; omega)
    · have := hO2.lt k hk
      rw [hsz]
      refine ⟨.inr ⟨by omega, this.2⟩, by omega, fun hd => ?_⟩
      rcases hd with hd | hd
      · have := h1 k (hD k hd).1; omega
      · omega
    · rw [hsz]
      rcases hk with hk | hk
      · exact ⟨.inl (hD k hk).1, (hD k hk).2⟩
      · exact ⟨.inr ⟨hk.1, by omega⟩, by omega⟩
    · by_cases hi : i < vs.length
      · rw [List.getElem?_append_left hi] at hx
        rw [List.getElem?_append_left (by omega)] at hq
        exact (((hp i x q hx hq).below hBt).fr hF (fun k hk => (hD k hk).2)).mono (fun k hk => .inl hk)
      · have hlt := (List.getElem?_eq_some_iff.1 hx).1
        simp only [List.length_append, List.length_singleton] at hlt
        have hi' : i = vs.length := by omega
        subst hi'
        have hx' : x = u := by simpa using hx.symm
        have hq' : q = p := by
          rw [hl] at hq
          simpa using hq.symm
        subst hx' hq'
        exact ((hu.below hB2).fr hF (fun k hk => by omega)).mono (fun k hk => .inr hk)
  · have hpu : s.push p = s := by unfold Snd.push; rw [if_neg hE]
    rw [hpu]
    refine (spush_bad F a s v p w hs hr hE).mono ?_
    rintro e w' ⟨rfl, rfl⟩
    refine ⟨rfl, ?_, Fr.refl _ _⟩
    obtain ⟨h1, h2, av, vs, D, hb, hA, hl, hav, hD, hp⟩ := hs
    exact ⟨fun k hk => by rcases hk with hk | hk; exact h1 k hk; omega, .inl h2, av, vs, D, hb, hA, hl, fun k hk => ⟨.inl (hav k hk).1, (hav k hk).2⟩, fun k hk => ⟨.inl (hD k hk).1, (hD k hk).2⟩, hp⟩

end Go.Proofs.Ytagbaoakablfpaa
