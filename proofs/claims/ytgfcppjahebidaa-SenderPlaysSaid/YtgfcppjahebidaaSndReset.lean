/- The contract of sender.Reset. Conditions: as they stand. -/
import Derived.WalkKit
import Derived.Lib.Hide
import Derived.Test.YtgfcppjahebidaaSndPush2
namespace Go.Proofs.Ytgfcppjahebidaa
open Go.RowKit

theorem reset_three (W : World) (g : Nat) (a b c d b' c' d' : Value) (t : TypeId) (h : W.heap[g]? = some (.cells #[a, b, c, d] t (0, 0))) : (((W.setCell ⟨g, 2, none⟩ c').setCell ⟨g, 3, none⟩ d').setCell ⟨g, 1, none⟩ b').heap[g]? = some (.cells #[a, b', c', d'] t (0, 0)) :=
  heap_set_box' _ _ _ _ _ _ (heap_set_box' _ _ _ _ _ _ (heap_set_box' _ _ _ _ _ _ h))
theorem reset_fr (W : World) (g : Nat) (b' c' d' : Value) : Fr (fun k => k = g) W (((W.setCell ⟨g, 2, none⟩ c').setCell ⟨g, 3, none⟩ d').setCell ⟨g, 1, none⟩ b') :=
  ((fr_cell W g 2 c').trans (fr_cell _ g 3 d') (fun _ h => .inl h)).trans (fr_cell _ g 1 b') (fun _ h => .inl h)

theorem sreset_any (F : Nat → Prop) (a : Nat) (s : Snd) (w : World) (hs : SndAt F w a s) :
    Calls Try.prog 18 #[.pointer (some ⟨a, 0, none⟩)] w fun e w' => ∃ u, e = .returned u ∧ Pays (fun k => F k ∧ k ≠ a) w' u s.ps ∧ SndAt F w' a ⟨s.size, 0, [], 0⟩ ∧ Fr (fun k => k = a) w w' := by
  obtain ⟨h1, h2, av, vs, D, hb, hA, hl, hav, hD, hp⟩ := hs
  obtain ⟨ao, cap, rfl, hcap, hcm, hnil⟩ := hA.form
  obtain ⟨c0, c1, c2, c3⟩ := cells_of4 hb
  have f1 := frozen_of' (j := 1) hb
  have f2 := frozen_of' (j := 2) hb
  have f3 := frozen_of' (j := 3) hb
  have hF := reset_fr w a (.int .i64 0) (.slice none 0 0) (.int .i64 0)
  have hb' := reset_three w a _ _ _ _ (.int .i64 0) (.slice none 0 0) (.int .i64 0) _ hb
  have HF := Lib.hid hF
  have HB := Lib.hid hb'
  have Hp := Lib.hid hp
  have Hl := Lib.hid hl
  clear hF hb' hb hp hl hcap hcm hnil
  have H1 := Lib.hid h1
  have Hav := Lib.hid hav
  have HD := Lib.hid hD
  clear h1 hav hD
  go_enter Try.func18, Try.ntmps18
  go_wp2
  go_ret
  have hs := HF.out.size
  refine ⟨_, rfl, ⟨vs, Hl.out, ⟨(hA.fr HF.out (fun k hk => (Hav.out k hk).2.1)).reads, fun k hk => ⟨(Hav.out k hk).1, (Hav.out k hk).2.1⟩⟩, fun i x p hx hq => ((Hp.out i x p hx hq).fr HF.out (fun k hk => (HD.out k hk).2)).mono (fun k hk => HD.out k hk)⟩,
    ⟨fun k hk => Nat.lt_of_lt_of_le (H1.out k hk) hs, h2, .slice none 0 0, [], fun _ => False, HB.out, ArrAt.nil _ _, rfl, fun k hk => by simp [Value.ownBlock] at hk, fun _ h => h.elim, fun i x p hx => by simp at hx⟩, HF.out⟩

end Go.Proofs.Ytgfcppjahebidaa
