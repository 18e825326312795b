/- portagelaw07.awake answers true, and leaves what was there alone. Conditions: none. -/
import Derived.WalkKit
import Derived.Lib.Hide
import Derived.Lib.SlBytesConst
import Derived.Test.YtgfcppjahebidaaSndSend
import Derived.Test.YtgfcppjahebidaaSndAck
import Derived.Test.YtgfcppjahebidaaSndUnder
import Derived.Test.YtgfcppjahebidaaStr
namespace Go.Proofs.Ytgfcppjahebidaa
open Go.RowKit

theorem reads_mark' (w : World) (x : Int) (e : TypeId) (fr : Nat × Nat) : Reads (Value.int .u8) (w.alloc (.cells #[.int .u8 x] e fr)) (.slice (some ⟨w.heap.size, 0, none⟩) 1 1) [x] := by
  refine ⟨by simp [maxLen], _, _, rfl, ⟨by simp, fun h => by cases h⟩, fun i z hz => ⟨_, _, rfl, ?_⟩⟩
  rw [World.cell?_alloc_mark]
  match i, hz with
  | 0, hz => simp at hz; subst hz; simp
  | n + 1, hz => simp at hz
theorem wf_one {x : Int} (h : (Lit.int .u8 x).wf = true) : ∀ n ∈ [x], (Lit.int .u8 n).wf = true := by simpa using h
theorem aw_p1 : (Snd.mk 1 0 [] 0).pushE [97] = 0 ∧ (Snd.mk 1 0 [] 0).push [97] = ⟨1, 0, [[97]], 0⟩ := by simp [Snd.push, Snd.pushE]
theorem aw_p2 : (Snd.mk 1 0 [[97]] 0).pushE [98] = 0 ∧ (Snd.mk 1 0 [[97]] 0).push [98] = ⟨1, 0, [[97], [98]], 0⟩ := by simp [Snd.push, Snd.pushE]
theorem aw_s1 : (Snd.mk 1 0 [[97], [98]] 0).can = true ∧ (Snd.mk 1 0 [[97], [98]] 0).sendN = 0 ∧ (Snd.mk 1 0 [[97], [98]] 0).sendP = [97] ∧ (Snd.mk 1 0 [[97], [98]] 0).send = ⟨1, 0, [[97], [98]], 1⟩ := by simp [Snd.can, Snd.sendN, Snd.sendP, Snd.send]
theorem aw_s2 : (Snd.mk 1 0 [[97], [98]] 1).can = false ∧ (Snd.mk 1 0 [[97], [98]] 1).send = ⟨1, 0, [[97], [98]], 1⟩ := by simp [Snd.can, Snd.send]
theorem aw_a1 : (Snd.mk 1 0 [[97], [98]] 1).ackE 1 = 0 ∧ (Snd.mk 1 0 [[97], [98]] 1).ackN 1 = 1 ∧ (Snd.mk 1 0 [[97], [98]] 1).ack 1 = ⟨1, 1, [[98]], 0⟩ := by simp [Snd.ack, Snd.ackN, Snd.ackE]
theorem aw_ok (l : List (List Int)) (u : Nat) (h1 : l.length ≤ 64) (h2 : u ≤ l.length) (h3 : u ≤ 1) (h : ∀ p ∈ l, 1 ≤ p.length ∧ p.length ≤ 121) : (Snd.mk 1 0 l u).Ok := ⟨by simp, by simp, by simp, h2, h3, h1, h⟩
theorem str_one : strOfNums [97] = ⟨#[97]⟩ := by decide +kernel
/-- What a frame of a sender leaves behind is new. -/
theorem bl_snd {w a b : World} {g : Nat} (h : Below w.heap.size w a) (k : Fr (fun i => i = g) a b) (hg : w.heap.size ≤ g) : Below w.heap.size w b := bl_fr h k (by intro i hi; omega)

set_option maxRecDepth 100000 in
set_option maxHeartbeats 1000000 in
theorem awake_any (w : World) :
    Calls Try.prog 10 #[] w fun e w' => e = .returned (.bool true) ∧ Below w.heap.size w w' := by
  have hcv : ∀ (W : World) (x : Int), (convert 28 28 (.slice (some ⟨W.heap.size, 0, none⟩) 1 1)).run Try.prog (W.alloc (.cells #[.int .u8 x] 5)) = .ok (.slice (some ⟨W.heap.size, 0, none⟩) 1 1) (W.alloc (.cells #[.int .u8 x] 5 (1, 2))) := fun W x => Lib.run_convert_bytes_const W 28 5 #[.int .u8 x] 1 1 Try.underlying28 Try.underlying5
  go_enter Try.func10, Try.ntmps10
  go_wp2_with fail
  refine (snew_ok 1 (by omega) (by omega) _).mono ?_
  rintro e W1 ⟨rfl, hs, hB⟩
  go_wp2_with fail
  obtain ⟨g, hg⟩ : ∃ g, w.heap.size = g := ⟨_, rfl⟩
  rw [hg] at hs ⊢
  have hge : w.heap.size ≤ g := by omega
  clear hg
  have hs := hs.below (bl_alloc (bl_refl W1) (.cells #[.int .u8 97] 5 (1, 2)))
  have hB := bl_trans hB (bl_alloc (bl_refl W1) (.cells #[.int .u8 97] 5 (1, 2)))
  have hsA := hB.size
  have hr := reads_mark' W1 97 5 (1, 2)
  refine (spush_any _ g _ _ _ _ hs hr (wf_one (by decide))).mono ?_
  rintro e W2 ⟨rfl, hs, hF⟩
  rw [aw_p1.1]
  rw [aw_p1.2] at hs
  have hB := bl_snd hB hF hge
  obtain ⟨F1, hF1, hs⟩ : ∃ F1 : Nat → Prop, (∀ k, F1 k → w.heap.size ≤ k) ∧ SndAt F1 W2 g ⟨1, 0, [[97]], 0⟩ := ⟨_, fun k hk => by rcases hk with hk | hk; omega; exact Nat.le_trans hsA hk.1, hs⟩
  clear hr hF hsA
  go_wp2_with fail
  have hs := hs.below (bl_alloc (bl_refl W2) (.cells #[.int .u8 98] 5 (1, 2)))
  have hB := bl_trans hB (bl_alloc (bl_refl W2) (.cells #[.int .u8 98] 5 (1, 2)))
  have hsA := hB.size
  have hr := reads_mark' W2 98 5 (1, 2)
  refine (spush_any _ g _ _ _ _ hs hr (wf_one (by decide))).mono ?_
  rintro e W3 ⟨rfl, hs, hF⟩
  rw [aw_p2.1]
  rw [aw_p2.2] at hs
  have hB := bl_snd hB hF hge
  obtain ⟨F2, hF2, hs⟩ : ∃ F2 : Nat → Prop, (∀ k, F2 k → w.heap.size ≤ k) ∧ SndAt F2 W3 g ⟨1, 0, [[97], [98]], 0⟩ := ⟨_, fun k hk => by rcases hk with hk | hk; exact hF1 k hk; exact Nat.le_trans hsA hk.1, hs⟩
  have hF3 := hs.1
  have hgu := hF3 g hs.2.1
  clear hr hF hsA hF1
  go_wp2_with fail
  refine (ssend_any _ g _ (aw_ok _ 0 (by simp) (by simp) (by simp) (by simp)) _ hs).mono ?_
  rintro e W4 ⟨u, rfl, hu, hs, hF⟩
  rw [aw_s1.1, aw_s1.2.1]
  rw [aw_s1.2.2.1] at hu
  rw [aw_s1.2.2.2] at hs
  have hB := bl_snd hB hF hge
  clear hF
  go_wp2_with fail
  refine (ssend_any _ g _ (aw_ok _ 1 (by simp) (by simp) (by simp) (by simp)) _ hs).mono ?_
  rintro e W5 ⟨u2, rfl, _, hs', hF⟩
  rw [aw_s2.1]
  rw [aw_s2.2] at hs'
  have hu := hu.fr hF (fun k hk => by omega)
  have hB := bl_snd hB hF hge
  clear hF hs
  go_wp2_with fail
  refine (sack_any _ g _ (aw_ok _ 1 (by simp) (by simp) (by simp) (by simp)) 1 _ hs').mono ?_
  rintro e W6 ⟨rfl, hs, hF⟩
  rw [aw_a1.1, aw_a1.2.1]
  rw [aw_a1.2.2] at hs
  have hu := hu.fr hF (fun k hk hk2 => by have := hF3 k hk2; omega)
  have hB := bl_fr hB hF hF2
  obtain ⟨uo, uc, hu1⟩ : ∃ uo uc, u = .slice uo 1 uc := by
    obtain ⟨⟨⟨_, uo, uc, h, _⟩, _⟩, _⟩ := hu
    exact ⟨uo, uc, h⟩
  subst hu1
  have v1 := conv_reads hu.1.1
  rw [str_one] at v1
  clear hF hF2 hF3 hgu hu hcv
  go_wp2_with fail
  refine (slen_any _ g _ _ hs).mono ?_
  rintro e W7 ⟨rfl, rfl⟩
  go_wp2_with fail
  refine (sbase_any _ g _ _ hs).mono ?_
  rintro e W7 ⟨rfl, rfl⟩
  go_wp2
  go_ret
  exact ⟨rfl, hB⟩

end Go.Proofs.Ytgfcppjahebidaa
