/- portagelaw11.awake answers true, and leaves what was there alone. Conditions: none. -/
import Derived.Lib.SlBytesConst
import Derived.Test.YtaembdlidaogdaaRecScan
import Derived.Test.YtaembdlidaogdaaRecRFirst
import Derived.Test.YtaembdlidaogdaaRecPut
import Derived.Test.YtaembdlidaogdaaStr
namespace Go.Proofs.Ytaembdlidaogdaa
open Go.RowKit

theorem reads_mark (w : World) (x : Int) (e : TypeId) (fr : Nat × Nat) : Reads (Value.int .u8) (w.alloc (.cells #[.int .u8 x] e fr)) (.slice (some ⟨w.heap.size, 0, none⟩) 1 1) [x] := by
  refine ⟨by simp [maxLen], _, _, rfl, ⟨by simp, fun h => by cases h⟩, fun i z hz => ⟨_, _, rfl, ?_⟩⟩
  rw [World.cell?_alloc_mark]
  match i, hz with
  | 0, hz => simp at hz; subst hz; simp
  | n + 1, hz => simp at hz
theorem aw_ok : recE [97] = 0 := by decide +kernel
theorem aw_out : recO [97] = recB [97] := by unfold recO; rw [if_pos aw_ok]
theorem aw_len : (recB [97]).length = 9 := by rw [recB_length]; rfl
theorem aw_recs : recs (recB [97]) = [[97]] := by
  have h := fst_recB (p := [97]) (r := []) aw_ok
  rw [List.append_nil] at h
  rw [recs_some h, recs_none]
  exact fst_no (.inl (by rw [List.length_drop, aw_len]; decide))
theorem aw_place : place ([[97]] : List (List Int)) ([[97]] : List (List Int)).length = 9 := by decide +kernel
theorem aw_str : strOfNums [97] = ⟨#[97]⟩ := by decide +kernel
theorem aw_wf : ∀ n ∈ recB [97], (Lit.int .u8 n).wf = true := recB_wf (by decide)

set_option maxRecDepth 100000 in
set_option maxHeartbeats 1000000 in
theorem awake_any (w : World) :
    Calls Try.prog 11 #[] w fun e w' => e = .returned (.bool true) ∧ Below w.heap.size w w' := by
  have hcv : (convert 22 22 (.slice (some ⟨w.heap.size, 0, none⟩) 1 1)).run Try.prog (w.alloc (.cells #[.int .u8 97] 5)) = .ok (.slice (some ⟨w.heap.size, 0, none⟩) 1 1) (w.alloc (.cells #[.int .u8 97] 5 (1, 2))) := Lib.run_convert_bytes_const w 22 5 #[.int .u8 97] 1 1 Try.underlying22 Try.underlying5
  go_enter Try.func11, Try.ntmps11
  go_wp2_with fail
  have hr := reads_mark w 97 5 (1, 2)
  have hB := bl_alloc (bl_refl w) (.cells #[.int .u8 97] 5 (1, 2))
  generalize w.alloc (.cells #[.int .u8 97] 5 (1, 2)) = W0 at hr hB ⊢
  refine (recput_any _ [97] (by unfold Hid; decide) _ hr).mono ?_
  rintro e W1 ⟨u, rfl, hO, hb⟩
  rw [aw_ok]
  rw [aw_out] at hO
  have hu := Reads.of_owns hO (by rw [aw_len]; simp [maxLen])
  obtain ⟨ao1, cap1, rfl⟩ := owns_form3 hO
  have hB := bl_trans hB hb
  have hst := steps_recs (recB [97])
  rw [aw_recs] at hst
  clear hO hb hcv hr
  go_wp2_with fail
  refine (scan_any _ _ [[97]] (Lib.hid hst) (Lib.hid aw_wf) (by rw [aw_len]; omega) _ hu).mono ?_
  rintro e W2 ⟨v, rfl, ⟨vs, hl, hvo, hvx⟩, hb⟩
  rw [aw_place]
  rw [aw_len]
  have hB := bl_trans hB hb
  obtain ⟨x, rfl⟩ : ∃ x, vs = [x] := by
    match vs, hl with
    | [x], _ => exact ⟨x, rfl⟩
  have hx := Reads.of_owns (hvx 0 x [97] rfl rfl) (by simp [maxLen])
  have hv := Reads.of_owns (f := id) (xs := [x]) hvo (by simp [maxLen])
  obtain ⟨_, ao, cap, rfl, _, hc⟩ := hv
  obtain ⟨b, o, rfl, hcell⟩ := hc 0 x rfl
  have hs := conv_reads hx
  rw [aw_str] at hs
  obtain ⟨xo, xc, rfl⟩ := owns_form3 (hvx 0 x [97] rfl rfl)
  clear hvx hvo hl hc hx hu hst
  simp only [id, Nat.add_zero, List.length_singleton] at hcell hs ⊢
  go_wp2
  go_ret
  exact ⟨rfl, hB⟩

end Go.Proofs.Ytaembdlidaogdaa
