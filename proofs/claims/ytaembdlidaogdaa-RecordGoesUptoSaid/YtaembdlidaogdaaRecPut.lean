/- A record: its bytes; the contracts of record.Put and of portageref11.Put. Conditions: as they stand. -/
import Derived.WalkKit
import Derived.Lib.Hide
import Derived.Handy
import Derived.Laws.AppendOwnNone
import Derived.Test.YtaembdlidaogdaaCrcSum
import Derived.Test.YtaembdlidaogdaaBitsPut
import Derived.Test.YtaembdlidaogdaaBitsPutR
import Derived.Test.YtaembdlidaogdaaBitsGet
import Derived.Test.YtaembdlidaogdaaBitsLaw
namespace Go.Proofs.Ytaembdlidaogdaa
open Go.RowKit

/-- What Put says of a payload; a record's bytes; what Put gives. -/
def recE (p : List Int) : Int := if p.length = 0 then 2 else if 65536 < p.length then 3 else 0
def recB (p : List Int) : List Int := be p.length 4 ++ be (sumN (be p.length 4 ++ p)) 4 ++ p
def recO (p : List Int) : List Int := if recE p = 0 then recB p else []
theorem recB_length (p : List Int) : (recB p).length = 8 + p.length := by unfold recB; simp [be_length]; omega
theorem recE_zero {p : List Int} (h : recE p = 0) : 0 < p.length ∧ p.length ≤ 65536 := by
  unfold recE at h
  split at h
  · cases h
  · split at h
    · cases h
    · omega
theorem sumN_lt (xs : List Int) : sumN xs < 4294967296 := by unfold sumN; omega
theorem lst_two {w : World} {v u : Value} {p q : List Int} (h1 : Reads (Value.int .u8) w v p) (h2 : Reads (Value.int .u8) w u q) : Lst (w.alloc (.cells #[v, u] 22)) (.slice (some ⟨w.heap.size, 0, none⟩) 2 2) [p, q] := by
  have hb := bl_alloc (bl_refl w) (.cells #[v, u] 22)
  have hg := heap_alloc_new w (.cells #[v, u] 22)
  refine ⟨[v, u], rfl, ⟨by simp [maxLen], _, 2, rfl, by simp, fun i x hx => ⟨w.heap.size, 0, rfl, ?_⟩⟩, fun i x p' hx hp => ?_⟩
  · rw [cell_of_row _ _ _ _ _ _ hg]
    match i, hx with
    | 0, hx => simpa using hx
    | 1, hx => simpa using hx
    | (j + 2), hx => simp at hx
  · match i, hx, hp with
    | 0, hx, hp => simp at hx hp; subst hx hp; exact h1.below hb
    | 1, hx, hp => simp at hx hp; subst hx hp; exact h2.below hb
    | (j + 2), hx, hp => simp at hx
theorem owns_form3 {w : World} {base : Nat} {e : TypeId} {s : Nat} {v : Value} {n : Nat} {xs : List Value} (h : w.ownsRow base e s v n xs) : ∃ ao cap, v = .slice ao n cap := by
  rcases h.2 with ⟨rfl, h0⟩ | ⟨g, cap, cur, rfl, _⟩
  · exact ⟨none, 0, by rw [h0]⟩
  · exact ⟨_, _, rfl⟩
theorem owns_low {w : World} {b0 b1 : Nat} {e : TypeId} {s : Nat} {v : Value} {n : Nat} {xs : List Value} (h : w.ownsRow b1 e s v n xs) (hle : b0 ≤ b1) : w.ownsRow b0 e s v n xs := by
  refine ⟨h.1, ?_⟩
  rcases h.2 with h | ⟨g, cap, cur, hv, hb, r⟩
  · exact .inl h
  · exact .inr ⟨g, cap, cur, hv, Nat.le_trans hle hb, r⟩
theorem owns_bl {w w' : World} {base : Nat} {e : TypeId} {s : Nat} {v : Value} {n : Nat} {xs : List Value} (h : w.ownsRow base e s v n xs) (hb : Below w.heap.size w w') : w'.ownsRow base e s v n xs := by
  refine ⟨h.1, ?_⟩
  rcases h.2 with h | ⟨g, cap, cur, rfl, hbb, hg, r⟩
  · exact .inl h
  · exact .inr ⟨g, cap, cur, rfl, hbb, bl_get hb hg, r⟩

set_option maxRecDepth 100000 in
set_option maxHeartbeats 1000000 in
theorem recput_any (v : Value) (p : List Int) (hw : Hid (∀ n ∈ p, (Lit.int .u8 n).wf = true)) (w : World) (hr : Reads (Value.int .u8) w v p) :
    Calls Try.prog 9 #[v] w fun e w' => ∃ u, e = .returned (.tuple #[u, .int .i64 (recE p)]) ∧ w'.ownsRow w.heap.size 5 1 u (recO p).length ((recO p).map (Value.int .u8)) ∧ Below w.heap.size w w' := by
  obtain ⟨ao, cap, rfl⟩ : ∃ ao cap, v = .slice ao p.length cap := by
    obtain ⟨_, ao, cap, h, _⟩ := hr
    exact ⟨ao, cap, h⟩
  by_cases h0 : p.length = 0
  · have e1 : recE p = 2 := by unfold recE; rw [if_pos h0]
    have e2 : recO p = [] := by unfold recO; rw [e1]; rfl
    rw [e1, e2]
    have h00 : (p.length : Int) = 0 := by omega
    clear hr
    go_enter Try.func9, Try.ntmps9
    go_wp2
    go_ret2
    exact ⟨_, rfl, ⟨by simp, .inl ⟨rfl, rfl⟩⟩, bl_refl _⟩
  · by_cases h1 : 65536 < p.length
    · have e1 : recE p = 3 := by unfold recE; rw [if_neg h0, if_pos h1]
      have e2 : recO p = [] := by unfold recO; rw [e1]; rfl
      rw [e1, e2]
      clear hr
      go_enter Try.func9, Try.ntmps9
      go_wp2
      go_ret2
      exact ⟨_, rfl, ⟨by simp, .inl ⟨rfl, rfl⟩⟩, bl_refl _⟩
    · have e1 : recE p = 0 := by unfold recE; rw [if_neg h0, if_neg h1]
      have e2 : recO p = be p.length 4 ++ be (sumN (be p.length 4 ++ p)) 4 ++ p := by unfold recO; rw [if_pos e1]; rfl
      rw [e1, e2]
      have c1 : IntKind.u64.wrap (p.length : Int) = (p.length : Int) := wrap_u64 (by omega)
      have c2 : IntKind.u64.wrap ((sumN (be p.length 4 ++ p) : Nat) : Int) = ((sumN (be p.length 4 ++ p) : Nat) : Int) := wrap_u64 (by have := sumN_lt (be p.length 4 ++ p); omega)
      have hbw := Lib.hid (be_wf p.length 4)
      have hbl := be_length p.length 4
      clear e1 e2
      go_enter Try.func9, Try.ntmps9
      go_wp2_with fail
      refine (put_good (.slice none 0 0) [] p.length 4 (by omega) (by omega) (.inr (by omega)) _ (Reads.nil _ _) (by simp)).mono ?_
      rintro e w1 ⟨u1, rfl, hO1, hb1⟩
      rw [List.nil_append] at hO1
      obtain ⟨lo, lc, rfl⟩ := owns_form3 hO1
      have hr1 := hr.below hb1
      have hl1 := Reads.of_owns hO1 (by rw [hbl]; simp [maxLen])
      have hL := lst_two hl1 hr1
      go_wp2_with fail
      refine (sum_any _ [be p.length 4, p] (by
        intro q hq n hn
        simp at hq
        rcases hq with rfl | rfl
        · exact hbw.out n hn
        · exact hw.out n hn) _ hL).mono ?_
      rintro e w2 ⟨rfl, rfl⟩
      have hl2 := hl1.below (bl_alloc (bl_refl w1) (.cells #[.slice lo (be p.length 4).length lc, .slice ao p.length cap] 22))
      have hr2 := hr1.below (bl_alloc (bl_refl w1) (.cells #[.slice lo (be p.length 4).length lc, .slice ao p.length cap] 22))
      rw [show [be p.length 4, p].flatten = be p.length 4 ++ p by simp]
      go_wp2_with fail
      refine (put_good _ (be p.length 4) (sumN (be p.length 4 ++ p)) 4 (by omega) (by omega) (.inr (by have := sumN_lt (be p.length 4 ++ p); omega)) _ hl2 (by rw [hbl]; omega)).mono ?_
      rintro e w3 ⟨u3, rfl, hO3, hb3⟩
      have hr3 := hr2.below hb3
      have hb13 := bl_trans (bl_alloc (bl_refl w1) (.cells #[.slice lo (be p.length 4).length lc, .slice ao p.length cap] 22)) hb3
      have hbb := bl_trans hb1 hb13
      have hO3 := owns_low hO3 (show w.heap.size ≤ _ from (bl_alloc hb1 _).size)
      obtain ⟨ro, rc, rfl⟩ := owns_form3 hO3
      obtain ⟨i0, hi, hz0, hz1, hz2⟩ := info_parts infoByte
      have P0 : (be p.length 4 ++ be (sumN (be p.length 4 ++ p)) 4).length = 8 := by simp [be_length]
      have P1 : (be p.length 4 ++ be (sumN (be p.length 4 ++ p)) 4).length + p.length ≤ maxLen := by rw [P0]; simp only [maxLen]; omega
      have P2 : ((be p.length 4 ++ be (sumN (be p.length 4 ++ p)) 4).length + p.length) * 1 ≤ 140737488355328 := by rw [P0]; omega
      clear P0 hbl
      go_wp2_with (at_builtin; refine wpList_append_r _ rfl _ _ 22 rfl w.heap.size 5 i0 (.int .u8 0) 1 Try.underlying22 hi hz0 hz1 hz2 rfl _ _ _ rfl hO3 (Value.int .u8) _ p rfl hr3 (by intros; rfl) P1 P2 hbb.size ?_; intro u4 w4 hO4 hg4 hne4)
      go_ret2
      refine ⟨_, rfl, ?_, bl_grown hbb hg4 (fun k hk => (hO3.lt k hk).1)⟩
      rw [List.length_append, List.map_append]
      exact hO4

end Go.Proofs.Ytaembdlidaogdaa
