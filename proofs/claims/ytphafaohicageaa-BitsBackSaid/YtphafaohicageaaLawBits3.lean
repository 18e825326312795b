/- The walks of the statements BitsBack, BitsPuts. Conditions: the arguments' own. -/
import Derived.WalkKit
import Derived.Lib.Hide
import Derived.Test.YtphafaohicageaaLawBits
import Derived.Test.YtphafaohicageaaLater
import Derived.Test.YtphafaohicageaaFrm
namespace Go.Proofs.Ytphafaohicageaa
open Go.RowKit

/-- The first elements of what reads as a list. -/
theorem Reads.front {α : Type} {f : α → Value} {w : World} {ao : Option Addr} {n cap : Nat} {xs ys : List α} (h : Reads f w (.slice ao n cap) (xs ++ ys)) : Reads f w (.slice ao xs.length cap) xs := by
  obtain ⟨hm, ao', cap', hv, ⟨h1, h2⟩, hc⟩ := h
  cases hv
  simp only [List.length_append] at hm h1
  exact ⟨by omega, _, _, rfl, ⟨by omega, h2⟩, fun i x hx => hc i x (by rw [List.getElem?_append_left (List.getElem?_eq_some_iff.1 hx).1]; exact hx)⟩

set_option maxRecDepth 100000 in
set_option maxHeartbeats 1000000 in
theorem walkBitsBack (v : Value) (l : List Int) (w : World) (hr : Reads (Value.int .u8) w v l) (hw : ∀ n ∈ l, (Lit.int .u8 n).wf = true) (hle : l.length * 1 ≤ reachBytes) (n : Int) (hn : (Lit.int .u64 n).wf = true) (s : Int) (_ : (Lit.int .i64 s).wf = true) :
    Calls Try.prog 5 #[v, .int .u64 n, .int .i64 s] w fun e w' => e = .returned (.bool true) ∧ Below w.heap.size w w' := by
  obtain ⟨N, rfl, hN⟩ := nat_u64 hn
  have hN := Lib.hid hN
  unfold reachBytes at hle
  by_cases hg : (1 ≤ s ∧ s ≤ 8) ∧ N < 2 ^ (8 * s.toNat)
  · obtain ⟨⟨h1, h2⟩, h3⟩ := hg
    obtain ⟨s, rfl⟩ := Int.eq_ofNat_of_zero_le (show 0 ≤ s by omega)
    rw [Int.toNat_natCast] at h3
    have hG := Lib.hid (get_back (bs := l) (by omega) (by omega) h3)
    have hW : Hid (∀ n ∈ l ++ be N s, (Lit.int .u8 n).wf = true) := fun n hn => by
      rcases List.mem_append.1 hn with h | h
      · exact hw n h
      · exact be_wf _ _ n h
    have hfit : Hid (s = 8 ∨ N < 2 ^ (8 * s)) := .inr h3
    clear h3
    have hr0 := hr
    obtain ⟨hm, ao, cap, rfl, ⟨hcap, _⟩, _⟩ := hr
    have hm2 := hm
    unfold maxLen at hm2
    go_enter Try.func5, Try.ntmps5
    go_wp2_with fail
    refine (put_good _ l N s (by omega) (by omega) hfit _ hr0 (by omega)).mono ?_
    rintro e w1 ⟨u, rfl, hown, hb⟩
    have hu := Reads.of_owns hown (by rw [List.length_append, be_length]; unfold maxLen; omega)
    clear hown
    have hu0 := hu
    obtain ⟨_, ao2, cap2, rfl, ⟨hcap2, _⟩, hc2⟩ := hu
    have hlen : (l ++ be N s).length = l.length + s := by rw [List.length_append, be_length]
    rw [hlen] at hu0 hcap2
    rw [hlen]
    obtain ⟨x0, hx0⟩ := get_some (xs := l ++ be N s) (k := 0) (by rw [hlen]; omega)
    obtain ⟨b2, o2, rfl, _⟩ := hc2 0 x0 hx0
    clear hc2 hlen
    go_wp2_with fail
    refine (get_any _ (l ++ be N s) l.length s (by omega) hW _ hu0).mono ?_
    rintro e w2 ⟨rfl, rfl⟩
    rw [hG.out.1, hG.out.2]
    have hs1 : ∀ x : Later w1, (convert 22 9 (.slice (some ⟨b2, o2, none⟩) l.length cap2)).run Try.prog x.w = .ok (.string (strOfNums l)) x.w := fun x => conv_reads (hu0.front.below x.h)
    have hs2 : ∀ x : Later w1, (convert 22 9 (.slice ao l.length cap)).run Try.prog x.w = .ok (.string (strOfNums l)) x.w := fun x => conv_reads ((hr0.below hb).below x.h)
    go_wp2_with fail
    refine wp_region_later (by kernel_rfl) (by kernel_rfl) ?_
    repeat (go_big_quiet_step ((first | (go_at_call 13; exact calls_later (awake_any _)))))
    refine wpQuiet_nil ?_
    rintro _ ⟨x, rfl⟩
    go_wp2
    go_ret
    exact ⟨rfl, bl_trans hb x.h⟩
  · by_cases h1 : s < 1 ∨ 8 < s
    · have h1 := Lib.hid h1
      clear hg
      go_enter Try.func5, Try.ntmps5
      go_wp2_with fail
      refine (put_bad _ N s h1.out _).mono ?_
      rintro e w1 ⟨rfl, rfl⟩
      go_wp2_with fail
      refine (awake_any _).mono ?_
      rintro e w' ⟨rfl, hb⟩
      go_wp2
      go_ret
      exact ⟨rfl, hb⟩
    · obtain ⟨s, rfl⟩ := Int.eq_ofNat_of_zero_le (show 0 ≤ s by omega)
      rw [Int.toNat_natCast] at hg
      have h2 : Hid (2 ^ (8 * s) ≤ N) := by unfold Hid; omega
      have h3 : s ≠ 8 := by
        rintro rfl
        exact absurd hN.out (Nat.not_lt.2 h2.out)
      clear hg
      have h4 : 1 ≤ s := by omega
      have h5 : s < 8 := by omega
      clear h1 h3
      go_enter Try.func5, Try.ntmps5
      go_wp2_with fail
      refine (put_long _ N s h4 h5 h2 _).mono ?_
      rintro e w1 ⟨rfl, rfl⟩
      go_wp2_with fail
      refine (awake_any _).mono ?_
      rintro e w' ⟨rfl, hb⟩
      go_wp2
      go_ret
      exact ⟨rfl, hb⟩

end Go.Proofs.Ytphafaohicageaa
