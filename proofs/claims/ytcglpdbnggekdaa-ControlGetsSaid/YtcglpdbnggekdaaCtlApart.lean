/- Two right controls have the same bytes just if they are the same; plain. Conditions: none. -/
import Derived.Test.YtcglpdbnggekdaaCtlPut
import Derived.Test.YtcglpdbnggekdaaCtlSame
namespace Go.Proofs.Ytcglpdbnggekdaa
open Go Go.RowKit

theorem bitN_inj {p q : Bool} (h : bitN p = bitN q) : p = q := by
  cases p <;> cases q <;> simp only [bitN_t, bitN_f] at h <;> first | rfl | omega

set_option maxHeartbeats 2000000 in
theorem bytes_inj {a b : Ctl} (ha : a.chk = 0) (hb : b.chk = 0) (h : a.bytes = b.bytes) : a = b := by
  obtain ⟨k1, ns1, nr1, p1, me1, peer1, d1⟩ := a
  obtain ⟨k2, ns2, nr2, p2, me2, peer2, d2⟩ := b
  obtain ⟨⟨a1, a2⟩, ⟨⟨a3, a4⟩, ⟨a5, a6⟩⟩, a7, _⟩ := chk_zero ha
  obtain ⟨⟨b1, b2⟩, ⟨⟨b3, b4⟩, ⟨b5, b6⟩⟩, b7, _⟩ := chk_zero hb
  have c1 := bitN_lt p1
  have c2 := bitN_lt p2
  clear ha hb
  dsimp only at a1 a2 a3 a4 a5 a6 a7 b1 b2 b3 b4 b5 b6 b7
  simp only [Ctl.bytes, be, List.cons_append, List.nil_append] at h
  have key : k1 = k2 ∧ ns1 = ns2 ∧ nr1 = nr2 ∧ bitN p1 = bitN p2 ∧ me1 = me2 ∧ peer1 = peer2 ∧ d1 = d2 := by
    rcases (show k1 = 1 ∨ k1 = 2 ∨ k1 = 3 ∨ k1 = 4 ∨ k1 = 5 ∨ k1 = 6 ∨ k1 = 7 by omega) with rfl | rfl | rfl | rfl | rfl | rfl | rfl <;>
    rcases (show k2 = 1 ∨ k2 = 2 ∨ k2 = 3 ∨ k2 = 4 ∨ k2 = 5 ∨ k2 = 6 ∨ k2 = 7 by omega) with rfl | rfl | rfl | rfl | rfl | rfl | rfl <;>
    simp [Ctl.sec] at h <;> first
    | omega
    | (refine ⟨rfl, by omega, by omega, by omega, by omega, by omega, ?_⟩; exact h.2.2.2.2.2.2)
    | (refine ⟨rfl, by omega, by omega, by omega, by omega, by omega, ?_⟩; exact h.2.2.2.2.2)
    | (refine ⟨rfl, by omega, by omega, by omega, by omega, by omega, ?_⟩; exact h.2.2.2.2)
  obtain ⟨rfl, rfl, rfl, hp, rfl, rfl, rfl⟩ := key
  rw [bitN_inj hp]

theorem sec_wf {c : Ctl} (h : c.chk = 0) : ∀ n ∈ c.sec, (Lit.int .u8 n).wf = true := by
  obtain ⟨_, ⟨⟨a3, a4⟩, _⟩, _⟩ := chk_zero h
  have c1 := bitN_lt c.p
  intro n hn
  refine Go.WalkArith.wf_u8 ?_
  unfold Ctl.sec at hn
  split at hn
  · simp at hn; omega
  · split at hn
    · simp at hn; omega
    · split at hn
      · simp at hn; omega
      · split at hn
        · simp at hn; omega
        · split at hn
          · simp at hn; omega
          · split at hn
            · simp at hn; omega
            · simp at hn; omega
theorem bytes_wf {c : Ctl} (h : c.chk = 0) (hw : ∀ n ∈ c.data, (Lit.int .u8 n).wf = true) : ∀ n ∈ c.bytes, (Lit.int .u8 n).wf = true := by
  intro n hn
  unfold Ctl.bytes at hn
  rcases List.mem_cons.1 hn with rfl | hn
  · decide
  rcases List.mem_append.1 hn with h1 | hn
  · exact sec_wf h n h1
  rcases List.mem_append.1 hn with h1 | hn
  · exact be_wf _ _ n h1
  rcases List.mem_append.1 hn with h1 | hn
  · exact be_wf _ _ n h1
  · exact hw n hn

theorem str_eq {xs ys : List Int} (hx : ∀ n ∈ xs, (Lit.int .u8 n).wf = true) (hy : ∀ n ∈ ys, (Lit.int .u8 n).wf = true) : ((strOfNums xs).toList == (strOfNums ys).toList) = decide (xs = ys) := by
  by_cases h : xs = ys
  · subst h; simp
  · rw [decide_eq_false h, beq_eq_false_iff_ne]
    intro h2
    apply h
    refine str_inj hx hy ?_
    rw [ByteArray.toList_eq, ByteArray.toList_eq] at h2
    have h3 : (strOfNums xs).data = (strOfNums ys).data := Array.toList_inj.1 h2
    have e1 : strOfNums xs = ⟨(strOfNums xs).data⟩ := rfl
    have e2 : strOfNums ys = ⟨(strOfNums ys).data⟩ := rfl
    rw [e1, e2, h3]
theorem same_iff {a b : Ctl} (ha : ∀ n ∈ a.data, (Lit.int .u8 n).wf = true) (hb : ∀ n ∈ b.data, (Lit.int .u8 n).wf = true) : sameB a b = true ↔ a = b := by
  obtain ⟨k1, ns1, nr1, p1, me1, peer1, d1⟩ := a
  obtain ⟨k2, ns2, nr2, p2, me2, peer2, d2⟩ := b
  dsimp only at ha hb
  simp [sameB, str_eq ha hb]
theorem apart_eq {a b : Ctl} (ha : a.chk = 0) (hb : b.chk = 0) (wa : ∀ n ∈ a.data, (Lit.int .u8 n).wf = true) (wb : ∀ n ∈ b.data, (Lit.int .u8 n).wf = true) : ((strOfNums a.bytes).toList == (strOfNums b.bytes).toList) = sameB a b := by
  rw [Bool.eq_iff_iff, same_iff wa wb, str_eq (bytes_wf ha wa) (bytes_wf hb wb), decide_eq_true_iff]
  exact ⟨fun h => bytes_inj ha hb h, fun h => by rw [h]⟩

end Go.Proofs.Ytcglpdbnggekdaa
