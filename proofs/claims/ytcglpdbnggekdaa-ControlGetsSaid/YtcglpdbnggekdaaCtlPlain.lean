/- The control that bytes tell and the bytes of a control: each the other's inverse; plain. Conditions: none. -/
import Derived.Test.YtcglpdbnggekdaaCtlApart
import Derived.Test.YtcglpdbnggekdaaCtlGet
namespace Go.Proofs.Ytcglpdbnggekdaa
open Go Go.RowKit

/-- Are bytes a control's? -/
def GetOk (p : List Int) : Prop := 6 ≤ p.length ∧ p[0]? = some 3 ∧ (thirdB (kindN (p.getD 1 0)) = true → 7 ≤ p.length) ∧ (Ctl.of p).chk = 0
instance (p : List Int) : Decidable (GetOk p) := by unfold GetOk; infer_instance
def getC (p : List Int) : Ctl := if GetOk p then Ctl.of p else Ctl.zero
def getErr (p : List Int) : Int := if GetOk p then 0 else 2
theorem getC_ok {p : List Int} (h : GetOk p) : getC p = Ctl.of p := if_pos h
theorem getC_bad {p : List Int} (h : ¬ GetOk p) : getC p = Ctl.zero := if_neg h
theorem getErr_ok {p : List Int} (h : GetOk p) : getErr p = 0 := if_pos h
theorem getErr_bad {p : List Int} (h : ¬ GetOk p) : getErr p = 2 := if_neg h

theorem getTo_two (bs : List Int) (a : Nat) : getTo bs a 2 = 256 * (bs.getD a 0).toNat + (bs.getD (a + 1) 0).toNat := by
  rw [getTo_succ, getTo_succ, getTo_zero]; simp
theorem getV_two {bs : List Int} {a : Nat} (h : a + 2 ≤ bs.length) : getV bs a 2 = 256 * (bs.getD a 0).toNat + (bs.getD (a + 1) 0).toNat := by
  rw [← getTo_two]
  exact (get_good' (bs := bs) (a := a) (s := 2) (by omega) (by omega)).2
theorem kind_bits : ∀ n : Fin 256, (kindN (n.val : Int) = 1 → 2 * ((n.val : Int) / 2) = n.val) ∧ (kindN (n.val : Int) = 2 → (n.val : Int) = 1) ∧ (kindN (n.val : Int) = 3 → (n.val : Int) = 5) ∧ (kindN (n.val : Int) = 4 → (n.val : Int) = 13) ∧
    (kindN (n.val : Int) = 5 → (n.val : Int) = 111 + 16 * (if bits .and .u8 (n.val : Int) 16 != 0 then 1 else 0)) ∧ (kindN (n.val : Int) = 6 → (n.val : Int) = 99 + 16 * (if bits .and .u8 (n.val : Int) 16 != 0 then 1 else 0)) ∧
    (kindN (n.val : Int) = 7 → (n.val : Int) = 15 + 16 * (if bits .and .u8 (n.val : Int) 16 != 0 then 1 else 0)) := by decide +kernel
theorem low_bits : ∀ n : Fin 256, (n.val : Int) = 2 * ((n.val : Int) / 2) + (if bits .and .u8 (n.val : Int) 1 == 1 then 1 else 0) := by decide +kernel
theorem low_one : ∀ (n : Fin 128) (p : Bool), (bits .and .u8 (2 * (n.val : Int) + (if p then 1 else 0)) 1 == 1) = p := by decide +kernel
theorem kind_even : ∀ n : Fin 128, kindN (2 * (n.val : Int)) = 1 := by decide +kernel
theorem bitN_if (p : Bool) : ((bitN p : Nat) : Int) = if p then 1 else 0 := by cases p <;> simp [bitN_t, bitN_f]
theorem be_two (a b : Int) (ha : 0 ≤ a ∧ a ≤ 255) (hb : 0 ≤ b ∧ b ≤ 255) : be (256 * a.toNat + b.toNat) 2 = [a, b] := by
  simp only [be, List.cons.injEq, and_true]
  simp
  omega
theorem wf_bd {n : Int} (h : (Lit.int .u8 n).wf = true) : 0 ≤ n ∧ n ≤ 255 := by have := bounds_u8 h; omega
theorem fin_of {n : Int} (h : 0 ≤ n ∧ n ≤ 255) : ∃ m : Fin 256, n = (m.val : Int) := ⟨⟨n.toNat, by omega⟩, by simp; omega⟩

theorem sec_1 {k ns nr me peer : Int} {p : Bool} {ds : List Int} (h : k = 1) : Ctl.sec ⟨k, ns, nr, p, me, peer, ds⟩ = [2 * ns, 2 * nr + bitN p] := by simp [Ctl.sec, h]
theorem sec_2 {k ns nr me peer : Int} {p : Bool} {ds : List Int} (h : k = 2) : Ctl.sec ⟨k, ns, nr, p, me, peer, ds⟩ = [1, 2 * nr + bitN p] := by simp [Ctl.sec, h]
theorem sec_3 {k ns nr me peer : Int} {p : Bool} {ds : List Int} (h : k = 3) : Ctl.sec ⟨k, ns, nr, p, me, peer, ds⟩ = [5, 2 * nr + bitN p] := by simp [Ctl.sec, h]
theorem sec_4 {k ns nr me peer : Int} {p : Bool} {ds : List Int} (h : k = 4) : Ctl.sec ⟨k, ns, nr, p, me, peer, ds⟩ = [13, 2 * nr + bitN p] := by simp [Ctl.sec, h]
theorem sec_5 {k ns nr me peer : Int} {p : Bool} {ds : List Int} (h : k = 5) : Ctl.sec ⟨k, ns, nr, p, me, peer, ds⟩ = [111 + 16 * ((bitN p : Nat) : Int)] := by simp [Ctl.sec, h]
theorem sec_6 {k ns nr me peer : Int} {p : Bool} {ds : List Int} (h : k = 6) : Ctl.sec ⟨k, ns, nr, p, me, peer, ds⟩ = [99 + 16 * ((bitN p : Nat) : Int)] := by simp [Ctl.sec, h]
theorem sec_7 {k ns nr me peer : Int} {p : Bool} {ds : List Int} (h : k = 7) : Ctl.sec ⟨k, ns, nr, p, me, peer, ds⟩ = [15 + 16 * ((bitN p : Nat) : Int)] := by simp [Ctl.sec, h]

theorem third_iff (k : Int) : thirdB k = true ↔ 1 ≤ k ∧ k ≤ 4 := by simp [thirdB]
theorem of_third {p : List Int} (h : thirdB (kindN (p.getD 1 0)) = true) : Ctl.of p = ⟨kindN (p.getD 1 0), if kindN (p.getD 1 0) = 1 then p.getD 1 0 / 2 else 0, p.getD 2 0 / 2, bits .and .u8 (p.getD 2 0) 1 == 1, getV p 3 2, getV p 5 2, p.drop 7⟩ := by
  simp only [Ctl.of, h, if_true]
theorem of_no {p : List Int} (h : thirdB (kindN (p.getD 1 0)) = false) : Ctl.of p = ⟨kindN (p.getD 1 0), if kindN (p.getD 1 0) = 1 then p.getD 1 0 / 2 else 0, 0, bits .and .u8 (p.getD 1 0) 16 != 0, getV p 2 2, getV p 4 2, p.drop 6⟩ := by
  simp only [Ctl.of, h, Bool.false_eq_true, if_false]

theorem of_bytes {p : List Int} (hw : ∀ n ∈ p, (Lit.int .u8 n).wf = true) (h : GetOk p) : (Ctl.of p).bytes = p := by
  obtain ⟨h6, h0, h7, hc⟩ := h
  have hk := (chk_zero (show chkN (Ctl.of p).k (Ctl.of p).ns (Ctl.of p).nr (Ctl.of p).me (Ctl.of p).peer (Ctl.of p).data.length = 0 from hc)).1
  clear hc
  match p, h6 with
  | x0 :: x1 :: x2 :: x3 :: x4 :: x5 :: r, _ =>
    obtain rfl : x0 = 3 := by simpa using h0
    have b1 := wf_bd (hw x1 (by simp))
    have b2 := wf_bd (hw x2 (by simp))
    have b3 := wf_bd (hw x3 (by simp))
    have b4 := wf_bd (hw x4 (by simp))
    have b5 := wf_bd (hw x5 (by simp))
    obtain ⟨n1, e1⟩ := fin_of b1
    have hkb := kind_bits n1
    rw [← e1] at hkb
    have hk' : 1 ≤ kindN x1 ∧ kindN x1 ≤ 7 := hk
    clear hk
    by_cases ht : thirdB (kindN x1) = true
    · rw [of_third (by exact ht)]
      match r, h7 (by exact ht) with
      | x6 :: r, _ =>
        have b6 := wf_bd (hw x6 (by simp))
        obtain ⟨n2, e2⟩ := fin_of b2
        have hlb := low_bits n2
        rw [← e2] at hlb
        rw [show getV (3 :: x1 :: x2 :: x3 :: x4 :: x5 :: x6 :: r) 3 2 = 256 * x3.toNat + x4.toNat from getV_two (a := 3) (by simp), show getV (3 :: x1 :: x2 :: x3 :: x4 :: x5 :: x6 :: r) 5 2 = 256 * x5.toNat + x6.toNat from getV_two (a := 5) (by simp)]
        simp only [Ctl.bytes, Int.toNat_natCast, be_two _ _ b3 b4, be_two _ _ b5 b6, List.getD_cons_succ, List.getD_cons_zero]
        have hlow : 2 * (x2 / 2) + ((bitN (bits .and .u8 x2 1 == 1) : Nat) : Int) = x2 := by rw [bitN_if]; exact hlb.symm
        have hk4 := (third_iff _).1 ht
        rcases (show kindN x1 = 1 ∨ kindN x1 = 2 ∨ kindN x1 = 3 ∨ kindN x1 = 4 by omega) with hk | hk | hk | hk
        · rw [if_pos hk, sec_1 hk, hlow, hkb.1 hk]; rfl
        · rw [sec_2 hk, hlow, ← hkb.2.1 hk]; rfl
        · rw [sec_3 hk, hlow, ← hkb.2.2.1 hk]; rfl
        · rw [sec_4 hk, hlow, ← hkb.2.2.2.1 hk]; rfl
    · rw [Bool.not_eq_true] at ht
      rw [of_no (by exact ht)]
      rw [show getV (3 :: x1 :: x2 :: x3 :: x4 :: x5 :: r) 2 2 = 256 * x2.toNat + x3.toNat from getV_two (a := 2) (by simp), show getV (3 :: x1 :: x2 :: x3 :: x4 :: x5 :: r) 4 2 = 256 * x4.toNat + x5.toNat from getV_two (a := 4) (by simp)]
      simp only [Ctl.bytes, Int.toNat_natCast, be_two _ _ b2 b3, be_two _ _ b4 b5, List.getD_cons_succ, List.getD_cons_zero]
      have hk4 : ¬ (1 ≤ kindN x1 ∧ kindN x1 ≤ 4) := fun h => by rw [(third_iff _).2 h] at ht; cases ht
      rcases (show kindN x1 = 5 ∨ kindN x1 = 6 ∨ kindN x1 = 7 by omega) with hk | hk | hk
      · have := hkb.2.2.2.2.1 hk
        rw [← bitN_if] at this
        rw [sec_5 hk, ← this]; rfl
      · have := hkb.2.2.2.2.2.1 hk
        rw [← bitN_if] at this
        rw [sec_6 hk, ← this]; rfl
      · have := hkb.2.2.2.2.2.2 hk
        rw [← bitN_if] at this
        rw [sec_7 hk, ← this]; rfl

/-- The only control of a kind that bytes can be. -/
def Ctl.guess (p : List Int) (k : Int) : Ctl where
  k := k
  ns := if k = 1 then p.getD 1 0 / 2 else 0
  nr := if k ≤ 4 then p.getD 2 0 / 2 else 0
  p := if k ≤ 4 then p.getD 2 0 % 2 == 1 else p.getD 1 0 / 16 % 2 == 1
  me := ((getV p (if k ≤ 4 then 3 else 2) 2 : Nat) : Int)
  peer := ((getV p (if k ≤ 4 then 5 else 4) 2 : Nat) : Int)
  data := p.drop (if k ≤ 4 then 7 else 6)

theorem toNat_two {n : Int} (h : 0 ≤ n ∧ n ≤ 65535) : ((256 * ((n.toNat / 256 % 256 : Nat) : Int).toNat + ((n.toNat % 256 : Nat) : Int).toNat : Nat) : Int) = n := by omega

theorem bytes_four {c : Ctl} (h : c.chk = 0) (hk : c.k ≤ 4) : ∃ s1, c.bytes = 3 :: s1 :: (2 * c.nr + (bitN c.p : Nat)) :: ((c.me.toNat / 256 % 256 : Nat) : Int) :: ((c.me.toNat % 256 : Nat) : Int) :: ((c.peer.toNat / 256 % 256 : Nat) : Int) :: ((c.peer.toNat % 256 : Nat) : Int) :: c.data ∧
    ((c.k = 1 ∧ s1 = 2 * c.ns) ∨ (c.k = 2 ∧ s1 = 1) ∨ (c.k = 3 ∧ s1 = 5) ∨ (c.k = 4 ∧ s1 = 13)) := by
  have hz := (chk_zero (show chkN c.k c.ns c.nr c.me c.peer c.data.length = 0 from h)).1
  rcases (show c.k = 1 ∨ c.k = 2 ∨ c.k = 3 ∨ c.k = 4 by omega) with e | e | e | e 
  · exact ⟨2 * c.ns, by simp [Ctl.bytes, Ctl.sec, e, be], by simp [e]⟩
  · exact ⟨1, by simp [Ctl.bytes, Ctl.sec, e, be], by simp [e]⟩
  · exact ⟨5, by simp [Ctl.bytes, Ctl.sec, e, be], by simp [e]⟩
  · exact ⟨13, by simp [Ctl.bytes, Ctl.sec, e, be], by simp [e]⟩
theorem bytes_three {c : Ctl} (h : c.chk = 0) (hk : ¬ c.k ≤ 4) : ∃ s1, c.bytes = 3 :: s1 :: ((c.me.toNat / 256 % 256 : Nat) : Int) :: ((c.me.toNat % 256 : Nat) : Int) :: ((c.peer.toNat / 256 % 256 : Nat) : Int) :: ((c.peer.toNat % 256 : Nat) : Int) :: c.data ∧
    ((c.k = 5 ∧ s1 = 111 + 16 * (bitN c.p : Nat)) ∨ (c.k = 6 ∧ s1 = 99 + 16 * (bitN c.p : Nat)) ∨ (c.k = 7 ∧ s1 = 15 + 16 * (bitN c.p : Nat))) := by
  have hz := (chk_zero (show chkN c.k c.ns c.nr c.me c.peer c.data.length = 0 from h)).1
  rcases (show c.k = 5 ∨ c.k = 6 ∨ c.k = 7 by omega) with e | e | e
  · exact ⟨111 + 16 * (bitN c.p : Nat), by simp [Ctl.bytes, Ctl.sec, e, be], by simp [e]⟩
  · exact ⟨99 + 16 * (bitN c.p : Nat), by simp [Ctl.bytes, Ctl.sec, e, be], by simp [e]⟩
  · exact ⟨15 + 16 * (bitN c.p : Nat), by simp [Ctl.bytes, Ctl.sec, e, be], by simp [e]⟩

theorem poll_kinds : ∀ p : Bool, (kindN (111 + 16 * (if p then 1 else 0)) = 5 ∧ kindN (99 + 16 * (if p then 1 else 0)) = 6 ∧ kindN (15 + 16 * (if p then 1 else 0)) = 7) ∧
    ((bits .and .u8 (111 + 16 * (if p then 1 else 0)) 16 != 0) = p ∧ (bits .and .u8 (99 + 16 * (if p then 1 else 0)) 16 != 0) = p ∧ (bits .and .u8 (15 + 16 * (if p then 1 else 0)) 16 != 0) = p) ∧
    (((111 + 16 * (if p then 1 else 0) : Int) / 16 % 2 == 1) = p ∧ ((99 + 16 * (if p then 1 else 0) : Int) / 16 % 2 == 1) = p ∧ ((15 + 16 * (if p then 1 else 0) : Int) / 16 % 2 == 1) = p) := by decide +kernel
theorem kind_lits : kindN 1 = 2 ∧ kindN 5 = 3 ∧ kindN 13 = 4 := by decide +kernel

theorem guess_bytes {c : Ctl} (h : c.chk = 0) : Ctl.guess c.bytes c.k = c ∧ Ctl.of c.bytes = c ∧ GetOk c.bytes := by
  have hz := chk_zero (show chkN c.k c.ns c.nr c.me c.peer c.data.length = 0 from h)
  obtain ⟨hk7, ⟨⟨hns, hnr⟩, hme, hpeer⟩, hform, _⟩ := hz
  have h0 := h
  have key : Ctl.guess c.bytes c.k = c ∧ Ctl.of c.bytes = c ∧ (6 ≤ c.bytes.length ∧ c.bytes[0]? = some 3 ∧ (thirdB (kindN (c.bytes.getD 1 0)) = true → 7 ≤ c.bytes.length)) := by
    by_cases hk : c.k ≤ 4
    · obtain ⟨s1, hb, hs⟩ := bytes_four h hk
      obtain ⟨n, hn⟩ : ∃ n : Fin 128, c.nr = (n.val : Int) := ⟨⟨c.nr.toNat, by omega⟩, by simp; omega⟩
      obtain ⟨m, hm⟩ : ∃ m : Fin 128, c.ns = (m.val : Int) := ⟨⟨c.ns.toNat, by omega⟩, by simp; omega⟩
      have hkind : kindN s1 = c.k := by
        rcases hs with ⟨e, r⟩ | ⟨e, r⟩ | ⟨e, r⟩ | ⟨e, r⟩ <;> rw [r, e]
        · rw [hm]; exact kind_even m
        · exact kind_lits.1
        · exact kind_lits.2.1
        · exact kind_lits.2.2
      have hns1 : (if c.k = 1 then s1 / 2 else 0) = c.ns := by
        rcases hs with ⟨e, r⟩ | ⟨e, r⟩ | ⟨e, r⟩ | ⟨e, r⟩ <;> rw [e]
        · rw [r]; simp
        · simp; omega
        · simp; omega
        · simp; omega
      have hl := low_one n c.p
      rw [← hn, ← bitN_if] at hl
      have hbl := bitN_lt c.p
      have hp2 : ((2 * c.nr + ((bitN c.p : Nat) : Int)) % 2 == 1) = c.p := by
        rw [show (2 * c.nr + ((bitN c.p : Nat) : Int)) % 2 = ((bitN c.p : Nat) : Int) by omega, bitN_if]
        cases c.p <;> rfl
      have hnr1 : (2 * c.nr + ((bitN c.p : Nat) : Int)) / 2 = c.nr := by omega
      have ht : thirdB (kindN s1) = true := by rw [hkind]; exact (third_iff _).2 (by omega)
      have hme2 := toNat_two hme
      have hpeer2 := toNat_two hpeer
      have hv3 : getV c.bytes 3 2 = 256 * (c.bytes.getD 3 0).toNat + (c.bytes.getD 4 0).toNat := getV_two (a := 3) (by rw [hb]; simp)
      have hv5 : getV c.bytes 5 2 = 256 * (c.bytes.getD 5 0).toNat + (c.bytes.getD 6 0).toNat := getV_two (a := 5) (by rw [hb]; simp)
      refine ⟨?_, ?_, ?_⟩
      · unfold Ctl.guess
        simp only [if_pos hk, hv3, hv5]
        obtain ⟨k, ns, nr, p, me, peer, ds⟩ := c
        dsimp only at *
        rw [hb]
        simp only [List.getD_cons_succ, List.getD_cons_zero, List.drop_succ_cons, List.drop_zero, hns1, hnr1, hp2, hme2, hpeer2]
      · rw [of_third (by rw [hb]; exact ht), hv3, hv5]
        obtain ⟨k, ns, nr, p, me, peer, ds⟩ := c
        dsimp only at *
        rw [hb]
        simp only [List.getD_cons_succ, List.getD_cons_zero, List.drop_succ_cons, List.drop_zero, hkind, hns1, hnr1, hl, hme2, hpeer2]
      · rw [hb]; simp
    · obtain ⟨s1, hb, hs⟩ := bytes_three h hk
      have hpk := poll_kinds c.p
      rw [← bitN_if] at hpk
      have hkind : kindN s1 = c.k := by
        rcases hs with ⟨e, r⟩ | ⟨e, r⟩ | ⟨e, r⟩ <;> rw [r, e]
        · exact hpk.1.1
        · exact hpk.1.2.1
        · exact hpk.1.2.2
      have hp1 : (bits .and .u8 s1 16 != 0) = c.p := by
        rcases hs with ⟨e, r⟩ | ⟨e, r⟩ | ⟨e, r⟩ <;> rw [r]
        · exact hpk.2.1.1
        · exact hpk.2.1.2.1
        · exact hpk.2.1.2.2
      have hp2 : (s1 / 16 % 2 == 1) = c.p := by
        rcases hs with ⟨e, r⟩ | ⟨e, r⟩ | ⟨e, r⟩ <;> rw [r]
        · exact hpk.2.2.1
        · exact hpk.2.2.2.1
        · exact hpk.2.2.2.2
      have ht : thirdB (kindN s1) = false := by rw [hkind, Bool.eq_false_iff]; intro h; have := (third_iff _).1 h; omega
      have hk1 : ¬ c.k = 1 := by omega
      have hns1 : (0 : Int) = c.ns := by omega
      have hnr1 : (0 : Int) = c.nr := by omega
      have hme2 := toNat_two hme
      have hpeer2 := toNat_two hpeer
      have hv3 : getV c.bytes 2 2 = 256 * (c.bytes.getD 2 0).toNat + (c.bytes.getD 3 0).toNat := getV_two (a := 2) (by rw [hb]; simp)
      have hv5 : getV c.bytes 4 2 = 256 * (c.bytes.getD 4 0).toNat + (c.bytes.getD 5 0).toNat := getV_two (a := 4) (by rw [hb]; simp)
      refine ⟨?_, ?_, ?_⟩
      · unfold Ctl.guess
        simp only [if_neg hk, if_neg hk1, hv3, hv5]
        obtain ⟨k, ns, nr, p, me, peer, ds⟩ := c
        dsimp only at *
        rw [hb]
        simp only [List.getD_cons_succ, List.getD_cons_zero, List.drop_succ_cons, List.drop_zero, ← hns1, ← hnr1, hp2, hme2, hpeer2]
      · rw [of_no (by rw [hb]; exact ht), hv3, hv5]
        obtain ⟨k, ns, nr, p, me, peer, ds⟩ := c
        dsimp only at *
        rw [hb]
        simp only [List.getD_cons_succ, List.getD_cons_zero, List.drop_succ_cons, List.drop_zero, hkind, if_neg hk1, ← hns1, ← hnr1, hp1, hme2, hpeer2]
      · rw [hb]; refine ⟨by simp, by simp, fun h => ?_⟩
        rw [show (3 :: s1 :: ((c.me.toNat / 256 % 256 : Nat) : Int) :: ((c.me.toNat % 256 : Nat) : Int) :: ((c.peer.toNat / 256 % 256 : Nat) : Int) :: ((c.peer.toNat % 256 : Nat) : Int) :: c.data).getD 1 0 = s1 from rfl, ht] at h
        cases h
  exact ⟨key.1, key.2.1, key.2.2.1, key.2.2.2.1, key.2.2.2.2, by rw [key.2.1]; exact h0⟩

/-- A guess that hits is what the bytes tell. -/
def Hit (p : List Int) (k : Int) : Prop := (Ctl.guess p k).chk = 0 ∧ (Ctl.guess p k).bytes = p
theorem hit_get {p : List Int} {k : Int} (h : Hit p k) : GetOk p ∧ getC p = Ctl.guess p k := by
  obtain ⟨_, h2, h3⟩ := guess_bytes h.1
  rw [h.2] at h2 h3
  exact ⟨h3, by rw [getC_ok h3, h2]⟩
theorem get_hit {p : List Int} (hw : ∀ n ∈ p, (Lit.int .u8 n).wf = true) (h : GetOk p) : ∃ k, (1 ≤ k ∧ k ≤ 7) ∧ Hit p k := by
  have hb := of_bytes hw h
  have hc := h.2.2.2
  have hg := (guess_bytes hc).1
  rw [hb] at hg
  exact ⟨(Ctl.of p).k, (chk_zero (show chkN (Ctl.of p).k (Ctl.of p).ns (Ctl.of p).nr (Ctl.of p).me (Ctl.of p).peer (Ctl.of p).data.length = 0 from hc)).1, by rw [Hit, hg]; exact ⟨hc, hb⟩⟩

end Go.Proofs.Ytcglpdbnggekdaa
