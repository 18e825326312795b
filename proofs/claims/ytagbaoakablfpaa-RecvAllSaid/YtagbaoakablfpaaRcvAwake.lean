/- recv.Take at any receiver in order, any bytes; portagelaw08.awake. Conditions: as they stand. -/
import Derived.Lib.SlBytesConst
import Derived.Test.YtagbaoakablfpaaRcvPlain
import Derived.Test.YtagbaoakablfpaaRcvAny
import Derived.Test.YtagbaoakablfpaaByt1
import Derived.Test.YtagbaoakablfpaaLst
import Derived.Test.YtagbaoakablfpaaWinSame
namespace Go.Proofs.Ytagbaoakablfpaa
open Go.RowKit

theorem rctake_any (C D : Nat → Prop) (a : Nat) (r : Rcv) (hok : r.Ok) (ns : Int) (v : Value) (p : List Int) (w : World) (hs : RcvAt C D w a r) (hC : ∀ k, C k ∨ D k → k < w.heap.size) (hr : Reads (Value.int .u8) w v p) (hpw : ∀ n ∈ p, (Lit.int .u8 n).wf = true) :
    Calls Try.prog 9 #[.pointer (some ⟨a, 0, none⟩), .int .i64 ns, v] w fun e w' => ∃ tv av, e = .returned (.tuple #[tv, av, .int .i64 (r.chk ns p.length)]) ∧
      RcvAt C (fun k => D k ∨ (w.heap.size ≤ k ∧ k < w'.heap.size)) w' a (r.take ns p) ∧ Fr C w w' ∧ Pays (fun k => D k ∨ (w.heap.size ≤ k ∧ k < w'.heap.size)) w' tv (r.tells ns p) ∧
      w'.ownsRow w.heap.size 3 1 av (r.wants ns p).length ((r.wants ns p).map (Value.int .i64)) := by
  obtain ⟨hm, ao, cap, rfl, hca, hcc⟩ := hr
  by_cases hE : r.chk ns p.length = 0
  · obtain ⟨_, _, hpl, hnew⟩ := hok.put hE p
    have hl := hok.len
    have := hok.size2
    rw [hE]
    unfold Rcv.take Rcv.tells Rcv.wants
    rw [if_pos hE, if_pos hE, if_pos hE]
    exact rctake_ok C D a r ns ao cap p w hs hC ⟨hm, ao, cap, rfl, hca, hcc⟩ hpw hE hpl (by omega) hnew
  · unfold Rcv.take Rcv.tells Rcv.wants
    rw [if_neg hE, if_neg hE, if_neg hE]
    refine (rctake_bad C D a r ns ao p.length cap w hs hE).mono ?_
    rintro e w' ⟨rfl, k, rfl⟩
    have hb := bl_drewN (bl_refl w) k
    refine ⟨_, _, rfl, (hs.below hb).mono (fun _ h => h) (fun _ h => .inl h) (fun i hi hc => ?_), .of_below hb, Pays.nil _ _, rfl, .inl ⟨rfl, rfl⟩⟩
    rcases hi with hi | hi
    · exact hs.dis i hi hc
    · have := hC i (.inl hc); omega

theorem aw8_ok : (Rcv.mk 4 0 [] []).Ok := new_ok (by omega) (by omega)
theorem aw8_1 : (Rcv.mk 4 0 [] []).chk 1 1 = 0 ∧ (Rcv.mk 4 0 [] []).wants 1 [98] = [0] ∧ (Rcv.mk 4 0 [] []).take 1 [98] = ⟨4, 0, [(1, [98])], [(0, 1)]⟩ := ⟨by kernel_rfl, by kernel_rfl, by kernel_rfl⟩
theorem aw8_2 : (Rcv.mk 4 0 [(1, [98])] [(0, 1)]).chk 0 1 = 0 ∧ (Rcv.mk 4 0 [(1, [98])] [(0, 1)]).tells 0 [97] = [[97], [98]] ∧ ((Rcv.mk 4 0 [(1, [98])] [(0, 1)]).take 0 [97]).waits = 2 := ⟨by kernel_rfl, by kernel_rfl, by kernel_rfl⟩

/-- A pair of one-byte slices, as a slice. -/
theorem lst_two (W : World) (b1 b2 : Nat) (x y : Int) (h1 : Reads (Value.int .u8) W (.slice (some ⟨b1, 0, none⟩) 1 1) [x]) (h2 : Reads (Value.int .u8) W (.slice (some ⟨b2, 0, none⟩) 1 1) [y]) (e : TypeId) :
    Lst (W.alloc (.cells #[.slice (some ⟨b1, 0, none⟩) 1 1, .slice (some ⟨b2, 0, none⟩) 1 1] e)) (.slice (some ⟨W.heap.size, 0, none⟩) 2 2) [[x], [y]] := by
  have hb := bl_alloc (bl_refl W) (.cells #[.slice (some ⟨b1, 0, none⟩) 1 1, .slice (some ⟨b2, 0, none⟩) 1 1] e)
  have hc := heap_alloc_new W (.cells #[.slice (some ⟨b1, 0, none⟩) 1 1, .slice (some ⟨b2, 0, none⟩) 1 1] e)
  refine ⟨[.slice (some ⟨b1, 0, none⟩) 1 1, .slice (some ⟨b2, 0, none⟩) 1 1], rfl, ⟨by simp [maxLen], _, _, rfl, ⟨by simp, fun h => by cases h⟩, fun i z hz => ⟨_, _, rfl, ?_⟩⟩, fun i z p hz hp => ?_⟩
  · rw [cell_of_row _ _ _ _ _ _ hc]
    match i, hz with
    | 0, hz => simp at hz; subst hz; simp
    | 1, hz => simp at hz; subst hz; simp
    | n + 2, hz => simp at hz
  · match i, hz, hp with
    | 0, hz, hp => simp at hz hp; subst hz hp; exact h1.below hb
    | 1, hz, hp => simp at hz hp; subst hz hp; exact h2.below hb
    | n + 2, hz, hp => simp at hz

set_option maxRecDepth 100000 in
set_option maxHeartbeats 1000000 in
theorem awake8_any (w : World) :
    Calls Try.prog 8 #[] w fun e w' => e = .returned (.bool true) ∧ Below w.heap.size w w' := by
  have hcv : ∀ (W : World) (x : Int), (convert 32 32 (.slice (some ⟨W.heap.size, 0, none⟩) 1 1)).run Try.prog (W.alloc (.cells #[.int .u8 x] 5)) = .ok (.slice (some ⟨W.heap.size, 0, none⟩) 1 1) (W.alloc (.cells #[.int .u8 x] 5 (1, 2))) := fun W x => Lib.run_convert_bytes_const W 32 5 #[.int .u8 x] 1 1 Try.underlying32 Try.underlying5
  go_enter Try.func8, Try.ntmps8
  go_wp2_with fail
  refine (rcnew_ok 4 (by omega) (by omega) _).mono ?_
  rintro e W1 ⟨rfl, hs, hB⟩
  go_wp2_with fail
  have hs := hs.below (bl_alloc (bl_refl W1) (.cells #[.int .u8 98] 5 (1, 2)))
  have hsz1 := hB.size
  have hB := bl_trans hB (bl_alloc (bl_refl W1) (.cells #[.int .u8 98] 5 (1, 2)))
  have hr := reads_mark' W1 98 5 (1, 2)
  have hsA := (bl_alloc (bl_refl W1) (.cells #[.int .u8 98] 5 (1, 2))).size
  refine (rctake_any _ _ _ _ aw8_ok _ _ _ _ hs (fun k hk => by rcases hk with hk | hk; omega; exact hk.elim) hr (wf_one (by decide))).mono ?_
  rintro e W2 ⟨tv, av, rfl, hs, hF, hP, hO⟩
  rw [show ([98] : List Int).length = 1 from rfl, aw8_1.1]
  rw [aw8_1.2.1] at hO
  rw [aw8_1.2.2] at hs
  have hA := (Rd.of_owns (f := Value.int .i64) (xs := [0]) hO (by simp [maxLen]))
  have hsA2 := hF.size
  have hB2 := bl_fr hB hF (fun k hk => hk.1)
  obtain ⟨C, hC⟩ : ∃ C : Nat → Prop, (fun k => w.heap.size ≤ k ∧ k < W1.heap.size) = C := ⟨_, rfl⟩
  rw [hC] at hs hF
  have hCb : ∀ k, C k → w.heap.size ≤ k ∧ k < W1.heap.size := fun k hk => by rw [← hC] at hk; exact hk
  have hM : W1.heap.size ≤ (W1.alloc (.cells #[.int .u8 98] 5 (1, 2))).heap.size := hsA
  obtain ⟨g, hg⟩ : ∃ g, w.heap.size = g := ⟨_, rfl⟩
  rw [hg] at hs ⊢
  have hge : Hid (w.heap.size ≤ g) := Nat.le_of_eq hg
  clear hg hC
  generalize (W1.alloc (.cells #[.int .u8 98] 5 (1, 2))).heap.size = m at hs hP hO hA hM hsA2
  clear hr hF hO hP hB
  have hHS := Lib.hid hs
  obtain ⟨ao, ac, hav⟩ : ∃ ao ac, av = .slice ao 1 ac := by
    obtain ⟨⟨_, ao, ac, h, _⟩, _⟩ := hA
    exact ⟨ao, ac, h⟩
  subst hav
  clear hs
  go_wp2_with fail
  have hs := hHS.out.below (bl_alloc (bl_refl W2) (.cells #[.int .u8 97] 5 (1, 2)))
  have hA := hA.below (bl_alloc (bl_refl W2) (.cells #[.int .u8 97] 5 (1, 2)))
  have hB3 := bl_trans hB2 (bl_alloc (bl_refl W2) (.cells #[.int .u8 97] 5 (1, 2)))
  have hr := reads_mark' W2 97 5 (1, 2)
  have hsA3 := (bl_alloc (bl_refl W2) (.cells #[.int .u8 97] 5 (1, 2))).size
  have hok2 : (Rcv.mk 4 0 [(1, [98])] [(0, 1)]).Ok := by rw [← aw8_1.2.2]; exact (aw8_ok.take 1 [98]).1
  refine (rctake_any _ _ _ _ hok2 _ _ _ _ hs (fun k hk => ?_) hr (wf_one (by decide))).mono ?_
  · rcases hk with hk | hk | hk
    · have := hCb k hk; omega
    · exact hk.elim
    · omega
  rintro e W3 ⟨tv2, av2, rfl, hs3, hF, hP3, hO3⟩
  rw [show ([97] : List Int).length = 1 from rfl, aw8_2.1]
  rw [aw8_2.2.1] at hP3
  have hA3 := (hA.fr hF (fun k hk hc => by have := hCb k hc; omega)).1
  have hB4 := bl_fr hB3 hF (fun k hk => (hCb k hk).1)
  have hL := Lst.of_pays hP3
  obtain ⟨to, tc, rfl, _⟩ := hL.form
  have HS3 := Lib.hid hs3
  have HA3 := Lib.hid hA3
  have HB4 := Lib.hid hB4
  have HL := Lib.hid hL
  have HW := Lib.hid aw8_2.2.2
  clear hs hA hB3 hr hsA3 hs3 hF hP3 hO3 hL hA3 hB4 hB2 hM hsA2 hCb hHS hsz1 hsA
  simp only [List.length_cons, List.length_nil, Nat.zero_add, Nat.reduceAdd]
  go_wp2_with fail
  refine (same_any _ _ [0] [0] _ (HA3.out.below (bl_alloc (bl_refl W3) _)) (reads_one (Value.int .i64) W3 0 _)).mono ?_
  rintro e W4 ⟨rfl, hb⟩
  have HB5 := Lib.hid (bl_trans (bl_alloc (bl_refl W3) _) hb)
  have hd : decide (([0] : List Int) = [0]) = true := by decide
  rw [hd]
  clear hb hd
  go_wp2_with fail
  have q1 : Reads (Value.int .u8) ((W4.alloc (.cells #[.int .u8 97] 5)).alloc (.cells #[.int .u8 98] 5)) (.slice (some ⟨W4.heap.size, 0, none⟩) 1 1) [97] := (reads_one (Value.int .u8) W4 97 5).below (bl_alloc (bl_refl _) _)
  have q2 : Reads (Value.int .u8) ((W4.alloc (.cells #[.int .u8 97] 5)).alloc (.cells #[.int .u8 98] 5)) (.slice (some ⟨W4.heap.size + 1, 0, none⟩) 1 1) [98] := by
    have := reads_one (Value.int .u8) (W4.alloc (.cells #[.int .u8 97] 5)) 98 5
    rwa [show (W4.alloc (.cells #[.int .u8 97] 5)).heap.size = W4.heap.size + 1 by simp] at this
  have hb5 := bl_alloc (bl_alloc (bl_refl W4) (.cells #[.int .u8 97] 5)) (.cells #[.int .u8 98] 5)
  have hz : ((W4.alloc (.cells #[.int .u8 97] 5)).alloc (.cells #[.int .u8 98] 5)).heap.size = W4.heap.size + 1 + 1 := by simp
  generalize (W4.alloc (.cells #[.int .u8 97] 5)).alloc (.cells #[.int .u8 98] 5) = W5 at q1 q2 hb5 hz ⊢
  have q3 := lst_two W5 _ _ 97 98 q1 q2 32
  rw [hz] at q3
  have hb6 := bl_alloc hb5 (.cells #[.slice (some ⟨W4.heap.size, 0, none⟩) 1 1, .slice (some ⟨W4.heap.size + 1, 0, none⟩) 1 1] 32)
  have HB6 := Lib.hid (bl_trans HB5.out hb6)
  generalize W5.alloc (.cells #[.slice (some ⟨W4.heap.size, 0, none⟩) 1 1, .slice (some ⟨W4.heap.size + 1, 0, none⟩) 1 1] 32) = W6 at q3 HB6 ⊢
  have HL' : Hid (Lst W3 (.slice to 2 tc) [[97], [98]]) := HL.out
  clear q1 q2 hz hb5 hb6 HL
  refine (same03_eq _ _ _ _ (HL'.out.below HB6.out) q3).mono ?_
  rintro e W7 ⟨rfl, hb7⟩
  have HB7 := Lib.hid (bl_trans HB6.out hb7)
  clear hb7 q3
  go_wp2_with fail
  refine (rcwaits_any _ _ _ _ _ (HS3.out.below HB7.out)).mono ?_
  rintro e W8 ⟨rfl, rfl⟩
  rw [HW.out]
  go_wp2
  go_ret
  exact ⟨rfl, bl_trans HB4.out HB7.out⟩

end Go.Proofs.Ytagbaoakablfpaa
