/- The walk of the statement ControlFits. Written by program (gen_fits.py). Conditions: the argument's own. -/
import Derived.WalkKit
import Derived.Lib.Hide
import Derived.Test.YtcglpdbnggekdaaCtlAwake
namespace Go.Proofs.Ytcglpdbnggekdaa
open Go.RowKit

theorem sec_len (c : Ctl) : 1 ≤ c.sec.length ∧ c.sec.length ≤ 2 := by
  unfold Ctl.sec
  (repeat' split) <;> simp
theorem bytes_len (c : Ctl) : c.bytes.length = 5 + c.sec.length + c.data.length := by
  unfold Ctl.bytes
  simp [be_length]; omega

set_option maxRecDepth 100000 in
set_option maxHeartbeats 1000000 in
theorem fits_1 (ns nr : Int) (p : Bool) (me peer : Int) (ao : Option Addr) (cap : Nat) (xs : List Int) (w : World) (hr : Reads (Value.int .u8) w (.slice ao xs.length cap) xs) (hz : Hid ((Ctl.mk 1 ns nr p me peer xs).chk = 0))
    (y : Int) (L : List Int) (hL : Hid ((Ctl.mk 1 ns nr p me peer xs).bytes = L)) (hy : Hid (L[1]? = some y)) (h0 : (bits .and .u8 y 1 == 0) = true) (h1 : (bits .and .u8 y 3 == 1) = false) (hl6 : 6 ≤ L.length) (hl : L.length ≤ 128) :
    Calls Try.prog 7 #[.agg #[.int .i64 1, .int .i64 ns, .int .i64 nr, .bool p, .int .i64 me, .int .i64 peer, .slice ao xs.length cap]] w fun e w' => e = .returned (.bool true) ∧ Below w.heap.size w w' := by
  go_enter Try.func7, Try.ntmps7
  go_wp2_with fail
  have hbx := heap_alloc_new w (.cells #[.int .i64 1, .int .i64 ns, .int .i64 nr, .bool p, .int .i64 me, .int .i64 peer, .slice ao xs.length cap] 24)
  have hB := bl_alloc (bl_refl w) (.cells #[.int .i64 1, .int .i64 ns, .int .i64 nr, .bool p, .int .i64 me, .int .i64 peer, .slice ao xs.length cap] 24)
  have hr := hr.below hB
  generalize w.alloc (.cells #[.int .i64 1, .int .i64 ns, .int .i64 nr, .bool p, .int .i64 me, .int .i64 peer, .slice ao xs.length cap] 24) = w0 at hbx hB hr ⊢
  refine (cput_any ⟨1, ns, nr, p, me, peer, xs⟩ ao cap _ hr).mono ?_
  rintro e w1 ⟨u, rfl, hO, hb⟩
  rw [hz.out]
  rw [Ctl.out_ok hz.out, hL.out] at hO
  have hu := Reads.of_owns hO (by simp [maxLen]; omega)
  obtain ⟨_, ao1, cap1, rfl, _, hc⟩ := hu
  obtain ⟨b, o, rfl, q1⟩ := hc 1 y hy.out
  have hbx := bl_get hb hbx
  have hB := bl_trans hB hb
  obtain ⟨d0, d1, d2, d3, d4, d5, d6⟩ := cells_of7 hbx
  clear hc hO hb hbx hr hz hL
  go_wp2_with fail
  refine (awake_any _).mono ?_
  rintro e w2 ⟨rfl, hb⟩
  go_wp2
  go_ret
  exact ⟨rfl, bl_trans hB hb⟩

set_option maxRecDepth 100000 in
set_option maxHeartbeats 1000000 in
theorem fits_2 (ns nr : Int) (p : Bool) (me peer : Int) (ao : Option Addr) (cap : Nat) (xs : List Int) (w : World) (hr : Reads (Value.int .u8) w (.slice ao xs.length cap) xs) (hz : Hid ((Ctl.mk 2 ns nr p me peer xs).chk = 0))
    (y : Int) (L : List Int) (hL : Hid ((Ctl.mk 2 ns nr p me peer xs).bytes = L)) (hy : Hid (L[1]? = some y)) (h0 : (bits .and .u8 y 1 == 0) = false) (h1 : (bits .and .u8 y 3 == 1) = true) (hl6 : 6 ≤ L.length) (hl : L.length ≤ 128) :
    Calls Try.prog 7 #[.agg #[.int .i64 2, .int .i64 ns, .int .i64 nr, .bool p, .int .i64 me, .int .i64 peer, .slice ao xs.length cap]] w fun e w' => e = .returned (.bool true) ∧ Below w.heap.size w w' := by
  go_enter Try.func7, Try.ntmps7
  go_wp2_with fail
  have hbx := heap_alloc_new w (.cells #[.int .i64 2, .int .i64 ns, .int .i64 nr, .bool p, .int .i64 me, .int .i64 peer, .slice ao xs.length cap] 24)
  have hB := bl_alloc (bl_refl w) (.cells #[.int .i64 2, .int .i64 ns, .int .i64 nr, .bool p, .int .i64 me, .int .i64 peer, .slice ao xs.length cap] 24)
  have hr := hr.below hB
  generalize w.alloc (.cells #[.int .i64 2, .int .i64 ns, .int .i64 nr, .bool p, .int .i64 me, .int .i64 peer, .slice ao xs.length cap] 24) = w0 at hbx hB hr ⊢
  refine (cput_any ⟨2, ns, nr, p, me, peer, xs⟩ ao cap _ hr).mono ?_
  rintro e w1 ⟨u, rfl, hO, hb⟩
  rw [hz.out]
  rw [Ctl.out_ok hz.out, hL.out] at hO
  have hu := Reads.of_owns hO (by simp [maxLen]; omega)
  obtain ⟨_, ao1, cap1, rfl, _, hc⟩ := hu
  obtain ⟨b, o, rfl, q1⟩ := hc 1 y hy.out
  have hbx := bl_get hb hbx
  have hB := bl_trans hB hb
  obtain ⟨d0, d1, d2, d3, d4, d5, d6⟩ := cells_of7 hbx
  clear hc hO hb hbx hr hz hL
  go_wp2_with fail
  refine (awake_any _).mono ?_
  rintro e w2 ⟨rfl, hb⟩
  go_wp2
  go_ret
  exact ⟨rfl, bl_trans hB hb⟩

set_option maxRecDepth 100000 in
set_option maxHeartbeats 1000000 in
theorem fits_3 (ns nr : Int) (p : Bool) (me peer : Int) (ao : Option Addr) (cap : Nat) (xs : List Int) (w : World) (hr : Reads (Value.int .u8) w (.slice ao xs.length cap) xs) (hz : Hid ((Ctl.mk 3 ns nr p me peer xs).chk = 0))
    (y : Int) (L : List Int) (hL : Hid ((Ctl.mk 3 ns nr p me peer xs).bytes = L)) (hy : Hid (L[1]? = some y)) (h0 : (bits .and .u8 y 1 == 0) = false) (h1 : (bits .and .u8 y 3 == 1) = true) (hl6 : 6 ≤ L.length) (hl : L.length ≤ 128) :
    Calls Try.prog 7 #[.agg #[.int .i64 3, .int .i64 ns, .int .i64 nr, .bool p, .int .i64 me, .int .i64 peer, .slice ao xs.length cap]] w fun e w' => e = .returned (.bool true) ∧ Below w.heap.size w w' := by
  go_enter Try.func7, Try.ntmps7
  go_wp2_with fail
  have hbx := heap_alloc_new w (.cells #[.int .i64 3, .int .i64 ns, .int .i64 nr, .bool p, .int .i64 me, .int .i64 peer, .slice ao xs.length cap] 24)
  have hB := bl_alloc (bl_refl w) (.cells #[.int .i64 3, .int .i64 ns, .int .i64 nr, .bool p, .int .i64 me, .int .i64 peer, .slice ao xs.length cap] 24)
  have hr := hr.below hB
  generalize w.alloc (.cells #[.int .i64 3, .int .i64 ns, .int .i64 nr, .bool p, .int .i64 me, .int .i64 peer, .slice ao xs.length cap] 24) = w0 at hbx hB hr ⊢
  refine (cput_any ⟨3, ns, nr, p, me, peer, xs⟩ ao cap _ hr).mono ?_
  rintro e w1 ⟨u, rfl, hO, hb⟩
  rw [hz.out]
  rw [Ctl.out_ok hz.out, hL.out] at hO
  have hu := Reads.of_owns hO (by simp [maxLen]; omega)
  obtain ⟨_, ao1, cap1, rfl, _, hc⟩ := hu
  obtain ⟨b, o, rfl, q1⟩ := hc 1 y hy.out
  have hbx := bl_get hb hbx
  have hB := bl_trans hB hb
  obtain ⟨d0, d1, d2, d3, d4, d5, d6⟩ := cells_of7 hbx
  clear hc hO hb hbx hr hz hL
  go_wp2_with fail
  refine (awake_any _).mono ?_
  rintro e w2 ⟨rfl, hb⟩
  go_wp2
  go_ret
  exact ⟨rfl, bl_trans hB hb⟩

set_option maxRecDepth 100000 in
set_option maxHeartbeats 1000000 in
theorem fits_4 (ns nr : Int) (p : Bool) (me peer : Int) (ao : Option Addr) (cap : Nat) (xs : List Int) (w : World) (hr : Reads (Value.int .u8) w (.slice ao xs.length cap) xs) (hz : Hid ((Ctl.mk 4 ns nr p me peer xs).chk = 0))
    (y : Int) (L : List Int) (hL : Hid ((Ctl.mk 4 ns nr p me peer xs).bytes = L)) (hy : Hid (L[1]? = some y)) (h0 : (bits .and .u8 y 1 == 0) = false) (h1 : (bits .and .u8 y 3 == 1) = true) (hl6 : 6 ≤ L.length) (hl : L.length ≤ 128) :
    Calls Try.prog 7 #[.agg #[.int .i64 4, .int .i64 ns, .int .i64 nr, .bool p, .int .i64 me, .int .i64 peer, .slice ao xs.length cap]] w fun e w' => e = .returned (.bool true) ∧ Below w.heap.size w w' := by
  go_enter Try.func7, Try.ntmps7
  go_wp2_with fail
  have hbx := heap_alloc_new w (.cells #[.int .i64 4, .int .i64 ns, .int .i64 nr, .bool p, .int .i64 me, .int .i64 peer, .slice ao xs.length cap] 24)
  have hB := bl_alloc (bl_refl w) (.cells #[.int .i64 4, .int .i64 ns, .int .i64 nr, .bool p, .int .i64 me, .int .i64 peer, .slice ao xs.length cap] 24)
  have hr := hr.below hB
  generalize w.alloc (.cells #[.int .i64 4, .int .i64 ns, .int .i64 nr, .bool p, .int .i64 me, .int .i64 peer, .slice ao xs.length cap] 24) = w0 at hbx hB hr ⊢
  refine (cput_any ⟨4, ns, nr, p, me, peer, xs⟩ ao cap _ hr).mono ?_
  rintro e w1 ⟨u, rfl, hO, hb⟩
  rw [hz.out]
  rw [Ctl.out_ok hz.out, hL.out] at hO
  have hu := Reads.of_owns hO (by simp [maxLen]; omega)
  obtain ⟨_, ao1, cap1, rfl, _, hc⟩ := hu
  obtain ⟨b, o, rfl, q1⟩ := hc 1 y hy.out
  have hbx := bl_get hb hbx
  have hB := bl_trans hB hb
  obtain ⟨d0, d1, d2, d3, d4, d5, d6⟩ := cells_of7 hbx
  clear hc hO hb hbx hr hz hL
  go_wp2_with fail
  refine (awake_any _).mono ?_
  rintro e w2 ⟨rfl, hb⟩
  go_wp2
  go_ret
  exact ⟨rfl, bl_trans hB hb⟩

set_option maxRecDepth 100000 in
set_option maxHeartbeats 1000000 in
theorem fits_5 (ns nr : Int) (p : Bool) (me peer : Int) (ao : Option Addr) (cap : Nat) (xs : List Int) (w : World) (hr : Reads (Value.int .u8) w (.slice ao xs.length cap) xs) (hz : Hid ((Ctl.mk 5 ns nr p me peer xs).chk = 0))
    (y : Int) (L : List Int) (hL : Hid ((Ctl.mk 5 ns nr p me peer xs).bytes = L)) (hy : Hid (L[1]? = some y)) (h0 : (bits .and .u8 y 1 == 0) = false) (h1 : (bits .and .u8 y 3 == 1) = false) (hl6 : 6 ≤ L.length) (hl : L.length ≤ 128) :
    Calls Try.prog 7 #[.agg #[.int .i64 5, .int .i64 ns, .int .i64 nr, .bool p, .int .i64 me, .int .i64 peer, .slice ao xs.length cap]] w fun e w' => e = .returned (.bool true) ∧ Below w.heap.size w w' := by
  go_enter Try.func7, Try.ntmps7
  go_wp2_with fail
  have hbx := heap_alloc_new w (.cells #[.int .i64 5, .int .i64 ns, .int .i64 nr, .bool p, .int .i64 me, .int .i64 peer, .slice ao xs.length cap] 24)
  have hB := bl_alloc (bl_refl w) (.cells #[.int .i64 5, .int .i64 ns, .int .i64 nr, .bool p, .int .i64 me, .int .i64 peer, .slice ao xs.length cap] 24)
  have hr := hr.below hB
  generalize w.alloc (.cells #[.int .i64 5, .int .i64 ns, .int .i64 nr, .bool p, .int .i64 me, .int .i64 peer, .slice ao xs.length cap] 24) = w0 at hbx hB hr ⊢
  refine (cput_any ⟨5, ns, nr, p, me, peer, xs⟩ ao cap _ hr).mono ?_
  rintro e w1 ⟨u, rfl, hO, hb⟩
  rw [hz.out]
  rw [Ctl.out_ok hz.out, hL.out] at hO
  have hu := Reads.of_owns hO (by simp [maxLen]; omega)
  obtain ⟨_, ao1, cap1, rfl, _, hc⟩ := hu
  obtain ⟨b, o, rfl, q1⟩ := hc 1 y hy.out
  have hbx := bl_get hb hbx
  have hB := bl_trans hB hb
  obtain ⟨d0, d1, d2, d3, d4, d5, d6⟩ := cells_of7 hbx
  clear hc hO hb hbx hr hz hL
  go_wp2_with fail
  refine (awake_any _).mono ?_
  rintro e w2 ⟨rfl, hb⟩
  go_wp2
  go_ret
  exact ⟨rfl, bl_trans hB hb⟩

set_option maxRecDepth 100000 in
set_option maxHeartbeats 1000000 in
theorem fits_6 (ns nr : Int) (p : Bool) (me peer : Int) (ao : Option Addr) (cap : Nat) (xs : List Int) (w : World) (hr : Reads (Value.int .u8) w (.slice ao xs.length cap) xs) (hz : Hid ((Ctl.mk 6 ns nr p me peer xs).chk = 0))
    (y : Int) (L : List Int) (hL : Hid ((Ctl.mk 6 ns nr p me peer xs).bytes = L)) (hy : Hid (L[1]? = some y)) (h0 : (bits .and .u8 y 1 == 0) = false) (h1 : (bits .and .u8 y 3 == 1) = false) (hl6 : 6 ≤ L.length) (hl : L.length ≤ 128) :
    Calls Try.prog 7 #[.agg #[.int .i64 6, .int .i64 ns, .int .i64 nr, .bool p, .int .i64 me, .int .i64 peer, .slice ao xs.length cap]] w fun e w' => e = .returned (.bool true) ∧ Below w.heap.size w w' := by
  go_enter Try.func7, Try.ntmps7
  go_wp2_with fail
  have hbx := heap_alloc_new w (.cells #[.int .i64 6, .int .i64 ns, .int .i64 nr, .bool p, .int .i64 me, .int .i64 peer, .slice ao xs.length cap] 24)
  have hB := bl_alloc (bl_refl w) (.cells #[.int .i64 6, .int .i64 ns, .int .i64 nr, .bool p, .int .i64 me, .int .i64 peer, .slice ao xs.length cap] 24)
  have hr := hr.below hB
  generalize w.alloc (.cells #[.int .i64 6, .int .i64 ns, .int .i64 nr, .bool p, .int .i64 me, .int .i64 peer, .slice ao xs.length cap] 24) = w0 at hbx hB hr ⊢
  refine (cput_any ⟨6, ns, nr, p, me, peer, xs⟩ ao cap _ hr).mono ?_
  rintro e w1 ⟨u, rfl, hO, hb⟩
  rw [hz.out]
  rw [Ctl.out_ok hz.out, hL.out] at hO
  have hu := Reads.of_owns hO (by simp [maxLen]; omega)
  obtain ⟨_, ao1, cap1, rfl, _, hc⟩ := hu
  obtain ⟨b, o, rfl, q1⟩ := hc 1 y hy.out
  have hbx := bl_get hb hbx
  have hB := bl_trans hB hb
  obtain ⟨d0, d1, d2, d3, d4, d5, d6⟩ := cells_of7 hbx
  clear hc hO hb hbx hr hz hL
  go_wp2_with fail
  refine (awake_any _).mono ?_
  rintro e w2 ⟨rfl, hb⟩
  go_wp2
  go_ret
  exact ⟨rfl, bl_trans hB hb⟩

set_option maxRecDepth 100000 in
set_option maxHeartbeats 1000000 in
theorem fits_7 (ns nr : Int) (p : Bool) (me peer : Int) (ao : Option Addr) (cap : Nat) (xs : List Int) (w : World) (hr : Reads (Value.int .u8) w (.slice ao xs.length cap) xs) (hz : Hid ((Ctl.mk 7 ns nr p me peer xs).chk = 0))
    (y : Int) (L : List Int) (hL : Hid ((Ctl.mk 7 ns nr p me peer xs).bytes = L)) (hy : Hid (L[1]? = some y)) (h0 : (bits .and .u8 y 1 == 0) = false) (h1 : (bits .and .u8 y 3 == 1) = false) (hl6 : 6 ≤ L.length) (hl : L.length ≤ 128) :
    Calls Try.prog 7 #[.agg #[.int .i64 7, .int .i64 ns, .int .i64 nr, .bool p, .int .i64 me, .int .i64 peer, .slice ao xs.length cap]] w fun e w' => e = .returned (.bool true) ∧ Below w.heap.size w w' := by
  go_enter Try.func7, Try.ntmps7
  go_wp2_with fail
  have hbx := heap_alloc_new w (.cells #[.int .i64 7, .int .i64 ns, .int .i64 nr, .bool p, .int .i64 me, .int .i64 peer, .slice ao xs.length cap] 24)
  have hB := bl_alloc (bl_refl w) (.cells #[.int .i64 7, .int .i64 ns, .int .i64 nr, .bool p, .int .i64 me, .int .i64 peer, .slice ao xs.length cap] 24)
  have hr := hr.below hB
  generalize w.alloc (.cells #[.int .i64 7, .int .i64 ns, .int .i64 nr, .bool p, .int .i64 me, .int .i64 peer, .slice ao xs.length cap] 24) = w0 at hbx hB hr ⊢
  refine (cput_any ⟨7, ns, nr, p, me, peer, xs⟩ ao cap _ hr).mono ?_
  rintro e w1 ⟨u, rfl, hO, hb⟩
  rw [hz.out]
  rw [Ctl.out_ok hz.out, hL.out] at hO
  have hu := Reads.of_owns hO (by simp [maxLen]; omega)
  obtain ⟨_, ao1, cap1, rfl, _, hc⟩ := hu
  obtain ⟨b, o, rfl, q1⟩ := hc 1 y hy.out
  have hbx := bl_get hb hbx
  have hB := bl_trans hB hb
  obtain ⟨d0, d1, d2, d3, d4, d5, d6⟩ := cells_of7 hbx
  clear hc hO hb hbx hr hz hL
  go_wp2_with fail
  refine (awake_any _).mono ?_
  rintro e w2 ⟨rfl, hb⟩
  go_wp2
  go_ret
  exact ⟨rfl, bl_trans hB hb⟩

theorem bit_even {n : Int} (h : 0 ≤ n ∧ n ≤ 127) : (bits .and .u8 (2 * n) 1 == 0) = true ∧ (bits .and .u8 (2 * n) 3 == 1) = false := by
  have hn : ∀ n : Fin 128, (bits .and .u8 (2 * (n.val : Int)) 1 == 0) = true ∧ (bits .and .u8 (2 * (n.val : Int)) 3 == 1) = false := by decide +kernel
  obtain ⟨m, rfl⟩ := Int.eq_ofNat_of_zero_le h.1
  exact hn ⟨m, by omega⟩

set_option maxRecDepth 100000 in
set_option maxHeartbeats 1000000 in
theorem walkControlFits (k : Int) (_ : (Lit.int .i64 k).wf = true) (ns : Int) (_ : (Lit.int .i64 ns).wf = true) (nr : Int) (_ : (Lit.int .i64 nr).wf = true) (p : Bool) (me : Int) (_ : (Lit.int .i64 me).wf = true) (peer : Int) (_ : (Lit.int .i64 peer).wf = true) (ao : Option Addr) (cap : Nat) (xs : List Int) (w : World) (hr : Reads (Value.int .u8) w (.slice ao xs.length cap) xs) (_ : ∀ n ∈ xs, (Lit.int .u8 n).wf = true) (_ : xs.length * 1 ≤ reachBytes) :
    Calls Try.prog 7 #[.agg #[.int .i64 k, .int .i64 ns, .int .i64 nr, .bool p, .int .i64 me, .int .i64 peer, .slice ao xs.length cap]] w fun e w' => e = .returned (.bool true) ∧ Below w.heap.size w w' := by
  by_cases hz : chkN k ns nr me peer xs.length = 0
  · have hq := chk_zero hz
    have hs := sec_len ⟨k, ns, nr, p, me, peer, xs⟩
    have hbl := bytes_len ⟨k, ns, nr, p, me, peer, xs⟩
    have hd := hq.2.2.2
    have hlo : 6 ≤ (Ctl.mk k ns nr p me peer xs).bytes.length := by rw [hbl]; omega
    have hhi : (Ctl.mk k ns nr p me peer xs).bytes.length ≤ 128 := by rw [hbl]; simp only at hd ⊢; omega
    have hns := hq.2.1.1.1
    rcases (show k = 1 ∨ k = 2 ∨ k = 3 ∨ k = 4 ∨ k = 5 ∨ k = 6 ∨ k = 7 by have := hq.1; omega) with rfl | rfl | rfl | rfl | rfl | rfl | rfl
    · exact fits_1 ns nr p me peer ao cap xs w hr hz (2 * ns) _ rfl rfl (bit_even hns).1 (bit_even hns).2 hlo hhi
    · exact fits_2 ns nr p me peer ao cap xs w hr hz 1 _ rfl rfl (by decide +kernel) (by decide +kernel) hlo hhi
    · exact fits_3 ns nr p me peer ao cap xs w hr hz 5 _ rfl rfl (by decide +kernel) (by decide +kernel) hlo hhi
    · exact fits_4 ns nr p me peer ao cap xs w hr hz 13 _ rfl rfl (by decide +kernel) (by decide +kernel) hlo hhi
    · exact fits_5 ns nr p me peer ao cap xs w hr hz (111 + 16 * bitN p) _ rfl rfl (by cases p; rw [bitN_f]; decide +kernel; rw [bitN_t]; decide +kernel) (by cases p; rw [bitN_f]; decide +kernel; rw [bitN_t]; decide +kernel) hlo hhi
    · exact fits_6 ns nr p me peer ao cap xs w hr hz (99 + 16 * bitN p) _ rfl rfl (by cases p; rw [bitN_f]; decide +kernel; rw [bitN_t]; decide +kernel) (by cases p; rw [bitN_f]; decide +kernel; rw [bitN_t]; decide +kernel) hlo hhi
    · exact fits_7 ns nr p me peer ao cap xs w hr hz (15 + 16 * bitN p) _ rfl rfl (by cases p; rw [bitN_f]; decide +kernel; rw [bitN_t]; decide +kernel) (by cases p; rw [bitN_f]; decide +kernel; rw [bitN_t]; decide +kernel) hlo hhi
  · have hz' : (chkN k ns nr me peer xs.length != 0) = true := by simp only [bne_iff_ne]; exact hz
    go_enter Try.func7, Try.ntmps7
    go_wp2_with fail
    refine (cput_bad k ns nr p me peer ao xs.length cap hz' _).mono ?_
    rintro e w1 ⟨rfl, hb⟩
    have hB := bl_trans (bl_alloc (bl_refl w) _) hb
    clear hb
    go_wp2_with fail
    refine (awake_any _).mono ?_
    rintro e w2 ⟨rfl, hb⟩
    go_wp2
    go_ret
    exact ⟨rfl, bl_trans hB hb⟩

end Go.Proofs.Ytcglpdbnggekdaa
