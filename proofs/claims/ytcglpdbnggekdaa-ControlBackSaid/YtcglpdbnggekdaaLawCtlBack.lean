/- The walk of the statement ControlBack. Written by program (gen_back.py). Conditions: the arguments' own. -/
import Derived.WalkKit
import Derived.Lib.Hide
import Derived.Test.YtcglpdbnggekdaaCtlAwake
import Derived.Test.YtcglpdbnggekdaaCtlGetAny
import Derived.Test.YtcglpdbnggekdaaFrm
import Derived.Test.YtcglpdbnggekdaaLater
namespace Go.Proofs.Ytcglpdbnggekdaa
open Go.RowKit

theorem same_self (c : Ctl) : sameB c c = true := by simp [sameB]
theorem bytes_le {c : Ctl} (h : c.chk = 0) : 6 ≤ c.bytes.length ∧ c.bytes.length ≤ 128 := by
  have hz := chk_zero (show chkN c.k c.ns c.nr c.me c.peer c.data.length = 0 from h)
  have hd := hz.2.2.2
  have h6 := (guess_bytes h).2.2.1
  refine ⟨h6, ?_⟩
  by_cases hk : c.k ≤ 4
  · obtain ⟨s1, hb, _⟩ := bytes_four h hk
    rw [hb]; simp; omega
  · obtain ⟨s1, hb, _⟩ := bytes_three h hk
    rw [hb]; simp; omega
theorem getC_wf {p : List Int} (hw : ∀ n ∈ p, (Lit.int .u8 n).wf = true) : ∀ n ∈ (getC p).data, (Lit.int .u8 n).wf = true := by
  intro n hn
  by_cases h : GetOk p
  · rw [getC_ok h] at hn
    exact hw n (List.mem_of_mem_drop hn)
  · rw [getC_bad h] at hn
    simp [Ctl.zero] at hn

set_option maxRecDepth 100000 in
set_option maxHeartbeats 1000000 in
theorem back_11 (k ns nr : Int) (p : Bool) (me peer : Int) (ao : Option Addr) (cap : Nat) (xs : List Int) (w : World) (hr : Reads (Value.int .u8) w (.slice ao xs.length cap) xs)
    (v : Value) (ys : List Int) (hs : Reads (Value.int .u8) w v ys) (wy : ∀ n ∈ ys, (Lit.int .u8 n).wf = true) (hle : ys.length ≤ 140737488351232)
    (L : List Int) (g1 : Hid ((Ctl.mk k ns nr p me peer xs).chk = 0)) (o1 : Hid ((Ctl.mk k ns nr p me peer xs).out = L)) (l1 : L.length ≤ 128) (wL : Hid (∀ n ∈ L, (Lit.int .u8 n).wf = true)) (gL : Hid (getC L = ⟨k, ns, nr, p, me, peer, xs⟩ ∧ getErr L = 0))
    (dk dns dnr : Int) (dp : Bool) (dme dpeer : Int) (ds : List Int) (p1 : Hid (getC ys = ⟨dk, dns, dnr, dp, dme, dpeer, ds⟩ ∧ getErr ys = 0)) (hdl : ds.length ≤ 121) (p2 : Hid ((Ctl.mk dk dns dnr dp dme dpeer ds).chk = 0 ∧ (Ctl.mk dk dns dnr dp dme dpeer ds).out = ys)) :
    Calls Try.prog 5 #[.agg #[.int .i64 k, .int .i64 ns, .int .i64 nr, .bool p, .int .i64 me, .int .i64 peer, .slice ao xs.length cap], v] w fun e w' => e = .returned (.bool true) ∧ Below w.heap.size w w' := by
  obtain ⟨bo, cbp, hv⟩ : ∃ bo cbp, v = .slice bo ys.length cbp := by
    obtain ⟨_, bo, cbp, h, _⟩ := hs
    exact ⟨bo, cbp, h⟩
  subst hv
  go_enter Try.func5, Try.ntmps5
  go_wp2_with fail
  have hbx := heap_alloc_new w (.cells #[.int .i64 k, .int .i64 ns, .int .i64 nr, .bool p, .int .i64 me, .int .i64 peer, .slice ao xs.length cap] 24)
  have hB := bl_alloc (bl_refl w) (.cells #[.int .i64 k, .int .i64 ns, .int .i64 nr, .bool p, .int .i64 me, .int .i64 peer, .slice ao xs.length cap] 24)
  have hr := hr.below hB
  have hs := hs.below hB
  generalize w.alloc (.cells #[.int .i64 k, .int .i64 ns, .int .i64 nr, .bool p, .int .i64 me, .int .i64 peer, .slice ao xs.length cap] 24) = W0 at hbx hB hr hs ⊢
  refine (cput_any ⟨k, ns, nr, p, me, peer, xs⟩ ao cap _ hr).mono ?_
  rintro e W1 ⟨u, rfl, hO, hb⟩
  rw [g1.out]
  rw [o1.out] at hO
  have hu := Reads.of_owns hO (by simp [maxLen]; omega)
  have hbx := bl_get hb hbx
  have hr := hr.below hb
  have hs := hs.below hb
  have hB := bl_trans hB hb
  clear hO hb
  obtain ⟨ao1, cap1, hu1⟩ : ∃ ao1 cap1, u = .slice ao1 L.length cap1 := by
    obtain ⟨_, ao1, cap1, h, _⟩ := hu
    exact ⟨ao1, cap1, h⟩
  subst hu1
  go_wp2_with fail
  refine (cget_any _ L wL.out _ hu (by omega)).mono ?_
  rintro e W2 ⟨ao2, cap2, rfl, hO, hb⟩
  rw [gL.out.1] at hO ⊢
  rw [gL.out.2]
  have hd := Reads.of_owns hO (by have := hr.1; exact this)
  have hbx := bl_get hb hbx
  have hr := hr.below hb
  have hs := hs.below hb
  have hB := bl_trans hB hb
  clear hO hb hu
  simp only [Ctl.val] at hd ⊢
  have d0 : ∀ o' : Obj, _ := fun o' => (cells_of7 (kept_alloc hbx o')).1
  have d1 : ∀ o' : Obj, _ := fun o' => (cells_of7 (kept_alloc hbx o')).2.1
  have d2 : ∀ o' : Obj, _ := fun o' => (cells_of7 (kept_alloc hbx o')).2.2.1
  have d3 : ∀ o' : Obj, _ := fun o' => (cells_of7 (kept_alloc hbx o')).2.2.2.1
  have d4 : ∀ o' : Obj, _ := fun o' => (cells_of7 (kept_alloc hbx o')).2.2.2.2.1
  have d5 : ∀ o' : Obj, _ := fun o' => (cells_of7 (kept_alloc hbx o')).2.2.2.2.2.1
  have d6 : ∀ o' : Obj, _ := fun o' => (cells_of7 (kept_alloc hbx o')).2.2.2.2.2.2
  go_wp2_with fail
  -- the box of what was got
  have hbd := heap_alloc_new W2 (.cells #[.int .i64 k, .int .i64 ns, .int .i64 nr, .bool p, .int .i64 me, .int .i64 peer, .slice ao2 xs.length cap2] 24)
  have hb := bl_alloc (bl_refl W2) (.cells #[.int .i64 k, .int .i64 ns, .int .i64 nr, .bool p, .int .i64 me, .int .i64 peer, .slice ao2 xs.length cap2] 24)
  have hbx := bl_get hb hbx
  have hr := hr.below hb
  have hs := hs.below hb
  have hd := hd.below hb
  have hB := bl_trans hB hb
  clear hb d0 d1 d2 d3 d4 d5 d6
  generalize W2.alloc (.cells #[.int .i64 k, .int .i64 ns, .int .i64 nr, .bool p, .int .i64 me, .int .i64 peer, .slice ao2 xs.length cap2] 24) = W3 at hbx hbd hB hr hs hd ⊢
  refine (rsame_any ⟨k, ns, nr, p, me, peer, xs⟩ ⟨k, ns, nr, p, me, peer, xs⟩ ao ao2 cap cap2 _ hr hd).mono ?_
  rintro e W4 ⟨rfl, hb⟩
  rw [same_self]
  have hs := hs.below hb
  have hB := bl_trans hB hb
  clear hb hbx hbd hr hd
  go_wp2_with fail
  refine (cget_any _ ys wy _ hs (by omega)).mono ?_
  rintro e W5 ⟨ao5, cap5, rfl, hO, hb⟩
  rw [p1.out.2]
  rw [p1.out.1] at hO ⊢
  have hd := Reads.of_owns hO (by show ds.length ≤ maxLen; unfold maxLen; omega)
  have hs := hs.below hb
  have hB := bl_trans hB hb
  clear hO hb
  simp only [Ctl.val] at hd ⊢
  go_wp2_with fail
  have hb := bl_alloc (bl_refl W5) (.cells #[.int .i64 dk, .int .i64 dns, .int .i64 dnr, .bool dp, .int .i64 dme, .int .i64 dpeer, .slice ao5 ds.length cap5] 24)
  have hs := hs.below hb
  have hd := hd.below hb
  have hB := bl_trans hB hb
  clear hb
  generalize W5.alloc (.cells #[.int .i64 dk, .int .i64 dns, .int .i64 dnr, .bool dp, .int .i64 dme, .int .i64 dpeer, .slice ao5 ds.length cap5] 24) = W6 at hB hs hd ⊢
  refine (cput_any ⟨dk, dns, dnr, dp, dme, dpeer, ds⟩ ao5 cap5 _ hd).mono ?_
  rintro e W7 ⟨u, rfl, hO, hb⟩
  rw [p2.out.1]
  rw [p2.out.2] at hO
  have hu := Reads.of_owns hO (by have := hs.1; exact this)
  have hs := hs.below hb
  have hB := bl_trans hB hb
  clear hO hb hd
  have v1 := conv_reads hu
  have v2 := conv_reads hs
  clear hu
  go_wp2_with fail
  refine (awake_any _).mono ?_
  rintro e w2 ⟨rfl, hb⟩
  go_wp2
  go_ret
  exact ⟨rfl, bl_trans hB hb⟩

set_option maxRecDepth 100000 in
set_option maxHeartbeats 1000000 in
theorem back_10 (k ns nr : Int) (p : Bool) (me peer : Int) (ao : Option Addr) (cap : Nat) (xs : List Int) (w : World) (hr : Reads (Value.int .u8) w (.slice ao xs.length cap) xs)
    (v : Value) (ys : List Int) (hs : Reads (Value.int .u8) w v ys) (wy : ∀ n ∈ ys, (Lit.int .u8 n).wf = true) (hle : ys.length ≤ 140737488351232)
    (L : List Int) (g1 : Hid ((Ctl.mk k ns nr p me peer xs).chk = 0)) (o1 : Hid ((Ctl.mk k ns nr p me peer xs).out = L)) (l1 : L.length ≤ 128) (wL : Hid (∀ n ∈ L, (Lit.int .u8 n).wf = true)) (gL : Hid (getC L = ⟨k, ns, nr, p, me, peer, xs⟩ ∧ getErr L = 0))
    (p1 : Hid (getC ys = Ctl.zero ∧ getErr ys = 2)) :
    Calls Try.prog 5 #[.agg #[.int .i64 k, .int .i64 ns, .int .i64 nr, .bool p, .int .i64 me, .int .i64 peer, .slice ao xs.length cap], v] w fun e w' => e = .returned (.bool true) ∧ Below w.heap.size w w' := by
  obtain ⟨bo, cbp, hv⟩ : ∃ bo cbp, v = .slice bo ys.length cbp := by
    obtain ⟨_, bo, cbp, h, _⟩ := hs
    exact ⟨bo, cbp, h⟩
  subst hv
  go_enter Try.func5, Try.ntmps5
  go_wp2_with fail
  have hbx := heap_alloc_new w (.cells #[.int .i64 k, .int .i64 ns, .int .i64 nr, .bool p, .int .i64 me, .int .i64 peer, .slice ao xs.length cap] 24)
  have hB := bl_alloc (bl_refl w) (.cells #[.int .i64 k, .int .i64 ns, .int .i64 nr, .bool p, .int .i64 me, .int .i64 peer, .slice ao xs.length cap] 24)
  have hr := hr.below hB
  have hs := hs.below hB
  generalize w.alloc (.cells #[.int .i64 k, .int .i64 ns, .int .i64 nr, .bool p, .int .i64 me, .int .i64 peer, .slice ao xs.length cap] 24) = W0 at hbx hB hr hs ⊢
  refine (cput_any ⟨k, ns, nr, p, me, peer, xs⟩ ao cap _ hr).mono ?_
  rintro e W1 ⟨u, rfl, hO, hb⟩
  rw [g1.out]
  rw [o1.out] at hO
  have hu := Reads.of_owns hO (by simp [maxLen]; omega)
  have hbx := bl_get hb hbx
  have hr := hr.below hb
  have hs := hs.below hb
  have hB := bl_trans hB hb
  clear hO hb
  obtain ⟨ao1, cap1, hu1⟩ : ∃ ao1 cap1, u = .slice ao1 L.length cap1 := by
    obtain ⟨_, ao1, cap1, h, _⟩ := hu
    exact ⟨ao1, cap1, h⟩
  subst hu1
  go_wp2_with fail
  refine (cget_any _ L wL.out _ hu (by omega)).mono ?_
  rintro e W2 ⟨ao2, cap2, rfl, hO, hb⟩
  rw [gL.out.1] at hO ⊢
  rw [gL.out.2]
  have hd := Reads.of_owns hO (by have := hr.1; exact this)
  have hbx := bl_get hb hbx
  have hr := hr.below hb
  have hs := hs.below hb
  have hB := bl_trans hB hb
  clear hO hb hu
  simp only [Ctl.val] at hd ⊢
  have d0 : ∀ o' : Obj, _ := fun o' => (cells_of7 (kept_alloc hbx o')).1
  have d1 : ∀ o' : Obj, _ := fun o' => (cells_of7 (kept_alloc hbx o')).2.1
  have d2 : ∀ o' : Obj, _ := fun o' => (cells_of7 (kept_alloc hbx o')).2.2.1
  have d3 : ∀ o' : Obj, _ := fun o' => (cells_of7 (kept_alloc hbx o')).2.2.2.1
  have d4 : ∀ o' : Obj, _ := fun o' => (cells_of7 (kept_alloc hbx o')).2.2.2.2.1
  have d5 : ∀ o' : Obj, _ := fun o' => (cells_of7 (kept_alloc hbx o')).2.2.2.2.2.1
  have d6 : ∀ o' : Obj, _ := fun o' => (cells_of7 (kept_alloc hbx o')).2.2.2.2.2.2
  go_wp2_with fail
  -- the box of what was got
  have hbd := heap_alloc_new W2 (.cells #[.int .i64 k, .int .i64 ns, .int .i64 nr, .bool p, .int .i64 me, .int .i64 peer, .slice ao2 xs.length cap2] 24)
  have hb := bl_alloc (bl_refl W2) (.cells #[.int .i64 k, .int .i64 ns, .int .i64 nr, .bool p, .int .i64 me, .int .i64 peer, .slice ao2 xs.length cap2] 24)
  have hbx := bl_get hb hbx
  have hr := hr.below hb
  have hs := hs.below hb
  have hd := hd.below hb
  have hB := bl_trans hB hb
  clear hb d0 d1 d2 d3 d4 d5 d6
  generalize W2.alloc (.cells #[.int .i64 k, .int .i64 ns, .int .i64 nr, .bool p, .int .i64 me, .int .i64 peer, .slice ao2 xs.length cap2] 24) = W3 at hbx hbd hB hr hs hd ⊢
  refine (rsame_any ⟨k, ns, nr, p, me, peer, xs⟩ ⟨k, ns, nr, p, me, peer, xs⟩ ao ao2 cap cap2 _ hr hd).mono ?_
  rintro e W4 ⟨rfl, hb⟩
  rw [same_self]
  have hs := hs.below hb
  have hB := bl_trans hB hb
  clear hb hbx hbd hr hd
  go_wp2_with fail
  refine (cget_any _ ys wy _ hs (by omega)).mono ?_
  rintro e W5 ⟨ao5, cap5, rfl, hO, hb⟩
  rw [p1.out.2]
  rw [p1.out.1]
  have hB := bl_trans hB hb
  clear hO hb hs
  simp only [Ctl.val, Ctl.zero]
  go_wp2_with fail
  refine (awake_any _).mono ?_
  rintro e w2 ⟨rfl, hb⟩
  go_wp2
  go_ret
  exact ⟨rfl, bl_trans (bl_alloc hB _) hb⟩

set_option maxRecDepth 100000 in
set_option maxHeartbeats 1000000 in
theorem back_01 (k ns nr : Int) (p : Bool) (me peer : Int) (ao : Option Addr) (cap : Nat) (xs : List Int) (w : World) (_ : Reads (Value.int .u8) w (.slice ao xs.length cap) xs)
    (v : Value) (ys : List Int) (hs : Reads (Value.int .u8) w v ys) (wy : ∀ n ∈ ys, (Lit.int .u8 n).wf = true) (hle : ys.length ≤ 140737488351232)
    (g1 : (chkN k ns nr me peer xs.length != 0) = true)
    (dk dns dnr : Int) (dp : Bool) (dme dpeer : Int) (ds : List Int) (p1 : Hid (getC ys = ⟨dk, dns, dnr, dp, dme, dpeer, ds⟩ ∧ getErr ys = 0)) (hdl : ds.length ≤ 121) (p2 : Hid ((Ctl.mk dk dns dnr dp dme dpeer ds).chk = 0 ∧ (Ctl.mk dk dns dnr dp dme dpeer ds).out = ys)) :
    Calls Try.prog 5 #[.agg #[.int .i64 k, .int .i64 ns, .int .i64 nr, .bool p, .int .i64 me, .int .i64 peer, .slice ao xs.length cap], v] w fun e w' => e = .returned (.bool true) ∧ Below w.heap.size w w' := by
  obtain ⟨bo, cbp, hv⟩ : ∃ bo cbp, v = .slice bo ys.length cbp := by
    obtain ⟨_, bo, cbp, h, _⟩ := hs
    exact ⟨bo, cbp, h⟩
  subst hv
  go_enter Try.func5, Try.ntmps5
  go_wp2_with fail
  have hB := bl_alloc (bl_refl w) (.cells #[.int .i64 k, .int .i64 ns, .int .i64 nr, .bool p, .int .i64 me, .int .i64 peer, .slice ao xs.length cap] 24)
  have hs := hs.below hB
  generalize w.alloc (.cells #[.int .i64 k, .int .i64 ns, .int .i64 nr, .bool p, .int .i64 me, .int .i64 peer, .slice ao xs.length cap] 24) = W0 at hB hs ⊢
  refine (cput_bad k ns nr p me peer ao xs.length cap g1 _).mono ?_
  rintro e W1 ⟨rfl, hb⟩
  have hs := hs.below hb
  have hB := bl_trans hB hb
  clear hb
  go_wp2_with fail
  refine (cget_any _ ys wy _ hs (by omega)).mono ?_
  rintro e W5 ⟨ao5, cap5, rfl, hO, hb⟩
  rw [p1.out.2]
  rw [p1.out.1] at hO ⊢
  have hd := Reads.of_owns hO (by show ds.length ≤ maxLen; unfold maxLen; omega)
  have hs := hs.below hb
  have hB := bl_trans hB hb
  clear hO hb
  simp only [Ctl.val] at hd ⊢
  go_wp2_with fail
  have hb := bl_alloc (bl_refl W5) (.cells #[.int .i64 dk, .int .i64 dns, .int .i64 dnr, .bool dp, .int .i64 dme, .int .i64 dpeer, .slice ao5 ds.length cap5] 24)
  have hs := hs.below hb
  have hd := hd.below hb
  have hB := bl_trans hB hb
  clear hb
  generalize W5.alloc (.cells #[.int .i64 dk, .int .i64 dns, .int .i64 dnr, .bool dp, .int .i64 dme, .int .i64 dpeer, .slice ao5 ds.length cap5] 24) = W6 at hB hs hd ⊢
  refine (cput_any ⟨dk, dns, dnr, dp, dme, dpeer, ds⟩ ao5 cap5 _ hd).mono ?_
  rintro e W7 ⟨u, rfl, hO, hb⟩
  rw [p2.out.1]
  rw [p2.out.2] at hO
  have hu := Reads.of_owns hO (by have := hs.1; exact this)
  have hs := hs.below hb
  have hB := bl_trans hB hb
  clear hO hb hd
  have v1 := conv_reads hu
  have v2 := conv_reads hs
  clear hu
  go_wp2_with fail
  refine (awake_any _).mono ?_
  rintro e w2 ⟨rfl, hb⟩
  go_wp2
  go_ret
  exact ⟨rfl, bl_trans hB hb⟩

set_option maxRecDepth 100000 in
set_option maxHeartbeats 1000000 in
theorem back_00 (k ns nr : Int) (p : Bool) (me peer : Int) (ao : Option Addr) (cap : Nat) (xs : List Int) (w : World) (_ : Reads (Value.int .u8) w (.slice ao xs.length cap) xs)
    (v : Value) (ys : List Int) (hs : Reads (Value.int .u8) w v ys) (wy : ∀ n ∈ ys, (Lit.int .u8 n).wf = true) (hle : ys.length ≤ 140737488351232)
    (g1 : (chkN k ns nr me peer xs.length != 0) = true)
    (p1 : Hid (getC ys = Ctl.zero ∧ getErr ys = 2)) :
    Calls Try.prog 5 #[.agg #[.int .i64 k, .int .i64 ns, .int .i64 nr, .bool p, .int .i64 me, .int .i64 peer, .slice ao xs.length cap], v] w fun e w' => e = .returned (.bool true) ∧ Below w.heap.size w w' := by
  obtain ⟨bo, cbp, hv⟩ : ∃ bo cbp, v = .slice bo ys.length cbp := by
    obtain ⟨_, bo, cbp, h, _⟩ := hs
    exact ⟨bo, cbp, h⟩
  subst hv
  go_enter Try.func5, Try.ntmps5
  go_wp2_with fail
  have hB := bl_alloc (bl_refl w) (.cells #[.int .i64 k, .int .i64 ns, .int .i64 nr, .bool p, .int .i64 me, .int .i64 peer, .slice ao xs.length cap] 24)
  have hs := hs.below hB
  generalize w.alloc (.cells #[.int .i64 k, .int .i64 ns, .int .i64 nr, .bool p, .int .i64 me, .int .i64 peer, .slice ao xs.length cap] 24) = W0 at hB hs ⊢
  refine (cput_bad k ns nr p me peer ao xs.length cap g1 _).mono ?_
  rintro e W1 ⟨rfl, hb⟩
  have hs := hs.below hb
  have hB := bl_trans hB hb
  clear hb
  go_wp2_with fail
  refine (cget_any _ ys wy _ hs (by omega)).mono ?_
  rintro e W5 ⟨ao5, cap5, rfl, hO, hb⟩
  rw [p1.out.2]
  rw [p1.out.1]
  have hB := bl_trans hB hb
  clear hO hb hs
  simp only [Ctl.val, Ctl.zero]
  go_wp2_with fail
  refine (awake_any _).mono ?_
  rintro e w2 ⟨rfl, hb⟩
  go_wp2
  go_ret
  exact ⟨rfl, bl_trans (bl_alloc hB _) hb⟩

theorem walkControlBack (k : Int) (_ : (Lit.int .i64 k).wf = true) (ns : Int) (_ : (Lit.int .i64 ns).wf = true) (nr : Int) (_ : (Lit.int .i64 nr).wf = true) (p : Bool) (me : Int) (_ : (Lit.int .i64 me).wf = true) (peer : Int) (_ : (Lit.int .i64 peer).wf = true) (ao : Option Addr) (cap : Nat) (xs : List Int) (w : World) (hr : Reads (Value.int .u8) w (.slice ao xs.length cap) xs) (wx : ∀ n ∈ xs, (Lit.int .u8 n).wf = true) (_ : xs.length * 1 ≤ reachBytes) (v : Value) (ys : List Int) (hs : Reads (Value.int .u8) w v ys) (wy : ∀ n ∈ ys, (Lit.int .u8 n).wf = true) (hle : ys.length * 1 ≤ reachBytes) :
    Calls Try.prog 5 #[.agg #[.int .i64 k, .int .i64 ns, .int .i64 nr, .bool p, .int .i64 me, .int .i64 peer, .slice ao xs.length cap], v] w fun e w' => e = .returned (.bool true) ∧ Below w.heap.size w w' := by
  unfold reachBytes at hle
  by_cases h1 : (Ctl.mk k ns nr p me peer xs).chk = 0
  · obtain ⟨_, hof, hok⟩ := guess_bytes h1
    have hL : getC (Ctl.mk k ns nr p me peer xs).bytes = ⟨k, ns, nr, p, me, peer, xs⟩ ∧ getErr (Ctl.mk k ns nr p me peer xs).bytes = 0 := ⟨by rw [getC_ok hok, hof], getErr_ok hok⟩
    by_cases h2 : GetOk ys
    · have hb := of_bytes wy h2
      exact back_11 k ns nr p me peer ao cap xs w hr v ys hs wy (by omega) _ h1 (Ctl.out_ok h1) (bytes_le h1).2 (bytes_wf h1 wx) hL _ _ _ _ _ _ _ ⟨getC_ok h2, getErr_ok h2⟩ (chk_zero h2.2.2.2).2.2.2 ⟨h2.2.2.2, (Ctl.out_ok h2.2.2.2).trans hb⟩
    · exact back_10 k ns nr p me peer ao cap xs w hr v ys hs wy (by omega) _ h1 (Ctl.out_ok h1) (bytes_le h1).2 (bytes_wf h1 wx) hL ⟨getC_bad h2, getErr_bad h2⟩
  · have h1' : (chkN k ns nr me peer xs.length != 0) = true := by simp only [bne_iff_ne]; exact h1
    by_cases h2 : GetOk ys
    · have hb := of_bytes wy h2
      exact back_01 k ns nr p me peer ao cap xs w hr v ys hs wy (by omega) h1' _ _ _ _ _ _ _ ⟨getC_ok h2, getErr_ok h2⟩ (chk_zero h2.2.2.2).2.2.2 ⟨h2.2.2.2, (Ctl.out_ok h2.2.2.2).trans hb⟩
    · exact back_00 k ns nr p me peer ao cap xs w hr v ys hs wy (by omega) h1' ⟨getC_bad h2, getErr_bad h2⟩

end Go.Proofs.Ytcglpdbnggekdaa
