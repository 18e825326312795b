/- The contract of portageref05.Put at any control. Conditions: data of no more bytes than an argument can have. -/
import Derived.WalkKit
import Derived.Lib.Hide
import Derived.Test.YtcglpdbnggekdaaCtlSecond
import Derived.Test.YtcglpdbnggekdaaCtlCopied
namespace Go.Proofs.Ytcglpdbnggekdaa
open Go.RowKit

theorem reads_four {w : World} {a b c d a' b' c' d' : Int} {e : TypeId} {g : Nat} (hg : g = w.heap.size) (ha : a' = a) (hb : b' = b) (hc : c' = c) (hd : d' = d) : Reads (Value.int .u8) (w.alloc (.cells #[.int .u8 a', .int .u8 b', .int .u8 c', .int .u8 d'] e)) (.slice (some ⟨g, 0, none⟩) 4 4) [a, b, c, d] := by
  subst ha hb hc hd hg
  refine ⟨by simp [maxLen], _, _, rfl, ⟨by simp, fun h => by cases h⟩, fun i z hz => ⟨_, _, rfl, ?_⟩⟩
  rw [cell_of_row _ _ _ _ _ _ (heap_alloc_new _ _)]
  match i, hz with
  | 0, hz => simp at hz; subst hz; simp
  | 1, hz => simp at hz; subst hz; simp
  | 2, hz => simp at hz; subst hz; simp
  | 3, hz => simp at hz; subst hz; simp
  | n + 4, hz => simp at hz

set_option maxRecDepth 100000 in
set_option maxHeartbeats 1000000 in
theorem rput_good (k ns nr : Int) (me peer : Nat) (p : Bool) (ds : List Int) (ao : Option Addr) (cap : Nat) (hok : Hid ((Ctl.mk k ns nr p me peer ds).chk = 0)) (b3 : me ≤ 65535) (b4 : peer ≤ 65535) (hl : ds.length ≤ 121)
    (S L : List Int) (hS : Hid ((Ctl.mk k ns nr p me peer ds).sec = S)) (hSl : S.length ≤ 2) (hL : Hid (L = 3 :: (S ++ (be me 2 ++ (be peer 2 ++ ds))))) (w : World) (hr : Reads (Value.int .u8) w (.slice ao ds.length cap) ds) :
    Calls Try.prog 12 #[.agg #[.int .i64 k, .int .i64 ns, .int .i64 nr, .bool p, .int .i64 me, .int .i64 peer, .slice ao ds.length cap]] w fun e w' => ∃ u, e = .returned (.tuple #[u, .int .i64 0]) ∧
      w'.ownsRow w.heap.size 5 1 u L.length (L.map (Value.int .u8)) ∧ Below w.heap.size w w' := by
  obtain ⟨i0, hi, hz0, hz1, hz2⟩ := info_parts infoByte
  go_enter Try.func12, Try.ntmps12
  go_wp2_with fail
  have hbx := heap_alloc_new w (.cells #[.int .i64 k, .int .i64 ns, .int .i64 nr, .bool p, .int .i64 me, .int .i64 peer, .slice ao ds.length cap] 24)
  have hr := hr.below (bl_alloc (bl_refl w) (.cells #[.int .i64 k, .int .i64 ns, .int .i64 nr, .bool p, .int .i64 me, .int .i64 peer, .slice ao ds.length cap] 24))
  have hww := bl_alloc (bl_refl w) (.cells #[.int .i64 k, .int .i64 ns, .int .i64 nr, .bool p, .int .i64 me, .int .i64 peer, .slice ao ds.length cap] 24)
  generalize w.alloc (.cells #[.int .i64 k, .int .i64 ns, .int .i64 nr, .bool p, .int .i64 me, .int .i64 peer, .slice ao ds.length cap] 24) = w0 at hbx hr hww ⊢
  refine (rcheck_any _ _ _ _ _ _ _ _ _ _).mono ?_
  rintro e w1 ⟨rfl, hb⟩
  rw [show chkN k ns nr me peer ds.length = 0 from hok.out]
  have hB := hb
  have hbx1 := bl_get hB hbx
  clear hb
  have hsz := hB.size
  have d0 : ∀ o' : Obj, _ := fun o' => (cells_of7 (kept_alloc hbx1 o')).1
  have d1 : ∀ o' : Obj, _ := fun o' => (cells_of7 (kept_alloc hbx1 o')).2.1
  have d2 : ∀ o' : Obj, _ := fun o' => (cells_of7 (kept_alloc hbx1 o')).2.2.1
  have d3 : ∀ o' : Obj, _ := fun o' => (cells_of7 (kept_alloc hbx1 o')).2.2.2.1
  have d4 : ∀ o' : Obj, _ := fun o' => (cells_of7 (kept_alloc hbx1 o')).2.2.2.2.1
  have d5 : ∀ o' : Obj, _ := fun o' => (cells_of7 (kept_alloc hbx1 o')).2.2.2.2.2.1
  have d6 : ∀ o' : Obj, _ := fun o' => (cells_of7 (kept_alloc hbx1 o')).2.2.2.2.2.2
  go_wp2_with fail
  clear d0 d1 d2 d3 d4 d5 d6 hbx1
  have hO := owns_one w1 (base := w0.heap.size) (.int .u8 3) 5 hsz
  have hb := bl_alloc (bl_refl w1) (.cells #[.int .u8 3] 5)
  have hB := bl_trans hB hb
  clear hb hsz
  generalize hg1 : w1.heap.size = g1 at hO ⊢
  generalize w1.alloc (.cells #[.int .u8 3] 5) = W2 at hO hB ⊢
  refine (second_any ⟨k, ns, nr, p, me, peer, ds⟩ hok.out ao cap _).mono ?_
  rintro e W3 ⟨u3, rfl, hs3, hb⟩
  rw [hS.out] at hs3
  have hO := owns_fr hO (Fr.of_below (F := fun _ => False) hb) (fun _ _ h => h)
  have hB := bl_trans hB hb
  clear hb hg1
  have hsz := hB.size
  go_wp2_with (first | (at_builtin; refine wpList_append_r _ rfl (.tmp 11) (.tmp 13) 22 rfl w0.heap.size 5 i0 (.int .u8 0) 1 Try.underlying22 hi hz0 hz1 hz2 rfl _ _ _ rfl hO (Value.int .u8) _ S rfl hs3 (by intros; rfl) (by simp [maxLen]; omega) (by omega) hsz ?_; intro u4 W4 hO4 hg4 _; have hB4 : Below w0.heap.size w0 W4 := bl_grown hB hg4 (owns_row_ge hO); clear hg4; have hbx4 := bl_get hB4 hbx; obtain ⟨d0, d1, d2, d3, d4, d5, d6⟩ := cells_of7 hbx4; obtain ⟨ao4, cap4, rfl⟩ := owns_form hO4; have hsz4 := hB4.size) | (at_builtin; refine wpList_append_r _ rfl (.tmp 15) (.tmp 32) 22 rfl w0.heap.size 5 i0 (.int .u8 0) 1 Try.underlying22 hi hz0 hz1 hz2 rfl _ _ _ rfl (owns_below' hO4 (bl_alloc (bl_refl _) _)) (Value.int .u8) _ _ rfl (reads_four rfl rfl rfl rfl rfl) (by intros; rfl) (by simp [maxLen]; omega) (by simp; omega) (by simp; omega) ?_; intro u5 W5 hO5 hg5 _; have hB5 : Below w0.heap.size w0 W5 := bl_grown (bl_alloc hB4 _) hg5 (owns_row_ge hO4); clear hg5 d0 d1 d2 d3 d4 d5 d6; have d6 := (cells_of7 (bl_get hB5 hbx)).2.2.2.2.2.2; have hr5 := hr.below hB5; have hsz5 := hB5.size; obtain ⟨ao5, cap5, rfl⟩ := owns_form hO5) | (at_builtin; refine wpList_append_r _ rfl (.tmp 34) (.tmp 36) 22 rfl w0.heap.size 5 i0 (.int .u8 0) 1 Try.underlying22 hi hz0 hz1 hz2 rfl _ _ _ rfl hO5 (Value.int .u8) _ ds rfl hr5 (by intros; rfl) (by simp [maxLen]; omega) (by simp; omega) hsz5 ?_; intro u6 W6 hO6 hg6 _; have hB6 : Below w0.heap.size w0 W6 := bl_grown hB5 hg6 (owns_row_ge hO5); clear hg6))
  go_ret2
  have hm2 : ∀ n : Nat, n ≤ 65535 → be n 2 = [((n : Int) / 256), ((n : Int) % 256)] := fun n hn => by
    simp only [be]
    simp
    omega
  refine ⟨_, rfl, ?_, bl_trans hww hB6⟩
  have := owns_mono hO6 hww.size
  rw [hL.out, hm2 me b3, hm2 peer b4]
  simpa [Nat.add_assoc, Nat.add_comm, Nat.add_left_comm] using this

/-- portageref05.Put at any control. -/
theorem rput_any (c : Ctl) (ao : Option Addr) (cap : Nat) (w : World) (hr : Reads (Value.int .u8) w (.slice ao c.data.length cap) c.data) :
    Calls Try.prog 12 #[c.val ao cap] w fun e w' => ∃ u, e = .returned (.tuple #[u, .int .i64 c.chk]) ∧
      w'.ownsRow w.heap.size 5 1 u c.out.length (c.out.map (Value.int .u8)) ∧ Below w.heap.size w w' := by
  by_cases h : c.chk = 0
  · rw [Ctl.out_ok h, h]
    have hz := chk_zero h
    have hs : c.sec.length ≤ 2 := by unfold Ctl.sec; (repeat' split) <;> simp
    obtain ⟨k, ns, nr, p, me, peer, ds⟩ := c
    simp only [Ctl.val] at *
    obtain ⟨me, rfl⟩ := Int.eq_ofNat_of_zero_le hz.2.1.2.1.1
    obtain ⟨peer, rfl⟩ := Int.eq_ofNat_of_zero_le hz.2.1.2.2.1
    have hn := hz.2.1.2
    exact rput_good k ns nr me peer p ds ao cap h (by omega) (by omega) hz.2.2.2 _ _ rfl hs rfl w hr
  · rw [Ctl.out_bad h]
    obtain ⟨k, ns, nr, p, me, peer, ds⟩ := c
    have hz' : (chkN k ns nr me peer ds.length != 0) = true := by simp only [bne_iff_ne]; exact h
    simp only [Ctl.val, Ctl.chk]
    clear h hr
    go_enter Try.func12, Try.ntmps12
    go_wp2_with fail
    have hbx := heap_alloc_new w (.cells #[.int .i64 k, .int .i64 ns, .int .i64 nr, .bool p, .int .i64 me, .int .i64 peer, .slice ao ds.length cap] 24)
    have hB := bl_alloc (bl_refl w) (.cells #[.int .i64 k, .int .i64 ns, .int .i64 nr, .bool p, .int .i64 me, .int .i64 peer, .slice ao ds.length cap] 24)
    generalize w.alloc (.cells #[.int .i64 k, .int .i64 ns, .int .i64 nr, .bool p, .int .i64 me, .int .i64 peer, .slice ao ds.length cap] 24) = w0 at hbx hB ⊢
    refine (rcheck_any _ _ _ _ _ _ _ _ _ _).mono ?_
    rintro e w1 ⟨rfl, hb⟩
    have hbx := bl_get hb hbx
    have hB := bl_trans hB hb
    clear hb
    obtain ⟨d0, d1, d2, d3, d4, d5, d6⟩ := cells_of7 hbx
    go_wp2_with fail
    refine (rcheck_any _ _ _ _ _ _ _ _ _ _).mono ?_
    rintro e w2 ⟨rfl, hb⟩
    go_wp2
    go_ret2
    exact ⟨_, rfl, World.ownsRow_nil w2 _ _ _, bl_trans hB hb⟩

end Go.Proofs.Ytcglpdbnggekdaa
