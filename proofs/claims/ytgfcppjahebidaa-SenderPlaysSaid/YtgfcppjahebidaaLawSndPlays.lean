/- The walk of the statement SenderPlays. Conditions: the arguments' own. -/
import Derived.WalkKit
import Derived.Lib.Hide
import Derived.BigQuiet
import Derived.Handy
import Derived.Deep.Cut
import Derived.Deep.CutRange
import Derived.Test.YtgfcppjahebidaaOrd2
import Derived.Test.YtgfcppjahebidaaLawSndPlay5
import Derived.Test.YtgfcppjahebidaaWinSame
import Derived.Test.YtgfcppjahebidaaSndAwake
import Derived.Test.YtgfcppjahebidaaSndSide
import Derived.Test.YtgfcppjahebidaaOpenActs
namespace Go.Proofs.Ytgfcppjahebidaa
open Go.RowKit

/-- What a call makes of a sender. -/
def Snd.play (s : Snd) (c : Act3) : Snd := if c.k = 0 then s.push c.p else if c.k = 1 then s.send else if c.k = 2 then s.ack c.n else if c.k = 4 then ⟨s.size, 0, [], 0⟩ else s
theorem Snd.play_ok {s : Snd} (h : s.Ok) (c : Act3) : (s.play c).Ok := by
  unfold Snd.play
  split
  · exact Snd.push_ok h c.p
  · split
    · exact Snd.send_ok h
    · split
      · exact Snd.ack_ok h c.n
      · split
        · exact new_ok h.size1 h.size2
        · exact h
theorem play_any (w0 : World) (g : Nat) (X : Nat → Obj → Prop) (s : Snd) (hok : s.Ok) (v : Value) (c : Act3) (u : Value) (w : World) (hD : Duo w0 g X s v w) (hr : Reads (Value.int .u8) w u c.p) (hw : ∀ n ∈ c.p, (Lit.int .u8 n).wf = true) (hle : c.p.length ≤ 140737488351232) :
    Calls Try.prog 23 #[.pointer (some ⟨g, 0, none⟩), refV s v, .agg #[.int .i64 c.k, .int .i64 c.n, u]] w fun e w' => ∃ v', e = .returned (.tuple #[refV (s.play c) v', .bool true]) ∧ Duo w0 g X (s.play c) v' w' := by
  by_cases k0 : c.k = 0
  · have e : s.play c = s.push c.p := by unfold Snd.play; rw [if_pos k0]
    rw [e, k0]
    exact play_push w0 g X s v c.n u c.p w hD hr hw hle
  · obtain ⟨_, po, pc, rfl, _⟩ := hr
    by_cases k1 : c.k = 1
    · have e : s.play c = s.send := by unfold Snd.play; rw [if_neg k0, if_pos k1]
      rw [e, k1]
      refine (play_send w0 g X s hok v c.n po c.p.length pc w hD).mono ?_
      rintro e w' ⟨rfl, hd⟩
      exact ⟨v, rfl, hd⟩
    · by_cases k2 : c.k = 2
      · have e : s.play c = s.ack c.n := by unfold Snd.play; rw [if_neg k0, if_neg k1, if_pos k2]
        rw [e, k2]
        exact play_ack w0 g X s hok v c.n po c.p.length pc w hD
      · by_cases k4 : c.k = 4
        · have e : s.play c = ⟨s.size, 0, [], 0⟩ := by unfold Snd.play; rw [if_neg k0, if_neg k1, if_neg k2, if_pos k4]
          rw [e, k4]
          refine (play_reset w0 g X s v c.n po c.p.length pc w hD).mono ?_
          rintro e w' ⟨rfl, hd⟩
          exact ⟨_, rfl, hd⟩
        · have e : s.play c = s := by unfold Snd.play; rw [if_neg k0, if_neg k1, if_neg k2, if_neg k4]
          rw [e]
          by_cases k3 : c.k = 3
          · rw [k3]
            refine (play_again w0 g X s hok v c.n po c.p.length pc w hD).mono ?_
            rintro e w' ⟨rfl, hd⟩
            exact ⟨_, rfl, hd⟩
          · refine (play_none w0 g X s v c.k c.n po c.p.length pc (by omega) w hD).mono ?_
            rintro e w' ⟨rfl, hd⟩
            exact ⟨_, rfl, hd⟩

/-- The box that holds the reference's sender. -/
def boxOf (s : Snd) (v : Value) : Obj := .cells #[.int .i64 s.size, .int .i64 s.base, v, .int .i64 s.under] 51 (0, 0)
section
variable {w wr w' : World} {g : Nat} {X : Nat → Obj → Prop} {s : Snd} {v : Value}
theorem Duo.form (hd : Duo w g X s v wr) : ∃ ao cap, v = .slice ao s.ps.length cap ∧ s.ps.length ≤ cap ∧ s.ps.length ≤ maxLen := by
  obtain ⟨F, R, hF, hs, hp, _⟩ := hd
  exact hp.form
theorem play_any' (w0 : World) (g : Nat) (X : Nat → Obj → Prop) (s : Snd) (hok : s.Ok) (v : Value) (c : Act3) (u : Value) (w : World) (hD : Duo w0 g X s v w) (hr : Reads (Value.int .u8) w u c.p) (hw : ∀ n ∈ c.p, (Lit.int .u8 n).wf = true) (hle : c.p.length ≤ 140737488351232) :
    Calls Try.prog 23 #[.pointer (some ⟨g, 0, none⟩), refV s v, .agg #[.int .i64 c.k, .int .i64 c.n, u]] w fun e w' => ∃ vo vc, e = .returned (.tuple #[refV (s.play c) (.slice vo (s.play c).ps.length vc), .bool true]) ∧ Duo w0 g X (s.play c) (.slice vo (s.play c).ps.length vc) w' := by
  refine (play_any w0 g X s hok v c u w hD hr hw hle).mono ?_
  rintro e w' ⟨v', rfl, hD⟩
  obtain ⟨vo, vc, rfl, _⟩ := hD.form
  exact ⟨vo, vc, rfl, hD⟩
theorem Duo.under (hd : Duo w g X s v wr) (hok : s.Ok) :
    Calls Try.prog 16 #[.pointer (some ⟨g, 0, none⟩)] wr fun e w' => ∃ u, e = .returned u ∧ Reads (Value.int .i64) w' u s.unders ∧ Below wr.heap.size wr w' := by
  obtain ⟨F, R, hF, hs, hp, _⟩ := hd
  refine (sunder_any F g s hok wr hs).mono ?_
  rintro e w' ⟨u, rfl, hu, hb⟩
  exact ⟨u, rfl, hu.1, hb⟩
theorem Duo.base (hd : Duo w g X s v wr) :
    Calls Try.prog 17 #[.pointer (some ⟨g, 0, none⟩)] wr fun e w' => e = .returned (.int .i64 s.base) ∧ wr = w' := by
  obtain ⟨F, R, hF, hs, hp, _⟩ := hd
  exact sbase_any F g s wr hs
theorem Duo.len (hd : Duo w g X s v wr) :
    Calls Try.prog 12 #[.pointer (some ⟨g, 0, none⟩)] wr fun e w' => e = .returned (.int .i64 s.ps.length) ∧ wr = w' := by
  obtain ⟨F, R, hF, hs, hp, _⟩ := hd
  exact slen_any F g s wr hs
end

set_option maxRecDepth 100000 in
set_option maxHeartbeats 1000000 in
theorem plays_bad (n : Int) (v : Value) (h : n < 1 ∨ 63 < n) (w : World) :
    Calls Try.prog 7 #[.int .i64 n, v] w fun e w' => e = .returned (.bool true) ∧ Below w.heap.size w w' := by
  have hh := Lib.hid h
  go_enter Try.func7, Try.ntmps7
  go_wp2_with fail
  refine (snew_bad n hh.out _).mono ?_
  rintro e w1 ⟨rfl, rfl⟩
  go_wp2_with fail
  refine (rnew_bad n hh.out _).mono ?_
  rintro e w2 ⟨rfl, hb⟩
  go_wp2_with fail
  refine (awake_any _).mono ?_
  rintro e w3 ⟨rfl, hb3⟩
  go_wp2
  go_ret
  exact ⟨rfl, bl_trans (bl_alloc hb _) hb3⟩

set_option maxRecDepth 100000 in
set_option maxHeartbeats 6000000 in
theorem plays_ok (n : Nat) (v : Value) (l : List Act3) (h1 : 1 ≤ n) (h2 : n ≤ 63) (w : World) (hl : ActsAt w.heap.size w v l) :
    Calls Try.prog 7 #[.int .i64 n, v] w fun e w' => e = .returned (.bool true) ∧ Below w.heap.size w w' := by
  go_enter Try.func7, Try.ntmps7
  go_wp2_with fail
  refine (Mine.new n h1 h2 _).mono ?_
  rintro e w1 ⟨rfl, hM⟩
  generalize hg : w.heap.size = g at hM ⊢
  rw [← hg]
  have hrn := rnew_ok n h1 h2 w1
  unfold refV at hrn
  go_wp2_with fail
  refine hrn.mono ?_
  rintro e w2 ⟨rfl, hb2⟩
  have hM2 := hM.below hb2
  have hgh := hM2.2.size
  have hD0 := ((Duo.start hM2 rfl).alloc (boxOf ⟨n, 0, [], 0⟩ (.slice none 0 0))).mono (Y := fun k o => k = w2.heap.size ∧ o = boxOf ⟨n, 0, [], 0⟩ (.slice none 0 0)) (fun k o h => .inr h)
  have hl0 : ActsAt w.heap.size (w2.alloc (boxOf ⟨n, 0, [], 0⟩ (.slice none 0 0))) v l := hl.below hD0.bl
  clear hM hM2 hrn
  go_wp2_with fail
  refine (cut_any hl0).mono ?_
  rintro e w3 ⟨v', l', rfl, h300, hl2, rfl⟩
  replace hl2 := hl2 _ hl
  clear hl hl0 hb2
  obtain ⟨ao, cap, rfl⟩ : ∃ ao cap, v' = .slice ao l'.length cap := by
    obtain ⟨_, ao, cap, hv, _⟩ := hl2
    exact ⟨ao, cap, hv⟩
  generalize w2.heap.size = h at hD0 hgh ⊢
  go_wp2_with fail
  go_loopw [9] (fun kk wr => ∃ (i : Nat) (s : Snd) (v : Value), i ≤ l'.length ∧ kk = .int .i64 i ∧ Hid s.Ok ∧ Duo w g (fun k o => k = h ∧ o = boxOf s v) s v wr) (fun kk _ => l'.length - (intOf kk).toNat)
  case atStart => exact ⟨0, _, _, by omega, rfl, new_ok h1 h2, hD0⟩
  case round =>
    clear hD0
    obtain ⟨i, s, v, hile, rfl, hok, hD⟩ := hrel
    by_cases hlt : i < l'.length
    · obtain ⟨c, hci⟩ := get_some hlt
      obtain ⟨b, o, x, rfl, hbw, hc0, hc1, hc2, hx, hxl, _, _⟩ := hl2.at_ hci
      replace hc0 := (hD.bl.cell (p := ⟨b, _, none⟩) hbw).trans hc0
      replace hc1 := (hD.bl.cell (p := ⟨b, _, none⟩) hbw).trans hc1
      replace hc2 := (hD.bl.cell (p := ⟨b, _, none⟩) hbw).trans hc2
      clear hci
      rw [← Nat.add_assoc] at hc1 hc2
      have hxr := (hx.below hD.bl).1
      have hxw := Lib.hid hx.2.1
      clear hx
      have hbox : wr.heap[h]? = some (boxOf s v) := hD.box ⟨rfl, rfl⟩
      have hhl := lt_of_get hbox
      have hbl : b < wr.heap.size := Nat.lt_of_lt_of_le hbw hD.bl.size
      have hne1 : b ≠ wr.heap.size := by omega
      have hne2 : h ≠ wr.heap.size := by omega
      unfold boxOf at hbox
      obtain ⟨a0, a1, a2, a3⟩ := cells_of4 hbox
      have hok2 := Lib.hid (Snd.play_ok hok.out c)
      have hpl := fun (W : World) (X : Nat → Obj → Prop) (hb : Below wr.heap.size wr W) (hD : Duo w g X s v W) => play_any' w g X s hok.out v c x W hD (hxr.below hb) hxw.out hxl
      unfold refV at hpl
      have hA := (hD.alloc (.cells #[.int .i64 0, .int .i64 0, .slice none 0 0, .int .i64 0] 51)).below (bl_drew (bl_refl _))
      have hBd := hD.below (bl_drew (bl_refl _))
      have hD := Lib.hid hD
      go_wp2_with fail
      go_cut [10, 11] from 37 to 78 (fun tb tok wx => ∃ (k : Nat) (vo : Option Addr) (vc : Nat), tb = .pointer (some ⟨k, 0, none⟩) ∧ tok = .bool true ∧ k ≠ h ∧ Duo w g (fun k' o => (k' = h ∧ o = boxOf s v) ∨ (k' = k ∧ o = boxOf (s.play c) (.slice vo (s.play c).ps.length vc))) (s.play c) (.slice vo (s.play c).ps.length vc) wx)
      case first =>
        go_region_with (go_at_call 23; first
          | (refine (hpl _ _ (by first | exact bl_alloc (bl_drew (bl_refl _)) _ | exact bl_drew (bl_alloc (bl_refl _) _)) hA).mono ?_; rintro e w4 ⟨vo, vc, rfl, hD4⟩; have hz := hD4.box (h := wr.heap.size) (o := .cells #[.int .i64 0, .int .i64 0, .slice none 0 0, .int .i64 0] 51 (0, 0)) (.inr ⟨rfl, rfl⟩); have z0 := (cells_of4 hz).1; have z1 := (cells_of4 hz).2.1; have z2 := (cells_of4 hz).2.2.1; have z3 := (cells_of4 hz).2.2.2; have f0 := frozen_of' (j := 0) hz; have f1 := frozen_of' (j := 1) hz; have f2 := frozen_of' (j := 2) hz; have f3 := frozen_of' (j := 3) hz)
          | (refine (hpl _ _ (bl_drew (bl_refl _)) hBd).mono ?_; rintro e w4 ⟨vo, vc, rfl, hD4⟩))
        all_goals (try go_wp2_with fail)
        all_goals go_meet
        all_goals first
          | exact ⟨_, vo, vc, rfl, rfl, Nat.ne_of_gt (lt_of_get (hD4.box ⟨rfl, rfl⟩)), hD4.alloc (boxOf (s.play c) (.slice vo (s.play c).ps.length vc))⟩
          | exact ⟨_, vo, vc, rfl, rfl, fun e => hne2 e.symm, (hD4.set (h := wr.heap.size) (.inr ⟨rfl, rfl⟩) (Nat.le_trans hgh (Nat.le_of_lt hhl)) (fr_four _ _ _ _ _ _) (set_four _ _ _ _ _ _ _ _ _ _ _ hz)).mono (fun k o hk => by
              rcases hk with ⟨rfl, rfl⟩ | ⟨rfl, rfl⟩
              · exact .inl ⟨.inl ⟨rfl, rfl⟩, hne2⟩
              · exact .inr ⟨rfl, rfl⟩)⟩
      case rest =>
        obtain ⟨k, vo, vc, rfl, rfl, hkh, hD5⟩ := hcut
        clear a0 a1 a2 a3 hc0 hc1 hc2 hbox hpl hA hBd
        have hbx := hD5.box (h := h) (.inl ⟨rfl, rfl⟩)
        have hby := hD5.box (h := k) (.inr ⟨rfl, rfl⟩)
        unfold boxOf at hbx hby
        obtain ⟨a0, a1, a2, a3⟩ := cells_of4 hbx
        obtain ⟨b0, b1, b2, b3⟩ := cells_of4 hby
        have f0 := frozen_of' (j := 0) hbx
        have f1 := frozen_of' (j := 1) hbx
        have f2 := frozen_of' (j := 2) hbx
        have f3 := frozen_of' (j := 3) hbx
        go_wp2_with fail
        have hW := set_four wc h _ _ _ _ (.int .i64 (s.play c).size) (.int .i64 (s.play c).base) (.slice vo (s.play c).ps.length vc) (.int .i64 (s.play c).under) _ hbx
        have hF := fr_four wc h (.int .i64 (s.play c).size) (.int .i64 (s.play c).base) (.slice vo (s.play c).ps.length vc) (.int .i64 (s.play c).under)
        have hD6 := (hD5.set (h := h) (o' := boxOf (s.play c) (.slice vo (s.play c).ps.length vc)) (.inl ⟨rfl, rfl⟩) hgh hF hW).mono (Y := fun k o => k = h ∧ o = boxOf (s.play c) (.slice vo (s.play c).ps.length vc)) (fun k o hk => .inr hk)
        generalize (((wc.setCell ⟨h, 0, none⟩ (.int .i64 (s.play c).size)).setCell ⟨h, 1, none⟩ (.int .i64 (s.play c).base)).setCell ⟨h, 2, none⟩ (.slice vo (s.play c).ps.length vc)).setCell ⟨h, 3, none⟩ (.int .i64 (s.play c).under) = W7 at hW hF hD6 ⊢
        clear a0 a1 a2 a3 b0 b1 b2 b3 f0 f1 f2 f3 hbx hby hD5 hF
        have hD7 := hD6
        have hD := Lib.hid hD6
        clear hD6
        have HS : ∀ w' : World, Below W7.heap.size W7 w' → (fun w' => w'.cell? ⟨h, 0, none⟩ = some (.int .i64 (s.play c).size) ∧ w'.cell? ⟨h, 1, none⟩ = some (.int .i64 (s.play c).base) ∧ w'.cell? ⟨h, 2, none⟩ = some (.slice vo (s.play c).ps.length vc) ∧ w'.cell? ⟨h, 3, none⟩ = some (.int .i64 (s.play c).under)) w' := fun w' hb => by
          obtain ⟨c0, c1, c2, c3⟩ := cells_of4 (bl_get hb hW)
          exact ⟨c0, c1, c2, c3⟩
        refine wp_region_order (fun w' => w'.cell? ⟨h, 0, none⟩ = some (.int .i64 (s.play c).size) ∧ w'.cell? ⟨h, 1, none⟩ = some (.int .i64 (s.play c).base) ∧ w'.cell? ⟨h, 2, none⟩ = some (.slice vo (s.play c).ps.length vc) ∧ w'.cell? ⟨h, 3, none⟩ = some (.int .i64 (s.play c).under))
          [(0, 0), (1, 0), (2, 0), (3, 0), (5, 1), (4, 2), (6, 2), (7, 2), (8, 0), (9, 0), (10, 0), (11, 0), (13, 0), (14, 1), (12, 2), (15, 0), (16, 0), (17, 0), (18, 0), (20, 0), (21, 1), (22, 0), (19, 2), (23, 0)] [(24, false)] [24] []
          (by kernel_rfl) (fun _ _ d _ _ h => by cases d <;> exact h) (by decide +kernel) (HS _ (bl_drew (bl_refl _))) ?_
        refine wpHead_free (v := ?_) rfl (by rfl) ?_ ?_
        rotate_left
        focus (intro w1; go_simp; try with_reducible rfl)
        simp only [Act.put, List.setIfInBounds_toArray]
        refine wpHead_free (v := ?_) rfl (by rfl) ?_ ?_
        rotate_left
        focus (intro w1; go_simp; try with_reducible rfl)
        simp only [Act.put]
        refine wpHead_free (v := ?_) rfl (by rfl) ?_ ?_
        rotate_left
        focus (intro w1; go_simp; try with_reducible rfl)
        simp only [Act.put]
        refine wpHead_free (v := ?_) rfl (by rfl) ?_ ?_
        rotate_left
        focus (intro w1; go_simp; try with_reducible rfl)
        simp only [Act.put]
        refine wpHead_take (v := ?_) rfl (by rfl) ?_ ?_
        rotate_left
        focus (rintro w1 ⟨q0, q1, q2, q3⟩; go_simp; try with_reducible rfl)
        simp only [Act.put]
        refine wpHead_step rfl (by rfl) (fun K hK => ?_)
        go_simp; go_at_call 16
        refine ((hD7.below (bl_drew (bl_refl _))).under hok2.out).mono ?_; rintro e w8 ⟨u8, rfl, hu8, hb8⟩; simp only []
        have hb8 := bl_trans (bl_drew (bl_refl W7)) hb8
        refine hK.out _ _ (HS _ hb8) ?_
        clear hK K
        try simp only [Act.put, List.setIfInBounds_toArray]
        refine wpHead_step rfl (by rfl) (fun K hK => ?_)
        go_simp; go_at_call 25
        have hru := runder_any (s.play c) hok2.out (.slice vo (s.play c).ps.length vc) w8; unfold refV at hru; refine hru.mono ?_; rintro e w9 ⟨u9, rfl, hu9, hb9⟩; simp only []
        clear hru
        have hb9' := bl_trans hb8 hb9
        have hu8 := hu8.below hb9
        refine hK.out _ _ (HS _ hb9') ?_
        clear hK K
        try simp only [Act.put, List.setIfInBounds_toArray]
        refine wpHead_step rfl (by rfl) (fun K hK => ?_)
        go_simp; go_at_call 24
        refine (same_any _ _ _ _ _ hu8 hu9).mono ?_; rintro e w10 ⟨rfl, hb10⟩; rw [decide_eq_true rfl]; simp only []
        have hb10' := bl_trans hb9' hb10
        refine hK.out _ _ (HS _ hb10') ?_
        clear hK K
        try simp only [Act.put, List.setIfInBounds_toArray]
        refine wpHead_free (v := ?_) rfl (by rfl) ?_ ?_
        rotate_left
        focus (intro w1; go_simp; try with_reducible rfl)
        simp only [Act.put]
        refine wpHead_free (v := ?_) rfl (by rfl) ?_ ?_
        rotate_left
        focus (intro w1; go_simp; try with_reducible rfl)
        simp only [Act.put]
        refine wpHead_free (v := ?_) rfl (by rfl) ?_ ?_
        rotate_left
        focus (intro w1; go_simp; try with_reducible rfl)
        simp only [Act.put]
        refine wpHead_free (v := ?_) rfl (by rfl) ?_ ?_
        rotate_left
        focus (intro w1; go_simp; try with_reducible rfl)
        simp only [Act.put]
        refine wpHead_free (v := ?_) rfl (by rfl) ?_ ?_
        rotate_left
        focus (intro w1; go_simp; try with_reducible rfl)
        simp only [Act.put]
        refine wpHead_take (v := ?_) rfl (by rfl) ?_ ?_
        rotate_left
        focus (rintro w1 ⟨q0, q1, q2, q3⟩; go_simp; try with_reducible rfl)
        simp only [Act.put]
        refine wpHead_step rfl (by rfl) (fun K hK => ?_)
        go_simp; go_at_call 17
        refine (hD7.below hb10').base.mono ?_; rintro e w11 ⟨rfl, rfl⟩; simp only []
        refine hK.out _ _ (HS _ hb10') ?_
        clear hK K
        try simp only [Act.put, List.setIfInBounds_toArray]
        refine wpHead_free (v := ?_) rfl (by rfl) ?_ ?_
        rotate_left
        focus (intro w1; go_simp; try with_reducible rfl)
        simp only [Act.put]
        refine wpHead_free (v := ?_) rfl (by rfl) ?_ ?_
        rotate_left
        focus (intro w1; go_simp; try with_reducible rfl)
        simp only [Act.put]
        refine wpHead_free (v := ?_) rfl (by rfl) ?_ ?_
        rotate_left
        focus (intro w1; go_simp; try with_reducible rfl)
        simp only [Act.put]
        refine wpHead_free (v := ?_) rfl (by rfl) ?_ ?_
        rotate_left
        focus (intro w1; go_simp; try with_reducible rfl)
        simp only [Act.put]
        refine wpHead_free (v := ?_) rfl (by rfl) ?_ ?_
        rotate_left
        focus (intro w1; go_simp; try with_reducible rfl)
        simp only [Act.put]
        refine wpHead_take (v := ?_) rfl (by rfl) ?_ ?_
        rotate_left
        focus (rintro w1 ⟨q0, q1, q2, q3⟩; go_simp; try with_reducible rfl)
        simp only [Act.put]
        refine wpHead_free (v := ?_) rfl (by rfl) ?_ ?_
        rotate_left
        focus (intro w1; go_simp; try with_reducible rfl)
        simp only [Act.put]
        refine wpHead_step rfl (by rfl) (fun K hK => ?_)
        go_simp; go_at_call 12
        refine (hD7.below hb10').len.mono ?_; rintro e w11 ⟨rfl, rfl⟩; simp only []
        refine hK.out _ _ (HS _ hb10') ?_
        clear hK K
        try simp only [Act.put, List.setIfInBounds_toArray]
        refine wpHead_free (v := ?_) rfl (by rfl) ?_ ?_
        rotate_left
        focus (intro w1; go_simp; try with_reducible rfl)
        simp only [Act.put]
        refine wpHead_nil ?_
        refine wpTail_step rfl (by rfl) (fun K hK => ?_)
        go_simp
        refine hK.out _ _ ?_
        clear hK K
        try simp only [Act.put, List.setIfInBounds_toArray]
        refine wpTail_nil ?_
        have hD8 := hD7.below hb10'
        go_wp2
        go_roundw
        case rel => first | exact ⟨i + 1, _, _, by omega, by go_num, hok2, hD8⟩ | exact ⟨⟨i + 1, _, _, by omega, by go_num, hok2, hD8⟩, rfl⟩ | ((repeat apply Exists.intro); exact ⟨⟨i + 1, _, _, by omega, by go_num, hok2, hD8⟩, rfl⟩)
        case measure => simp [intOf]; omega
    · have hi2 : i = l'.length := by omega
      go_wp2_with fail
      refine (awake_any _).mono ?_
      rintro e w' ⟨rfl, hb⟩
      go_wp2
      go_ret
      exact ⟨rfl, bl_trans hD.bl hb⟩

theorem walkSenderPlays (n : Int) (_ : (Lit.int .i64 n).wf = true) (v : Value) (l : List Act3) (w : World) (hl : ActsAt w.heap.size w v l) :
    Calls Try.prog 7 #[.int .i64 n, v] w fun e w' => e = .returned (.bool true) ∧ Below w.heap.size w w' := by
  by_cases h : n < 1 ∨ 63 < n
  · exact plays_bad n v h w
  · obtain ⟨n, rfl⟩ := Int.eq_ofNat_of_zero_le (show 0 ≤ n by omega)
    exact plays_ok n v l (by omega) (by omega) w hl

end Go.Proofs.Ytgfcppjahebidaa
