/- (*link.Link).comes. Written by program (gen_lnkh.py). (*link.Link).fits. Written by program (gen_lnki.py). Conditions: as they stand. -/
import Derived.BigQuiet
import Derived.Test.YthmdibagcbbgoaaGreatM15
namespace Go.Proofs.YthmdibagcbbgoaaGreat
open Go.RowKit

def Lk.forget (t : Lk) : Lk := { t with r := { t.r with asked := [] } }
def Lk.ask (t : Lk) (n : Int) : Lk := t.send ⟨4, 0, n, false, 0, t.peer, []⟩
def Lk.askAll (t : Lk) (l : List Int) : Lk := l.foldl Lk.ask t
def Lk.taken (t : Lk) (ns : Int) (p : List Int) : Lk := { t with r := t.r.take ns p, inn := t.inn ++ t.r.tells ns p }
def Lk.takes (t : Lk) (ns : Int) (p : List Int) : Lk := if t.held = true then t else (t.taken ns p).askAll (t.r.wants ns p)
def Lk.comes (t : Lk) (ns nr : Int) (p : Bool) (data : List Int) : Lk := ((if p = true then (t.ack nr).goes.forget else (t.ack nr).goes).takes ns data).answer
theorem tells_le9 {r : Rcv} (h : r.Ok) (ns : Int) (p : List Int) : (r.tells ns p).length ≤ 64 := by
  unfold Rcv.tells
  split
  · rename_i hc
    have h1 := (h.put hc p).1
    obtain ⟨_, h2, _, _⟩ := drain_ok (r.with_ ns p).kept.length _ h1
    have h3 := h1.len
    have h4 := h1.size2
    exact Nat.le_trans h2 (by omega)
  · simp
theorem askAll_le : ∀ (l : List Int) (s : List (Int × Int) × List Int), (l.foldl askOne s).2.length ≤ s.2.length + l.length
  | [], s => by simp
  | n :: l, s => by
    rw [List.foldl_cons]
    refine Nat.le_trans (askAll_le l (askOne s n)) ?_
    have : (askOne s n).2.length ≤ s.2.length + 1 := by
      unfold askOne
      simp only
      split <;> simp
    simp
    omega
theorem wants_le {r : Rcv} (ns : Int) (p : List Int) : (r.wants ns p).length ≤ 128 := by
  unfold Rcv.wants
  split
  · have h1 := rmissing_le' (r.gone ns p).2
    have h2 := askAll_le (r.gone ns p).2.missing ((r.gone ns p).2.asked, [])
    have h3 : ([] : List Int).length = 0 := rfl
    unfold Rcv.asks askAll
    rw [h3] at h2
    omega
  · simp
theorem askAll_out : ∀ (l : List Int) (t : Lk), (t.askAll l).out.length = t.out.length + l.length
  | [], t => rfl
  | n :: l, t => by
    show ((t.ask n).askAll l).out.length = _
    rw [askAll_out l]
    show (t.out ++ [_]).length + _ = _
    simp
    omega
theorem ack_r (t : Lk) (nr : Int) : (t.ack nr).r = t.r ∧ (t.ack nr).inn = t.inn ∧ (t.ack nr).held = t.held := by
  unfold Lk.ack
  split <;> exact ⟨rfl, rfl, rfl⟩
theorem forget_ok {r : Rcv} (h : r.Ok) : ({ r with asked := [] } : Rcv).Ok := ⟨h.size1, h.size2, h.waits, h.keys, h.nodup⟩
theorem held_take {w w' : World} {a b : Nat} {x y z : Value} {G : Nat → Prop} (h : w.cell? ⟨a, 12, none⟩ = some x ∧ w.cell? ⟨b, 1, none⟩ = some y ∧ w.cell? ⟨b, 6, none⟩ = some z) (hf : Fr G w w') (ha : ¬ G a) (hb : ¬ G b) :
    w'.cell? ⟨a, 12, none⟩ = some x ∧ w'.cell? ⟨b, 1, none⟩ = some y ∧ w'.cell? ⟨b, 6, none⟩ = some z := ⟨hf.cell h.1 ha, hf.cell h.2.1 hb, hf.cell h.2.2 hb⟩
theorem infoPays9 : (Tryz.prog.info? 44).map (fun i => (i.zero, i.size, i.bytes)) = some (some (.slice none 0 0), 1, 24) := by kernel_rfl

set_option maxRecDepth 100000 in
set_option maxHeartbeats 4000000 in
theorem lcomes_any (B : Nat) (col : Nat → Nat) (w : World) (a sg rg : Nat) (ov iv : Value) (t : Lk) (h : LkP B col w a sg rg ov iv t) (hok : t.s.Ok) (hokr : t.r.Ok) (c : Cn) (x : Value) (hx : Pl col w x c.data) (hm : t.out.length ≤ 80000) (hmi : t.inn.length ≤ 80000) :
    Calls Tryz.prog 81 #[.pointer (some ⟨a, 0, none⟩), .agg #[.int .i64 c.kind, .int .i64 c.ns, .int .i64 c.nr, .bool c.p, .int .i64 c.me, .int .i64 c.peer, x]] w fun e w' => (∃ v, e = .returned v) ∧ LkTo B col w a sg rg (t.comes c.ns c.nr c.p c.data) w' := by
  obtain ⟨gi1, gi, gz0, gz1, gz2⟩ := info_parts (infoPays9)
  obtain ⟨xo, xc, rfl⟩ : ∃ xo xc, x = .slice xo c.data.length xc := by
    obtain ⟨⟨_, ao, cap, h, _⟩, _⟩ := hx
    exact ⟨ao, cap, h⟩
  obtain ⟨kind, ns, nr, pp, cme, cpeer, data⟩ := c
  dsimp only at hx ⊢
  obtain ⟨w1, c1, hw1, h1, H1, hc0, hx1, d0, d1, d2, d3, d4, d5, d6⟩ := ctl_box h ⟨kind, ns, nr, pp, cme, cpeer, data⟩ _ hx
  dsimp only at hw1 d1 d2 d3 hx1
  obtain ⟨T, hT⟩ : ∃ T, (t.ack nr).goes = T := ⟨_, rfl⟩
  have hq : t.comes ns nr pp data = ((if pp = true then T.forget else T).takes ns data).answer := by unfold Lk.comes; rw [hT]
  have HAK := lack_any B c1 _ a sg rg _ _ _ h1 hok nr
  clear h h1 hx d0 d4 d5
  go_enter Tryz.func81, Tryz.ntmps81
  go_wp2_with fail
  try simp only [hw1]
  go_wp2_with fail
  refine HAK.mono ?_
  rintro e w3 ⟨⟨v, rfl⟩, h3⟩
  obtain ⟨c3, o3, i3, hp3, hc3, HF3, H3⟩ := h3.openf
  have m1 := HF3.out.cell d1 (by omega)
  have m3 := HF3.out.cell d3 (by omega)
  have m6 := HF3.out.cell d6 (by omega)
  have hx3 : Pl c3 w3 _ _ := hx1.fr HF3.out (fun k hk hn => ⟨hn, by have := hc3 k hk; omega⟩)
  have hcb3 : Hid (c3 w.heap.size = 0) := by
    have := hc3 w.heap.size (cell_lt d1)
    unfold Hid
    omega
  obtain ⟨hs3, ho3⟩ := ack_s t nr
  obtain ⟨hr3, hi3, hh3⟩ := ack_r t nr
  have HG := lgoes_any B c3 w3 a sg rg _ _ _ hp3 (by rw [hs3]; exact Snd.ack_ok hok nr) (by rw [ho3]; omega)
  have HOL : Hid (T.out.length ≤ 80064 ∧ T.r.Ok ∧ T.inn.length ≤ 80000) := by
    have h0 := goes_went (t.ack nr)
    have h1 := h0.out
    obtain ⟨_, _, _, _, _, _, _, _, _, _, k1, k2, _⟩ := h0.same
    rw [hT] at h1 k1 k2
    rw [ho3] at h1
    exact ⟨by omega, by rw [k1, hr3]; exact hokr, by rw [k2, hi3]; exact hmi⟩
  rw [hT] at HG
  clear h3 hp3 HAK d1 d2 d3 d6 hs3 ho3 hr3 hi3 hh3 hT hx1 hc3
  go_wp2_with fail
  refine HG.mono ?_
  rintro e w4 ⟨⟨v, rfl⟩, h4⟩
  obtain ⟨c4, o4, i4, hp4, hc4, HF4, H4⟩ := h4.openf
  have n1 := HF4.out.cell m1 (by have := hcb3.out; omega)
  have n3 := HF4.out.cell m3 (by have := hcb3.out; omega)
  have n6 := HF4.out.cell m6 (by have := hcb3.out; omega)
  have hx4 : Pl c4 w4 _ _ := hx3.fr HF4.out (fun k hk hn => ⟨hn, by have := hc4 k hk; omega⟩)
  have hcb4 : Hid (c4 w.heap.size = 0) := by
    have := hc4 w.heap.size (cell_lt m1)
    have := hcb3.out
    unfold Hid
    omega
  have HQ : Hid (∀ W, LkTo B c4 w4 a sg rg ((if pp = true then T.forget else T).takes ns data).answer W → LkTo B col w a sg rg (t.comes ns nr pp data) W) := fun W h => by rw [hq]; exact H1.out _ _ (H3.out _ _ (H4.out _ _ h))
  have HP4 := Lib.hid hp4
  have e12 := hp4.c12
  have HX4 := Lib.hid hx4
  clear h4 hp4 hc4 HG m1 m3 m6 H1 H3 H4 HF3 HF4 hq hx3 hx4
  cases pp with
  | false =>
    have HPx := HP4
    have HQx : Hid (∀ W, LkTo B c4 w4 a sg rg (T.takes ns data).answer W → LkTo B col w a sg rg (t.comes ns nr false data) W) := HQ
    have HOKx : Hid (T.r.Ok) := HOL.out.2.1
    have f12 := e12
    have f10 := HPx.out.c10
    clear HQ HP4
    cases hh : T.held with
    | true =>
      have hq9 : T.takes ns data = T := by unfold Lk.takes; rw [if_pos hh]
      rw [hh] at f10
      have HA := lanswer_any B c4 w4 a sg rg _ _ _ HPx.out (by have := HOL.out.1; show T.out.length ≤ _; omega)
      rw [hq9] at HQx
      clear hq9
      go_wp2_with fail
      refine HA.mono ?_
      rintro e w6 ⟨⟨v, rfl⟩, h6⟩
      have hE := HQx.out _ h6
      clear h6 HA
      go_wp2
      go_end0
      exact ⟨⟨_, rfl⟩, hE⟩
    | false =>
      have hq9 : T.takes ns data = (T.taken ns data).askAll (T.r.wants ns data) := by unfold Lk.takes; rw [if_neg (by rw [hh]; decide)]
      rw [hh] at f10
      rw [hq9] at HQx
      clear hq9
      have HTK := fun W : World => fun hb : Below w4.heap.size w4 W => rctake_any (fun k => c4 k = 3) (fun k => c4 k = 7) rg T.r HOKx.out ns (.slice xo data.length xc) data W (HPx.out.rcv.below hb) (fun k hk => Nat.lt_of_lt_of_le ((HPx.out.cols.2 k (by rcases hk with hk | hk <;> omega)).2) hb.size) (HX4.out.1.below hb) HX4.out.2.1
      go_wp2_with fail
      go_region_held3 (fun w' => w'.cell? ⟨a, 12, none⟩ = some (.pointer (some ⟨rg, 0, none⟩)) ∧ w'.cell? ⟨w.heap.size, 1, none⟩ = some (.int .i64 ns) ∧ w'.cell? ⟨w.heap.size, 6, none⟩ = some (.slice xo data.length xc))
        (first | exact ⟨f12, n1, n6⟩ | exact held_take ⟨f12, n1, n6⟩ ((Fr.of_below (bl_drew (bl_refl w4))).trans hF6 (fun k hk => .inl hk)) (by have := HPx.out.own; omega) (by have := hcb4.out; omega))
        (first | (go_at_call 96; refine (HTK _ (bl_drew (bl_refl _))).mono ?_; rintro e w6 ⟨lv, av, rfl, hs6, hF6, hP6, hO6⟩))
      have hf6 : Fr (fun k => c4 k = 3) w4 w6 := (Fr.of_below (bl_drew (bl_refl w4))).trans hF6 (fun k hk => .inl hk)
      have h6 := HPx.out.came hf6 hs6
      have hP7 : Pays (fun k => paint c4 w4 w6 7 k = 7) w6 lv (T.r.tells ns data) := hP6.mono fun k hk => by
        rcases hk with hk | hk
        · exact HPx.out.cols.keep hk (by omega)
        · exact paint_new hk.1 hk.2
      have HW6 : Hid (∀ t' w', LkTo B (paint c4 w4 w6 7) w6 a sg rg t' w' → LkTo B c4 w4 a sg rg t' w') := fun t' w' h => LkTo.then_ hf6.size (fun k hk _ => paint_old hk) (hf6.mono fun k hk => .inl (by omega)) h
      have HRA : Hid (Rd (fun k => paint c4 w4 w6 7 k = 7) (Value.int .i64) w6 av (T.r.wants ns data)) := by
        have hwl := wants_le (r := T.r) ns data
        exact (Rd.of_owns hO6 (by unfold maxLen; omega)).mono fun k hk => paint_new hk.1 hk.2
      obtain ⟨alo, alc, rfl⟩ : ∃ alo alc, av = .slice alo (T.r.wants ns data).length alc := rc_form hO6
      generalize paint c4 w4 w6 7 = c6 at h6 hP7 HW6 HRA
      obtain ⟨ys, hl, hrl, hY⟩ := hP7
      have e14 := h6.c14
      have HP6 := Lib.hid h6
      have HR := Lib.hid hrl.1
      have HY := Lib.hid hY
      have HL := Lib.hid hl
      obtain ⟨lo, lc, hlv⟩ : ∃ lo lc, lv = .slice lo ys.length lc := by
        obtain ⟨⟨_, ao, cap, h, _⟩, _⟩ := hrl
        exact ⟨ao, cap, h⟩
      subst hlv
      obtain ⟨vs, v1, v2, v3, v4⟩ := h6.inn
      obtain ⟨io, ic, htv⟩ := rc_form v2
      have hz6 := h6.frozen 14
      have HMM : Hid (T.inn.length + (T.r.tells ns data).length ≤ 1000000) := by
        have := tells_le9 HOKx.out ns data
        have := HOL.out.2.2
        show T.inn.length + _ ≤ 1000000
        omega
      subst htv
      clear hs6 hF6 hP6 hO6 hf6 h6 hrl hY hl v1 v2 v3 v4 HTK
      go_wp2_with (at_builtin; refine wpList_rows _ rfl (.tmp 44) (.tmp 45) 29 rfl Tryz.underlying29 gi gz0 gz1 gz2 (d := 5) (by omega) (by omega) HP6.out.cols rfl HP6.out.inn rfl HR.out HL.out HY.out HMM.out ?_; intro l2 w7 hR7 hF7; have z7 := rc_frozen (j := 14) (hF7.get HP6.out.hb (fun e => by have := HP6.out.own; omega)); have g7 := hF7.cell e14 (fun e => by have := HP6.out.own; omega); have HR7 := Lib.hid hR7; obtain ⟨us, u1, u2, u3, u4⟩ := hR7; obtain ⟨lo2, lc2, hl2⟩ := rc_form u2; subst hl2; have HF7 := Lib.hid hF7; clear u1 u2 u3 u4 hF7 e14)
      have h8 := HP6.out.in_set HF7.out HR7.out
      have HF8 : Hid (Fr (fun k => c6 k = 1 ∨ c6 k = 5) w6 (w7.setCell ⟨a, 14, none⟩ (.slice lo2 us.length lc2))) := (HF7.out.mono fun k hk => .inl (.inr hk)).trans (fr_cell w7 a 14 _) (fun k hk => .inl (.inl (by subst hk; exact HP6.out.own)))
      have HW8 : Hid (∀ t' w', LkTo B (paint c6 w6 w7 5) (w7.setCell ⟨a, 14, none⟩ (.slice lo2 us.length lc2)) a sg rg t' w' → LkTo B c6 w6 a sg rg t' w') := fun t' w' h => LkTo.then_ HF8.out.size (fun k hk _ => paint_old hk) (HF8.out.mono fun k hk => .inl (by omega)) h
      have HC8 : Hid (∀ k, k < w6.heap.size → paint c6 w6 w7 5 k = c6 k) := fun k hk => paint_old hk
      obtain ⟨W8, hW8⟩ : ∃ W8, w7.setCell ⟨a, 14, none⟩ (.slice lo2 us.length lc2) = W8 := ⟨_, rfl⟩
      try simp only [hW8]
      rw [hW8] at h8 HF8 HW8
      generalize paint c6 w6 w7 5 = c8 at h8 HW8 HC8
      have HRA8 : Hid (Rd (fun k => c6 k = 7 ∧ c8 k = 7) (Value.int .i64) W8 (.slice alo (T.r.wants ns data).length alc) (T.r.wants ns data)) := by
        refine (HRA.out.fr HF8.out (fun k hk e => by omega)).mono fun k hk => ⟨hk, ?_⟩
        rw [HC8.out k (HP6.out.cols.2 k (by omega)).2]
        exact hk
      have H8 : Hid (LkTo B c8 W8 a sg rg ((T.taken ns data).askAll ((T.r.wants ns data).take 0)) W8) := h8.to
      have hwl := wants_le (r := T.r) ns data
      clear h8 HR7 HP6 HR HY HL HRA HC8 HF8 HF7
      go_wp2_with fail
      go_loopw [51] (fun kv wr => ∃ k : Nat, kv = .int .i64 k ∧ k ≤ (T.r.wants ns data).length ∧ Hid (LkTo B c8 W8 a sg rg ((T.taken ns data).askAll ((T.r.wants ns data).take k)) wr)) (fun kv _ => 200 - (intOf kv).toNat)
      case atStart => exact ⟨0, rfl, by omega, H8⟩
      case round =>
        clear H8
        obtain ⟨k, rfl, hk, HI⟩ := hrel
        obtain ⟨c9, o9, i9, hp9, hc9, HF9, H9⟩ := HI.out.openf
        have hol9 : (((T.taken ns data).askAll ((T.r.wants ns data).take k))).out.length ≤ 90000 := by
          rw [askAll_out, List.length_take]
          have := HOL.out.1
          show T.out.length + _ ≤ _
          omega
        by_cases hlt : k < (T.r.wants ns data).length
        · obtain ⟨y, hy⟩ := get_some hlt
          obtain ⟨bb, oo, rfl, hcell⟩ : ∃ bb oo, alo = some ⟨bb, oo, none⟩ ∧ wr.cell? ⟨bb, oo + k, none⟩ = some (.int .i64 y) := by
            obtain ⟨⟨_, ao', ac', hv, _, hc⟩, hF⟩ := HRA8.out
            cases hv
            obtain ⟨b', o', ha, hcell⟩ := hc k y hy
            subst ha
            exact ⟨b', o', rfl, HF9.out.cell hcell (by have := hF b' rfl; omega)⟩
          have HSS := lsend_any B c9 wr a sg rg o9 i9 _ hp9 ⟨4, 0, y, false, 0, ((T.taken ns data).askAll ((T.r.wants ns data).take k)).peer, []⟩ _ (byt_nil _ _) (by omega)
          have g1 := hp9.c1
          have f0 : (0 : Int) ≤ (k : Int) := by omega
          have f1 : (k : Int) < ((T.r.wants ns data).length : Int) := by omega
          have f2 : (k : Int) < 128 := by omega
          have hnx : ((T.taken ns data).askAll ((T.r.wants ns data).take k)).send ⟨4, 0, y, false, 0, ((T.taken ns data).askAll ((T.r.wants ns data).take k)).peer, []⟩ = (T.taken ns data).askAll ((T.r.wants ns data).take (k + 1)) := by
            rw [take_snoc' hy]
            unfold Lk.askAll
            rw [List.foldl_append]
            rfl
          rw [hnx] at HSS
          clear hp9 hc9 hy hnx HI
          go_wp2_with fail
          refine HSS.mono ?_
          rintro e w10 ⟨⟨v, rfl⟩, h10⟩
          have HN := Lib.hid (H9.out _ _ h10)
          clear h10 HSS
          go_wp2_with fail
          refine ⟨⟨k + 1, by go_num, by omega, HN⟩, ?_⟩
          simp [intOf]; omega
        · obtain rfl : k = (T.r.wants ns data).length := by omega
          rw [List.take_length] at HI hp9 hol9
          have HA := lanswer_any B c9 wr a sg rg _ _ _ hp9 (by omega)
          clear hp9 hc9 HI
          go_wp2_with fail
          refine HA.mono ?_
          rintro e w11 ⟨⟨v, rfl⟩, h11⟩
          have hE := HQx.out _ (HW6.out _ _ (HW8.out _ _ (H9.out _ _ h11)))
          clear h11 HA
          go_wp2
          go_end0
          exact ⟨⟨_, rfl⟩, hE⟩
  | true =>
    have HFG := rcforget_any _ _ rg T.r w4 HP4.out.rcv (fun k hk => (HP4.out.cols.2 k (by omega)).2) (fun k hk => (HP4.out.cols.2 k (by omega)).2)
    go_wp2_with fail
    refine HFG.mono ?_
    rintro e w5 ⟨⟨v, rfl⟩, hr5, hf5⟩
    have h5 := HP4.out.rcvd (n := 3) hf5 hr5 (fun k hk => hk.elim .inl (fun h => .inr ⟨rfl, h⟩)) (fun k hk => .inl hk)
    have p1 := hf5.cell n1 (by have := hcb4.out; omega)
    have p6 := hf5.cell n6 (by have := hcb4.out; omega)
    have hx5 : Pl (paint c4 w4 w5 3) w5 _ _ := HX4.out.fr hf5 (fun k hk hn => ⟨by omega, by rw [paint_old hk]; exact hn⟩)
    have hcb5 : Hid (paint c4 w4 w5 3 w.heap.size = 0) := by
      unfold Hid
      rw [paint_old (cell_lt n1)]
      exact hcb4.out
    have HQx : Hid (∀ W, LkTo B (paint c4 w4 w5 3) w5 a sg rg (T.forget.takes ns data).answer W → LkTo B col w a sg rg (t.comes ns nr true data) W) := fun W h => HQ.out W (LkTo.then_ hf5.size (fun k hk _ => paint_old hk) (hf5.mono fun k hk => .inl (by omega)) h)
    generalize paint c4 w4 w5 3 = c5 at h5 HQx hcb5 hx5
    have HPx : Hid (LkP B c5 w5 a sg rg o4 i4 T.forget) := h5
    have HOKx : Hid (T.forget.r.Ok) := forget_ok HOL.out.2.1
    have HX5 := Lib.hid hx5
    have f12 := HPx.out.c12
    have f10 := HPx.out.c10
    clear HQ HP4 h5 hr5 hf5 HFG n1 n6 hx5 HX4 e12 hcb4
    cases hh : T.forget.held with
    | true =>
      have hq9 : T.forget.takes ns data = T.forget := by unfold Lk.takes; rw [if_pos hh]
      rw [hh] at f10
      have HA := lanswer_any B c5 w5 a sg rg _ _ _ HPx.out (by have := HOL.out.1; show T.out.length ≤ _; omega)
      rw [hq9] at HQx
      clear hq9
      go_wp2_with fail
      refine HA.mono ?_
      rintro e w6 ⟨⟨v, rfl⟩, h6⟩
      have hE := HQx.out _ h6
      clear h6 HA
      go_wp2
      go_end0
      exact ⟨⟨_, rfl⟩, hE⟩
    | false =>
      have hq9 : T.forget.takes ns data = (T.forget.taken ns data).askAll (T.forget.r.wants ns data) := by unfold Lk.takes; rw [if_neg (by rw [hh]; decide)]
      rw [hh] at f10
      rw [hq9] at HQx
      clear hq9
      have HTK := fun W : World => fun hb : Below w5.heap.size w5 W => rctake_any (fun k => c5 k = 3) (fun k => c5 k = 7) rg T.forget.r HOKx.out ns (.slice xo data.length xc) data W (HPx.out.rcv.below hb) (fun k hk => Nat.lt_of_lt_of_le ((HPx.out.cols.2 k (by rcases hk with hk | hk <;> omega)).2) hb.size) (HX5.out.1.below hb) HX5.out.2.1
      go_wp2_with fail
      go_region_held3 (fun w' => w'.cell? ⟨a, 12, none⟩ = some (.pointer (some ⟨rg, 0, none⟩)) ∧ w'.cell? ⟨w.heap.size, 1, none⟩ = some (.int .i64 ns) ∧ w'.cell? ⟨w.heap.size, 6, none⟩ = some (.slice xo data.length xc))
        (first | exact ⟨f12, p1, p6⟩ | exact held_take ⟨f12, p1, p6⟩ ((Fr.of_below (bl_drew (bl_refl w5))).trans hF6 (fun k hk => .inl hk)) (by have := HPx.out.own; omega) (by have := hcb5.out; omega))
        (first | (go_at_call 96; refine (HTK _ (bl_drew (bl_refl _))).mono ?_; rintro e w6 ⟨lv, av, rfl, hs6, hF6, hP6, hO6⟩))
      have hf6 : Fr (fun k => c5 k = 3) w5 w6 := (Fr.of_below (bl_drew (bl_refl w5))).trans hF6 (fun k hk => .inl hk)
      have h6 := HPx.out.came hf6 hs6
      have hP7 : Pays (fun k => paint c5 w5 w6 7 k = 7) w6 lv (T.forget.r.tells ns data) := hP6.mono fun k hk => by
        rcases hk with hk | hk
        · exact HPx.out.cols.keep hk (by omega)
        · exact paint_new hk.1 hk.2
      have HW6 : Hid (∀ t' w', LkTo B (paint c5 w5 w6 7) w6 a sg rg t' w' → LkTo B c5 w5 a sg rg t' w') := fun t' w' h => LkTo.then_ hf6.size (fun k hk _ => paint_old hk) (hf6.mono fun k hk => .inl (by omega)) h
      have HRA : Hid (Rd (fun k => paint c5 w5 w6 7 k = 7) (Value.int .i64) w6 av (T.forget.r.wants ns data)) := by
        have hwl := wants_le (r := T.forget.r) ns data
        exact (Rd.of_owns hO6 (by unfold maxLen; omega)).mono fun k hk => paint_new hk.1 hk.2
      obtain ⟨alo, alc, rfl⟩ : ∃ alo alc, av = .slice alo (T.forget.r.wants ns data).length alc := rc_form hO6
      generalize paint c5 w5 w6 7 = c6 at h6 hP7 HW6 HRA
      obtain ⟨ys, hl, hrl, hY⟩ := hP7
      have e14 := h6.c14
      have HP6 := Lib.hid h6
      have HR := Lib.hid hrl.1
      have HY := Lib.hid hY
      have HL := Lib.hid hl
      obtain ⟨lo, lc, hlv⟩ : ∃ lo lc, lv = .slice lo ys.length lc := by
        obtain ⟨⟨_, ao, cap, h, _⟩, _⟩ := hrl
        exact ⟨ao, cap, h⟩
      subst hlv
      obtain ⟨vs, v1, v2, v3, v4⟩ := h6.inn
      obtain ⟨io, ic, htv⟩ := rc_form v2
      have hz6 := h6.frozen 14
      have HMM : Hid (T.forget.inn.length + (T.forget.r.tells ns data).length ≤ 1000000) := by
        have := tells_le9 HOKx.out ns data
        have := HOL.out.2.2
        show T.inn.length + _ ≤ 1000000
        omega
      subst htv
      clear hs6 hF6 hP6 hO6 hf6 h6 hrl hY hl v1 v2 v3 v4 HTK
      go_wp2_with (at_builtin; refine wpList_rows _ rfl (.tmp 44) (.tmp 45) 29 rfl Tryz.underlying29 gi gz0 gz1 gz2 (d := 5) (by omega) (by omega) HP6.out.cols rfl HP6.out.inn rfl HR.out HL.out HY.out HMM.out ?_; intro l2 w7 hR7 hF7; have z7 := rc_frozen (j := 14) (hF7.get HP6.out.hb (fun e => by have := HP6.out.own; omega)); have g7 := hF7.cell e14 (fun e => by have := HP6.out.own; omega); have HR7 := Lib.hid hR7; obtain ⟨us, u1, u2, u3, u4⟩ := hR7; obtain ⟨lo2, lc2, hl2⟩ := rc_form u2; subst hl2; have HF7 := Lib.hid hF7; clear u1 u2 u3 u4 hF7 e14)
      have h8 := HP6.out.in_set HF7.out HR7.out
      have HF8 : Hid (Fr (fun k => c6 k = 1 ∨ c6 k = 5) w6 (w7.setCell ⟨a, 14, none⟩ (.slice lo2 us.length lc2))) := (HF7.out.mono fun k hk => .inl (.inr hk)).trans (fr_cell w7 a 14 _) (fun k hk => .inl (.inl (by subst hk; exact HP6.out.own)))
      have HW8 : Hid (∀ t' w', LkTo B (paint c6 w6 w7 5) (w7.setCell ⟨a, 14, none⟩ (.slice lo2 us.length lc2)) a sg rg t' w' → LkTo B c6 w6 a sg rg t' w') := fun t' w' h => LkTo.then_ HF8.out.size (fun k hk _ => paint_old hk) (HF8.out.mono fun k hk => .inl (by omega)) h
      have HC8 : Hid (∀ k, k < w6.heap.size → paint c6 w6 w7 5 k = c6 k) := fun k hk => paint_old hk
      obtain ⟨W8, hW8⟩ : ∃ W8, w7.setCell ⟨a, 14, none⟩ (.slice lo2 us.length lc2) = W8 := ⟨_, rfl⟩
      try simp only [hW8]
      rw [hW8] at h8 HF8 HW8
      generalize paint c6 w6 w7 5 = c8 at h8 HW8 HC8
      have HRA8 : Hid (Rd (fun k => c6 k = 7 ∧ c8 k = 7) (Value.int .i64) W8 (.slice alo (T.forget.r.wants ns data).length alc) (T.forget.r.wants ns data)) := by
        refine (HRA.out.fr HF8.out (fun k hk e => by omega)).mono fun k hk => ⟨hk, ?_⟩
        rw [HC8.out k (HP6.out.cols.2 k (by omega)).2]
        exact hk
      have H8 : Hid (LkTo B c8 W8 a sg rg ((T.forget.taken ns data).askAll ((T.forget.r.wants ns data).take 0)) W8) := h8.to
      have hwl := wants_le (r := T.forget.r) ns data
      clear h8 HR7 HP6 HR HY HL HRA HC8 HF8 HF7
      go_wp2_with fail
      go_loopw [51] (fun kv wr => ∃ k : Nat, kv = .int .i64 k ∧ k ≤ (T.forget.r.wants ns data).length ∧ Hid (LkTo B c8 W8 a sg rg ((T.forget.taken ns data).askAll ((T.forget.r.wants ns data).take k)) wr)) (fun kv _ => 200 - (intOf kv).toNat)
      case atStart => exact ⟨0, rfl, by omega, H8⟩
      case round =>
        clear H8
        obtain ⟨k, rfl, hk, HI⟩ := hrel
        obtain ⟨c9, o9, i9, hp9, hc9, HF9, H9⟩ := HI.out.openf
        have hol9 : (((T.forget.taken ns data).askAll ((T.forget.r.wants ns data).take k))).out.length ≤ 90000 := by
          rw [askAll_out, List.length_take]
          have := HOL.out.1
          show T.out.length + _ ≤ _
          omega
        by_cases hlt : k < (T.forget.r.wants ns data).length
        · obtain ⟨y, hy⟩ := get_some hlt
          obtain ⟨bb, oo, rfl, hcell⟩ : ∃ bb oo, alo = some ⟨bb, oo, none⟩ ∧ wr.cell? ⟨bb, oo + k, none⟩ = some (.int .i64 y) := by
            obtain ⟨⟨_, ao', ac', hv, _, hc⟩, hF⟩ := HRA8.out
            cases hv
            obtain ⟨b', o', ha, hcell⟩ := hc k y hy
            subst ha
            exact ⟨b', o', rfl, HF9.out.cell hcell (by have := hF b' rfl; omega)⟩
          have HSS := lsend_any B c9 wr a sg rg o9 i9 _ hp9 ⟨4, 0, y, false, 0, ((T.forget.taken ns data).askAll ((T.forget.r.wants ns data).take k)).peer, []⟩ _ (byt_nil _ _) (by omega)
          have g1 := hp9.c1
          have f0 : (0 : Int) ≤ (k : Int) := by omega
          have f1 : (k : Int) < ((T.forget.r.wants ns data).length : Int) := by omega
          have f2 : (k : Int) < 128 := by omega
          have hnx : ((T.forget.taken ns data).askAll ((T.forget.r.wants ns data).take k)).send ⟨4, 0, y, false, 0, ((T.forget.taken ns data).askAll ((T.forget.r.wants ns data).take k)).peer, []⟩ = (T.forget.taken ns data).askAll ((T.forget.r.wants ns data).take (k + 1)) := by
            rw [take_snoc' hy]
            unfold Lk.askAll
            rw [List.foldl_append]
            rfl
          rw [hnx] at HSS
          clear hp9 hc9 hy hnx HI
          go_wp2_with fail
          refine HSS.mono ?_
          rintro e w10 ⟨⟨v, rfl⟩, h10⟩
          have HN := Lib.hid (H9.out _ _ h10)
          clear h10 HSS
          go_wp2_with fail
          refine ⟨⟨k + 1, by go_num, by omega, HN⟩, ?_⟩
          simp [intOf]; omega
        · obtain rfl : k = (T.forget.r.wants ns data).length := by omega
          rw [List.take_length] at HI hp9 hol9
          have HA := lanswer_any B c9 wr a sg rg _ _ _ hp9 (by omega)
          clear hp9 hc9 HI
          go_wp2_with fail
          refine HA.mono ?_
          rintro e w11 ⟨⟨v, rfl⟩, h11⟩
          have hE := HQx.out _ (HW6.out _ _ (HW8.out _ _ (H9.out _ _ h11)))
          clear h11 HA
          go_wp2
          go_end0
          exact ⟨⟨_, rfl⟩, hE⟩

end Go.Proofs.YthmdibagcbbgoaaGreat

namespace Go.Proofs.YthmdibagcbbgoaaGreat
open Go.RowKit

def Lk.woke (t : Lk) : Lk := if t.up = true then t else t.heard
def Lk.fits (t : Lk) (c : Cn) : Lk := if c.kind = 1 then t.woke.comes c.ns c.nr c.p c.data else if c.kind = 4 then t.woke.again c.nr else t.woke.ready c.kind c.nr c.p
theorem woke_same (t : Lk) : t.woke.s = t.s ∧ t.woke.r = t.r ∧ t.woke.out = t.out ∧ t.woke.inn = t.inn := by
  unfold Lk.woke
  split <;> exact ⟨rfl, rfl, rfl, rfl⟩

set_option maxRecDepth 100000 in
set_option maxHeartbeats 4000000 in
theorem lfits_any (B : Nat) (col : Nat → Nat) (w : World) (a sg rg : Nat) (ov iv : Value) (t : Lk) (h : LkP B col w a sg rg ov iv t) (hok : t.s.Ok) (hokr : t.r.Ok) (c : Cn) (x : Value) (hx : Pl col w x c.data) (hm : t.out.length ≤ 80000) (hmi : t.inn.length ≤ 80000) :
    Calls Tryz.prog 60 #[.pointer (some ⟨a, 0, none⟩), .agg #[.int .i64 c.kind, .int .i64 c.ns, .int .i64 c.nr, .bool c.p, .int .i64 c.me, .int .i64 c.peer, x]] w fun e w' => (∃ v, e = .returned v) ∧ LkTo B col w a sg rg (t.fits c) w' := by
  obtain ⟨xo, xc, rfl⟩ : ∃ xo xc, x = .slice xo c.data.length xc := by
    obtain ⟨⟨_, ao, cap, h, _⟩, _⟩ := hx
    exact ⟨ao, cap, h⟩
  obtain ⟨kind, ns, nr, pp, cme, cpeer, data⟩ := c
  dsimp only at hx ⊢
  by_cases hk1 : kind = 1
  · subst hk1
    have hq : t.fits ⟨1, ns, nr, pp, cme, cpeer, data⟩ = t.woke.comes ns nr pp data := by unfold Lk.fits; rw [if_pos rfl]
    obtain ⟨w1, c1, hw1, h1, H1, hc0, hx1, d0, d1, d2, d3, d4, d5, d6⟩ := ctl_box h ⟨1, ns, nr, pp, cme, cpeer, data⟩ _ hx
    dsimp only at hw1 d0 d1 d2 d3 d4 d5 d6 hx1
    have e2 := h1.c2
    have HP1 := Lib.hid h1
    have HX1 := Lib.hid hx1
    clear h h1 hx hx1
    obtain ⟨s1, s2, s3, s4⟩ := woke_same t
    cases hup : t.up with
    | true =>
      have hwk : t.woke = t := by unfold Lk.woke; rw [if_pos hup]
      rw [hup] at e2
      have HPZ : Hid (LkP B c1 w1 a sg rg ov iv t.woke) := by rw [hwk]; exact HP1.out
      have HA := lcomes_any B c1 w1 a sg rg _ _ _ HPZ.out (by rw [s1]; exact hok) (by rw [s2]; exact hokr) ⟨1, ns, nr, pp, cme, cpeer, data⟩ _ HX1.out (by rw [s3]; exact hm) (by rw [s4]; exact hmi)
      dsimp only at HA
      rw [← hq] at HA
      clear hq hwk s1 s2 s3 s4
      go_enter Tryz.func60, Tryz.ntmps60
      go_wp2_with fail
      try simp only [hw1]
      go_wp2_with fail
      refine HA.mono ?_
      rintro e w5 ⟨⟨v, rfl⟩, h5⟩
      have h6 := H1.out _ _ h5
      clear h5 HA
      go_wp2
      go_end0
      exact ⟨⟨_, rfl⟩, h6⟩
    | false =>
      have hwk : t.woke = t.heard := by unfold Lk.woke; rw [if_neg (by rw [hup]; decide)]
      rw [hup] at e2
      have HD := lheard_any B c1 w1 a sg rg ov iv t HP1.out
      go_enter Tryz.func60, Tryz.ntmps60
      go_wp2_with fail
      try simp only [hw1]
      go_wp2_with fail
      refine HD.mono ?_
      rintro e w2 ⟨⟨v, rfl⟩, h2⟩
      rw [← hwk] at h2
      obtain ⟨c2, o2, i2, hp2, hc2, HF2, H2⟩ := h2.openf
      have k0 := HF2.out.cell d0 (by omega)
      have k1 := HF2.out.cell d1 (by omega)
      have k2 := HF2.out.cell d2 (by omega)
      have k3 := HF2.out.cell d3 (by omega)
      have k4 := HF2.out.cell d4 (by omega)
      have k5 := HF2.out.cell d5 (by omega)
      have k6 := HF2.out.cell d6 (by omega)
      have HX2 : Hid (Pl c2 w2 _ _) := HX1.out.fr HF2.out (fun k hk hn => ⟨hn, by have := hc2 k hk; omega⟩)
      have HPZ := Lib.hid hp2
      have HA := lcomes_any B c2 w2 a sg rg _ _ _ HPZ.out (by rw [s1]; exact hok) (by rw [s2]; exact hokr) ⟨1, ns, nr, pp, cme, cpeer, data⟩ _ HX2.out (by rw [s3]; exact hm) (by rw [s4]; exact hmi)
      dsimp only at HA
      rw [← hq] at HA
      clear hq hwk s1 s2 s3 s4 h2 hp2 hc2 HD d0 d1 d2 d3 d4 d5 d6 e2
      go_wp2_with fail
      refine HA.mono ?_
      rintro e w5 ⟨⟨v, rfl⟩, h5⟩
      have h6 := H1.out _ _ (H2.out _ _ h5)
      clear h5 HA
      go_wp2
      go_end0
      exact ⟨⟨_, rfl⟩, h6⟩
  · by_cases hk4 : kind = 4
    · subst hk4
      have hq : t.fits ⟨4, ns, nr, pp, cme, cpeer, data⟩ = t.woke.again nr := by unfold Lk.fits; rw [if_neg (by show ¬ (4 : Int) = 1; decide), if_pos rfl]
      obtain ⟨w1, c1, hw1, h1, H1, hc0, hx1, d0, d1, d2, d3, d4, d5, d6⟩ := ctl_box h ⟨4, ns, nr, pp, cme, cpeer, data⟩ _ hx
      dsimp only at hw1 d0 d1 d2 d3 d4 d5 d6 hx1
      have e2 := h1.c2
      have HP1 := Lib.hid h1
      have HX1 := Lib.hid hx1
      clear h h1 hx hx1
      obtain ⟨s1, s2, s3, s4⟩ := woke_same t
      cases hup : t.up with
      | true =>
        have hwk : t.woke = t := by unfold Lk.woke; rw [if_pos hup]
        rw [hup] at e2
        have HPZ : Hid (LkP B c1 w1 a sg rg ov iv t.woke) := by rw [hwk]; exact HP1.out
        have HA := lagain_any B c1 w1 a sg rg _ _ _ HPZ.out (by rw [s1]; exact hok) ⟨4, ns, nr, pp, cme, cpeer, data⟩ _ HX1.out (by rw [s3]; omega)
        dsimp only at HA
        rw [← hq] at HA
        clear hq hwk s1 s2 s3 s4
        go_enter Tryz.func60, Tryz.ntmps60
        go_wp2_with fail
        try simp only [hw1]
        go_wp2_with fail
        refine HA.mono ?_
        rintro e w5 ⟨⟨v, rfl⟩, h5⟩
        have h6 := H1.out _ _ h5
        clear h5 HA
        go_wp2
        go_end0
        exact ⟨⟨_, rfl⟩, h6⟩
      | false =>
        have hwk : t.woke = t.heard := by unfold Lk.woke; rw [if_neg (by rw [hup]; decide)]
        rw [hup] at e2
        have HD := lheard_any B c1 w1 a sg rg ov iv t HP1.out
        go_enter Tryz.func60, Tryz.ntmps60
        go_wp2_with fail
        try simp only [hw1]
        go_wp2_with fail
        refine HD.mono ?_
        rintro e w2 ⟨⟨v, rfl⟩, h2⟩
        rw [← hwk] at h2
        obtain ⟨c2, o2, i2, hp2, hc2, HF2, H2⟩ := h2.openf
        have k0 := HF2.out.cell d0 (by omega)
        have k1 := HF2.out.cell d1 (by omega)
        have k2 := HF2.out.cell d2 (by omega)
        have k3 := HF2.out.cell d3 (by omega)
        have k4 := HF2.out.cell d4 (by omega)
        have k5 := HF2.out.cell d5 (by omega)
        have k6 := HF2.out.cell d6 (by omega)
        have HX2 : Hid (Pl c2 w2 _ _) := HX1.out.fr HF2.out (fun k hk hn => ⟨hn, by have := hc2 k hk; omega⟩)
        have HPZ := Lib.hid hp2
        have HA := lagain_any B c2 w2 a sg rg _ _ _ HPZ.out (by rw [s1]; exact hok) ⟨4, ns, nr, pp, cme, cpeer, data⟩ _ HX2.out (by rw [s3]; omega)
        dsimp only at HA
        rw [← hq] at HA
        clear hq hwk s1 s2 s3 s4 h2 hp2 hc2 HD d0 d1 d2 d3 d4 d5 d6 e2
        go_wp2_with fail
        refine HA.mono ?_
        rintro e w5 ⟨⟨v, rfl⟩, h5⟩
        have h6 := H1.out _ _ (H2.out _ _ h5)
        clear h5 HA
        go_wp2
        go_end0
        exact ⟨⟨_, rfl⟩, h6⟩
    · have hq : t.fits ⟨kind, ns, nr, pp, cme, cpeer, data⟩ = t.woke.ready kind nr pp := by unfold Lk.fits; rw [if_neg hk1, if_neg hk4]
      obtain ⟨w1, c1, hw1, h1, H1, hc0, hx1, d0, d1, d2, d3, d4, d5, d6⟩ := ctl_box h ⟨kind, ns, nr, pp, cme, cpeer, data⟩ _ hx
      dsimp only at hw1 d0 d1 d2 d3 d4 d5 d6 hx1
      have e2 := h1.c2
      have HP1 := Lib.hid h1
      have HX1 := Lib.hid hx1
      clear h h1 hx hx1
      obtain ⟨s1, s2, s3, s4⟩ := woke_same t
      cases hup : t.up with
      | true =>
        have hwk : t.woke = t := by unfold Lk.woke; rw [if_pos hup]
        rw [hup] at e2
        have HPZ : Hid (LkP B c1 w1 a sg rg ov iv t.woke) := by rw [hwk]; exact HP1.out
        have HA := lready_any B c1 w1 a sg rg _ _ _ HPZ.out (by rw [s1]; exact hok) ⟨kind, ns, nr, pp, cme, cpeer, data⟩ _ HX1.out (by rw [s3]; exact hm)
        dsimp only at HA
        rw [← hq] at HA
        clear hq hwk s1 s2 s3 s4
        go_enter Tryz.func60, Tryz.ntmps60
        go_wp2_with fail
        try simp only [hw1]
        go_wp2_with fail
        refine HA.mono ?_
        rintro e w5 ⟨⟨v, rfl⟩, h5⟩
        have h6 := H1.out _ _ h5
        clear h5 HA
        go_wp2
        go_end0
        exact ⟨⟨_, rfl⟩, h6⟩
      | false =>
        have hwk : t.woke = t.heard := by unfold Lk.woke; rw [if_neg (by rw [hup]; decide)]
        rw [hup] at e2
        have HD := lheard_any B c1 w1 a sg rg ov iv t HP1.out
        go_enter Tryz.func60, Tryz.ntmps60
        go_wp2_with fail
        try simp only [hw1]
        go_wp2_with fail
        refine HD.mono ?_
        rintro e w2 ⟨⟨v, rfl⟩, h2⟩
        rw [← hwk] at h2
        obtain ⟨c2, o2, i2, hp2, hc2, HF2, H2⟩ := h2.openf
        have k0 := HF2.out.cell d0 (by omega)
        have k1 := HF2.out.cell d1 (by omega)
        have k2 := HF2.out.cell d2 (by omega)
        have k3 := HF2.out.cell d3 (by omega)
        have k4 := HF2.out.cell d4 (by omega)
        have k5 := HF2.out.cell d5 (by omega)
        have k6 := HF2.out.cell d6 (by omega)
        have HX2 : Hid (Pl c2 w2 _ _) := HX1.out.fr HF2.out (fun k hk hn => ⟨hn, by have := hc2 k hk; omega⟩)
        have HPZ := Lib.hid hp2
        have HA := lready_any B c2 w2 a sg rg _ _ _ HPZ.out (by rw [s1]; exact hok) ⟨kind, ns, nr, pp, cme, cpeer, data⟩ _ HX2.out (by rw [s3]; exact hm)
        dsimp only at HA
        rw [← hq] at HA
        clear hq hwk s1 s2 s3 s4 h2 hp2 hc2 HD d0 d1 d2 d3 d4 d5 d6 e2
        go_wp2_with fail
        refine HA.mono ?_
        rintro e w5 ⟨⟨v, rfl⟩, h5⟩
        have h6 := H1.out _ _ (H2.out _ _ h5)
        clear h5 HA
        go_wp2
        go_end0
        exact ⟨⟨_, rfl⟩, h6⟩

end Go.Proofs.YthmdibagcbbgoaaGreat
