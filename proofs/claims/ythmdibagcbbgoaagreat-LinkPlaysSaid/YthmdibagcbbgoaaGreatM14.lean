/- (*link.Link).goes: payloads go out. (*link.Link).ack, Push. (*link.Link).again, dm, ua, sabme. Conditions: as they stand. -/
import Derived.Test.YthmdibagcbbgoaaGreatM13
import Derived.BigQuiet
namespace Go.Proofs.YthmdibagcbbgoaaGreat
open Go.RowKit

/-- One payload goes out. -/
def Lk.goOne (t : Lk) : Lk := { (({ t with s := t.s.send } : Lk).dat t.s.sendN t.s.sendP false) with left := if t.left = 0 then t.timer else t.left }
def goesN : Nat → Lk → Lk
  | 0, t => t
  | n + 1, t => if t.up = true ∧ t.busy = false ∧ t.s.can = true then goesN n t.goOne else t
def Lk.goes (t : Lk) : Lk := goesN 64 t
theorem snd_send_ok {s : Snd} (h : s.Ok) : s.send.Ok := by
  unfold Snd.send
  split
  · rename_i hc
    simp only [Snd.can, Bool.and_eq_true, decide_eq_true_eq] at hc
    exact ⟨h.size1, h.size2, h.base, by simp only; omega, by simp only; omega, h.len, h.pay⟩
  · exact h

/-- The end while payloads go out. -/
structure Going (B : Nat) (col : Nat → Nat) (w : World) (a sg rg : Nat) (t : Lk) (j : Nat) (wr : World) : Prop where
  ex : ∃ tj : Lk, LkTo B col w a sg rg tj wr ∧ tj.s.Ok ∧ t.goes = goesN (64 - j) tj ∧ j ≤ tj.s.under ∧ tj.out.length = t.out.length + j

/-- How many payloads are under way, as memory has it. -/
def under8 (w : World) (a : Nat) : Nat := match w.heap[a]? with
  | some (.cells cs _ _) => match cs[3]? with
    | some (Value.int _ n) => n.toNat
    | _ => 0
  | _ => 0
theorem under8_eq {F : Nat → Prop} {w : World} {a : Nat} {s : Snd} (h : SndAt F w a s) : under8 w a = s.under := by
  obtain ⟨_, _, av, vs, D, hb, _⟩ := h
  unfold under8
  rw [hb]
  simp

theorem snd_send_no {s : Snd} (h : s.can = false) : s.send = s := by unfold Snd.send; rw [if_neg (by rw [h]; decide)]
theorem rd_lt9 {α : Type} {f : α → Value} {w : World} {v : Value} {xs : List α} (h : Reads f w v xs) (hne : xs ≠ []) : ∀ k, v.ownBlock = some k → k < w.heap.size := by
  intro k hk
  obtain ⟨_, ao, cap, rfl, _, hc⟩ := h
  obtain ⟨x, hx⟩ := get_some (xs := xs) (k := 0) (List.length_pos_iff.2 hne)
  obtain ⟨b, o, rfl, hcell⟩ := hc 0 x hx
  have := cell_lt hcell
  simp [Value.ownBlock] at hk
  omega
theorem sendP_ne9 {s : Snd} (hok : s.Ok) (hc : s.can = true) : s.sendP ≠ [] := by
  unfold Snd.sendP
  rw [if_pos hc]
  simp only [Snd.can, Bool.and_eq_true, decide_eq_true_eq] at hc
  rw [List.getD_eq_getElem?_getD, List.getElem?_eq_getElem hc.1, Option.getD_some]
  intro e
  have := (hok.pay _ (List.getElem_mem hc.1)).1
  rw [e] at this
  simp at this

set_option maxRecDepth 100000 in
set_option maxHeartbeats 2000000 in
theorem lgoes_any (B : Nat) (col : Nat → Nat) (w : World) (a sg rg : Nat) (ov iv : Value) (t : Lk) (h : LkP B col w a sg rg ov iv t) (hok : t.s.Ok) (hm : t.out.length ≤ 90000) :
    Calls Tryz.prog 42 #[.pointer (some ⟨a, 0, none⟩)] w fun e w' => (∃ v, e = .returned v) ∧ LkTo B col w a sg rg t.goes w' := by
  have H0 : Hid (Going B col w a sg rg t 0 w) := ⟨⟨t, h.to, hok, rfl, Nat.zero_le _, rfl⟩⟩
  clear h
  go_enter Tryz.func42, Tryz.ntmps42
  go_wp2_with fail
  go_step3
  go_wp2_with fail
  go_step3
  go_wp2_with fail
  go_loopw [2] (fun _ wr => ∃ j : Nat, Hid (Going B col w a sg rg t j wr)) (fun _ wr => 64 - under8 wr sg)
  case atStart => exact ⟨0, H0⟩
  case round =>
    clear H0
    obtain ⟨j, HJ⟩ := hrel
    obtain ⟨tj, h1, hokj, hg, hju, hol⟩ := HJ.out.ex
    obtain ⟨c1, o1, i1, hp, hc1, H1⟩ := h1.open_
    have e2 := hp.c2
    have e9 := hp.c9
    have e11 := hp.c11
    have hun := under8_eq hp.snd
    have HSd := ssend_any _ sg tj.s hokj wr hp.snd
    have HP := Lib.hid hp
    have hj64 : j ≤ 63 := by have := hokj.under2; have := hokj.size2; omega
    obtain ⟨q, hq⟩ : ∃ q, 64 - j = q + 1 := ⟨63 - j, by omega⟩
    rw [hq] at hg
    have HG := Lib.hid hg
    have HO := Lib.hid hol
    clear hp hg hol h1
    by_cases hgo : tj.up = true ∧ tj.busy = false
    · obtain ⟨hup, hbz⟩ := hgo
      rw [hup] at e2
      rw [hbz] at e9
      go_wp2_with fail
      refine HSd.mono ?_
      rintro e w2 ⟨u, rfl, hu2, hs2, hf2⟩
      obtain ⟨uo, uc, rfl⟩ : ∃ uo uc, u = .slice uo tj.s.sendP.length uc := by
        obtain ⟨⟨⟨_, ao, cap, h, _⟩, _⟩, _⟩ := hu2
        exact ⟨ao, cap, h⟩
      cases hcan : tj.s.can with
      | false =>
        have hend : t.goes = tj := by rw [HG.out]; unfold goesN; rw [if_neg (by rw [hcan]; simp)]
        have h2 := HP.out.sentTo hf2 hs2 (fun k hk => .inl hk)
        rw [snd_send_no hcan] at h2
        have hE := H1.out _ _ h2
        rw [← hend] at hE
        clear hf2 hs2 hu2 HSd h2
        go_wp2
        try rw [Exit.noGoto_normal]
        go_end0
        exact ⟨⟨_, rfl⟩, hE⟩
      | true =>
        have hsg : c1 sg = 2 := HP.out.snd.2.1
        have hf2' : Fr (fun k => c1 k = 2) wr w2 := hf2.mono fun k hk => .inl (by subst hk; exact hsg)
        have h2 := HP.out.sent (n := 7) hf2' hs2 (fun k hk => .inl hk)
        have hx2 : Byt (fun k => paint c1 wr w2 7 k = 7) w2 (.slice uo tj.s.sendP.length uc) tj.s.sendP := ⟨⟨hu2.1.1, fun k hk => paint_new (hu2.1.2 k hk) (rd_lt9 hu2.1.1 (sendP_ne9 hokj hcan) k hk)⟩, hu2.2⟩
        have HD := ldata_any B _ w2 a sg rg _ _ _ h2 tj.s.sendN tj.s.sendP false _ hx2 (by have := HO.out; show tj.out.length ≤ _; omega)
        have H2 : Hid (∀ t' w', LkTo B (paint c1 wr w2 7) w2 a sg rg t' w' → LkTo B c1 wr a sg rg t' w') := fun t' w' h => LkTo.then_ hf2'.size (fun k hk _ => paint_old hk) (hf2'.mono fun k hk => .inl (by omega)) h
        clear hf2 hs2 hu2 HSd h2 hx2 hf2'
        go_wp2_with fail
        refine HD.mono ?_
        rintro e w3 ⟨⟨v, rfl⟩, h3⟩
        obtain ⟨c3, o3, i3, hp3, _, H3⟩ := h3.open_
        have e6 := hp3.c6
        have e4 := hp3.c4
        have z6 := hp3.frozen 6
        have HP3 := Lib.hid hp3
        have hun3 := under8_eq hp3.snd
        clear hp3 h3 HD
        have hstep : t.goes = goesN q tj.goOne := by rw [HG.out]; conv => lhs; unfold goesN
                                                     rw [if_pos ⟨hup, hbz, hcan⟩]
        have HN : Hid (∀ W : World, LkTo B c3 w3 a sg rg tj.goOne W → Going B col w a sg rg t (j + 1) W ∧ 64 - under8 W sg < 64 - under8 wr sg) := by
          intro W hW
          have hall := H1.out _ _ (H2.out _ _ (H3.out _ _ hW))
          have hun9 : under8 W sg = tj.s.under + 1 := by
            obtain ⟨⟨_, _, _, hq9, _⟩, _⟩ := hall
            rw [under8_eq hq9.snd]
            show tj.s.send.under = _
            unfold Snd.send
            rw [if_pos hcan]
          refine ⟨⟨tj.goOne, hall, snd_send_ok hokj, ?_, ?_, ?_⟩, ?_⟩
          · rw [hstep, show 64 - (j + 1) = q by omega]
          · show j + 1 ≤ tj.s.send.under
            unfold Snd.send
            rw [if_pos hcan]
            show j + 1 ≤ tj.s.under + 1
            omega
          · show (tj.out ++ [_]).length = _
            rw [List.length_append, HO.out]
            simp
            omega
          · have := hokj.under2
            have := hokj.size2
            omega
        clear hstep hun
        by_cases hl : tj.left = 0
        · have e6' : w3.cell? ⟨a, 6, none⟩ = some (.int .i64 (tj.left : Int)) := e6
          have e4' : w3.cell? ⟨a, 4, none⟩ = some (.int .i64 (tj.timer : Int)) := e4
          rw [hl] at e6'
          have hg1 : tj.goOne = { (({ tj with s := tj.s.send } : Lk).dat tj.s.sendN tj.s.sendP false) with left := tj.timer } := by unfold Lk.goOne; rw [if_pos hl]
          have hW := HP3.out.putTo (t' := tj.goOne) 6 (.int .i64 (tj.timer : Int)) (by rw [hg1]; rfl) rfl rfl rfl rfl
          obtain ⟨hN1, hN2⟩ := HN.out _ hW
          have HN1 := Lib.hid hN1
          have HN2 := Lib.hid hN2
          clear hW hN1 hN2 HN e4 e6 hg1
          go_wp2
          go_roundw
          case rel => exact ⟨j + 1, HN1⟩
          case measure => exact HN2.out
        · have e6' : w3.cell? ⟨a, 6, none⟩ = some (.int .i64 (tj.left : Int)) := e6
          have hg1 : tj.goOne = (({ tj with s := tj.s.send } : Lk).dat tj.s.sendN tj.s.sendP false) := by unfold Lk.goOne; rw [if_neg hl]; rfl
          have hW : LkTo B c3 w3 a sg rg tj.goOne w3 := by rw [hg1]; exact HP3.out.to
          obtain ⟨hN1, hN2⟩ := HN.out _ hW
          have HN1 := Lib.hid hN1
          have HN2 := Lib.hid hN2
          clear hW hN1 hN2 HN e4 e6 hg1
          go_wp2
          go_roundw
          case rel => exact ⟨j + 1, HN1⟩
          case measure => exact HN2.out
    · have hend : t.goes = tj := by
        rw [HG.out]
        unfold goesN
        rw [if_neg (fun h => hgo ⟨h.1, h.2.1⟩)]
      have hE : Hid (LkTo B col w a sg rg t.goes wr) := by rw [hend]; exact H1.out _ _ HP.out.to
      cases hup : tj.up with
      | false =>
        rw [hup] at e2
        go_wp2
        try rw [Exit.noGoto_normal]
        go_end0
        exact ⟨⟨_, rfl⟩, hE.out⟩
      | true =>
        have hbz : tj.busy = true := by
          cases hb : tj.busy with
          | true => rfl
          | false => exact absurd ⟨hup, hb⟩ hgo
        rw [hup] at e2
        rw [hbz] at e9
        go_wp2
        try rw [Exit.noGoto_normal]
        go_end0
        exact ⟨⟨_, rfl⟩, hE.out⟩

end Go.Proofs.YthmdibagcbbgoaaGreat

namespace Go.Proofs.YthmdibagcbbgoaaGreat
open Go.RowKit

def Lk.ack (t : Lk) (nr : Int) : Lk := if t.s.ackE nr = 0 ∧ t.s.ackN nr ≠ 0 then { t with s := t.s.ack nr, tried := 0, left := if 0 < (t.s.ack nr).under then t.timer else 0 } else { t with s := t.s.ack nr }
def Lk.pushE (t : Lk) (p : List Int) : Int := if t.up = true then t.s.pushE p else 7
def Lk.push (t : Lk) (p : List Int) : Lk := if t.up = true ∧ t.s.pushE p = 0 then ({ t with s := t.s.push p } : Lk).goes else t
theorem under_len (s : Snd) : s.unders.length = s.under := by simp [Snd.unders, vals, win_length]
theorem LkP.sentTo2 {B : Nat} {col : Nat → Nat} {w w' : World} {a sg rg : Nat} {ov iv : Value} {t : Lk} (h : LkP B col w a sg rg ov iv t) (hf : Fr (fun k => col k = 2) w w') {s' : Snd} (hs : SndAt (fun k => col k = 2) w' sg s') : LkTo B col w a sg rg { t with s := s' } w' :=
  ⟨⟨_, _, _, h.sent (n := 0) hf hs (fun k hk => .inl hk), fun k hk _ => paint_old hk⟩, hf.mono fun k hk => .inl (by omega)⟩

set_option maxRecDepth 100000 in
set_option maxHeartbeats 2000000 in
theorem lack_any (B : Nat) (col : Nat → Nat) (w : World) (a sg rg : Nat) (ov iv : Value) (t : Lk) (h : LkP B col w a sg rg ov iv t) (hok : t.s.Ok) (nr : Int) :
    Calls Tryz.prog 94 #[.pointer (some ⟨a, 0, none⟩), .int .i64 nr] w fun e w' => (∃ v, e = .returned v) ∧ LkTo B col w a sg rg (t.ack nr) w' := by
  have HS := sack_any _ sg t.s hok nr w h.snd
  have e11 := h.c11
  have HP := Lib.hid h
  have hok2 := Snd.ack_ok hok nr
  clear h
  by_cases hE : t.s.ackE nr = 0
  · rw [hE] at HS
    by_cases hN : t.s.ackN nr = 0
    · have hq : t.ack nr = { t with s := t.s.ack nr } := by unfold Lk.ack; rw [if_neg (by omega)]
      rw [hN] at HS
      go_enter Tryz.func94, Tryz.ntmps94
      go_wp2_with fail
      refine HS.mono ?_
      rintro e w1 ⟨rfl, hs1, hf1⟩
      have h1 := HP.out.sentTo2 hf1 hs1
      rw [← hq] at h1
      clear hs1 hf1 HS hq
      go_wp2
      refine bodyPost_ret (results_none rfl _ _ _) rfl ?_
      exact ⟨⟨_, rfl⟩, h1⟩
    · have hq : t.ack nr = { t with s := t.s.ack nr, tried := 0, left := if 0 < (t.s.ack nr).under then t.timer else 0 } := by unfold Lk.ack; rw [if_pos ⟨hE, hN⟩]
      have hN' : (t.s.ackN nr = 0) = False := by simp; exact hN
      go_enter Tryz.func94, Tryz.ntmps94
      go_wp2_with fail
      refine HS.mono ?_
      rintro e w1 ⟨rfl, hs1, hf1⟩
      have h1 := HP.out.sentTo2 hf1 hs1
      obtain ⟨c1, o1, i1, hp, _, H1⟩ := h1.open_
      have h2 : LkTo B c1 w1 a sg rg { t with s := t.s.ack nr, tried := 0, left := 0 } ((w1.setCell ⟨a, 7, none⟩ (.int .i64 0)).setCell ⟨a, 6, none⟩ (.int .i64 0)) := by
        refine (hp.putTo (t' := { t with s := t.s.ack nr, tried := 0 }) 7 (.int .i64 0) rfl rfl rfl rfl rfl).bind fun c o i h => ?_
        exact h.putTo 6 (.int .i64 0) rfl rfl rfl rfl rfl
      obtain ⟨c2, o2, i2, hp2, _, H2⟩ := h2.open_
      have e6 := hp.c6
      have e7 := hp.c7
      have z6 := hp.frozen 6
      have z7 := hp.frozen 7
      have g11 := hp2.c11
      have HU := sunder_any _ sg (t.s.ack nr) hok2 _ hp2.snd
      have HP2 := Lib.hid hp2
      clear hs1 hf1 HS h1 h2 hp hp2 e11
      go_wp2_with fail
      refine HU.mono ?_
      rintro e w3 ⟨u, rfl, hu3, hb3⟩
      obtain ⟨uo, uc, rfl⟩ : ∃ uo uc, u = .slice uo (t.s.ack nr).under uc := by
        obtain ⟨⟨_, ao, cap, h, _⟩, _⟩ := hu3
        exact ⟨ao, cap, by rw [h, under_len]⟩
      have h3 := HP2.out.skipTo hb3
      obtain ⟨c3, o3, i3, hp3, _, H3⟩ := h3.open_
      have e4 : w3.cell? ⟨a, 4, none⟩ = some (.int .i64 t.timer) := hp3.c4
      have k6 := hp3.c6
      have y6 := hp3.frozen 6
      have HP3 := Lib.hid hp3
      clear hu3 hb3 h3 hp3 HU
      by_cases hu : 0 < (t.s.ack nr).under
      · have hW := HP3.out.putTo (t' := t.ack nr) 6 (.int .i64 t.timer) (by rw [hq, if_pos hu]; rfl) (by rw [hq]) (by rw [hq]) (by rw [hq]) (by rw [hq])
        have hE9 := H1.out _ _ (H2.out _ _ (H3.out _ _ hW))
        have hu' : (0 : Int) < ((t.s.ack nr).under : Int) := by omega
        clear hW hq
        go_wp2
        go_end0
        exact ⟨⟨_, rfl⟩, hE9⟩
      · have hE9 := H1.out _ _ (H2.out _ _ (H3.out _ _ HP3.out.to))
        have hu' : (t.s.ack nr).under = 0 := by omega
        have hq2 : t.ack nr = { t with s := t.s.ack nr, tried := 0, left := 0 } := by rw [hq, if_neg hu]
        rw [← hq2] at hE9
        clear hq hq2
        simp only [hu']
        go_wp2
        go_end0
        exact ⟨⟨_, rfl⟩, hE9⟩
  · have hq : t.ack nr = { t with s := t.s.ack nr } := by unfold Lk.ack; rw [if_neg (by omega)]
    go_enter Tryz.func94, Tryz.ntmps94
    go_wp2_with fail
    refine HS.mono ?_
    rintro e w1 ⟨rfl, hs1, hf1⟩
    have h1 := HP.out.sentTo2 hf1 hs1
    rw [← hq] at h1
    clear hs1 hf1 HS hq
    go_wp2
    refine bodyPost_ret (results_none rfl _ _ _) rfl ?_
    exact ⟨⟨_, rfl⟩, h1⟩

set_option maxRecDepth 100000 in
set_option maxHeartbeats 2000000 in
theorem lpush_any (B : Nat) (col : Nat → Nat) (w : World) (a sg rg : Nat) (ov iv : Value) (t : Lk) (h : LkP B col w a sg rg ov iv t) (hok : t.s.Ok) (hm : t.out.length ≤ 90000) (x : Value) (p : List Int) (hr : Reads (Value.int .u8) w x p) (hw : ∀ n ∈ p, (Lit.int .u8 n).wf = true) :
    Calls Tryz.prog 27 #[.pointer (some ⟨a, 0, none⟩), x] w fun e w' => e = .returned (.int .i64 (t.pushE p)) ∧ LkTo B col w a sg rg (t.push p) w' := by
  have e2 := h.c2
  have e11 := h.c11
  have HS := spush_any _ sg t.s x p w h.snd hr hw
  have HP := Lib.hid h
  clear h hr hw
  by_cases hup : t.up = true
  · rw [hup] at e2
    have hpe : t.pushE p = t.s.pushE p := by unfold Lk.pushE; rw [if_pos hup]
    rw [hpe]
    by_cases hE : t.s.pushE p = 0
    · rw [hE] at HS
      rw [hE]
      have hq : t.push p = ({ t with s := t.s.push p } : Lk).goes := by unfold Lk.push; rw [if_pos ⟨hup, hE⟩]
      go_enter Tryz.func27, Tryz.ntmps27
      go_wp2_with fail
      refine HS.mono ?_
      rintro e w1 ⟨rfl, hs1, hf1⟩
      obtain ⟨c1, o1, i1, hp, _, H1⟩ := (HP.out.sentTo hf1 hs1 (fun k hk => hk)).open_
      have HG := lgoes_any B c1 w1 a sg rg o1 i1 _ hp (Snd.push_ok hok p) hm
      clear hs1 hf1 hp HS
      go_wp2_with fail
      refine HG.mono ?_
      rintro e w2 ⟨⟨v, rfl⟩, h2⟩
      have h3 := H1.out _ _ h2
      rw [← hq] at h3
      clear hq h2 HG
      go_wp2
      go_ret
      exact ⟨rfl, h3⟩
    · have hq : t.push p = t := by unfold Lk.push; rw [if_neg (fun h => hE h.2)]
      have hs0 : t.s.push p = t.s := by unfold Snd.push; rw [if_neg hE]
      go_enter Tryz.func27, Tryz.ntmps27
      go_wp2_with fail
      refine HS.mono ?_
      rintro e w1 ⟨rfl, hs1, hf1⟩
      have h1 := HP.out.sentTo hf1 hs1 (fun k hk => hk)
      rw [hs0] at h1
      have h3 : LkTo B col w a sg rg (t.push p) w1 := by rw [hq]; exact h1
      clear hs1 hf1 HS hq h1
      go_wp2
      go_ret
      exact ⟨rfl, h3⟩
  · have hup' : t.up = false := by simpa using hup
    rw [hup'] at e2
    have hpe : t.pushE p = 7 := by unfold Lk.pushE; rw [if_neg hup]
    have hq : t.push p = t := by unfold Lk.push; rw [if_neg (fun h => hup h.1)]
    have h3 := HP.out.to
    rw [← hq] at h3
    rw [hpe]
    clear hq HS
    go_enter Tryz.func27, Tryz.ntmps27
    go_wp2
    go_ret
    exact ⟨rfl, h3⟩

end Go.Proofs.YthmdibagcbbgoaaGreat

namespace Go.Proofs.YthmdibagcbbgoaaGreat
open Go.RowKit

def Lk.again (t : Lk) (nr : Int) : Lk := if t.s.againE nr = 0 then t.dat nr (t.s.againP nr) false else t
def Lk.ua (t : Lk) (peer me : Int) : Lk := if peer = t.me ∧ t.up = false then (if me = t.peer then t else ({ t with peer := me } : Lk).reset).heard else t
def Lk.dm (t : Lk) (peer me : Int) : Lk := if t.up = true ∧ peer = t.me ∧ me ≠ t.peer then t.anew else t
def Lk.sabmed (t : Lk) (me : Int) : Lk := if me = t.peer then t else { ({ t with peer := me } : Lk).reset with left := if t.up = true then 0 else t.left }
def Lk.sabme (t : Lk) (me : Int) (p : Bool) : Lk := (t.sabmed me).send ⟨6, 0, 0, p, 0, (t.sabmed me).peer, []⟩

theorem skip_lift {B : Nat} {w W : World} {a sg rg : Nat} (c : Nat → Nat) (hb : Below w.heap.size w W) : Hid (∀ t' w', LkTo B (paint c w W 0) W a sg rg t' w' → LkTo B c w a sg rg t' w') := fun _ _ h => LkTo.then_ hb.size (fun _ hk _ => paint_old hk) (.of_below hb) h
/-- Bytes that read, in blocks that the end does not turn. -/
def Pl (col : Nat → Nat) (w : World) (x : Value) (p : List Int) : Prop := Reads (Value.int .u8) w x p ∧ (∀ n ∈ p, (Lit.int .u8 n).wf = true) ∧ (p ≠ [] → ∀ k, x.ownBlock = some k → k < w.heap.size ∧ ¬ (1 ≤ col k ∧ col k ≤ 5))
theorem Pl.fr {col c' : Nat → Nat} {w w' : World} {x : Value} {p : List Int} {G : Nat → Prop} (h : Pl col w x p) (hf : Fr G w w') (hG : ∀ k, k < w.heap.size → ¬ (1 ≤ col k ∧ col k ≤ 5) → ¬ G k ∧ ¬ (1 ≤ c' k ∧ c' k ≤ 5)) : Pl c' w' x p := by
  obtain ⟨hr, hw, hl⟩ := h
  cases p with
  | nil =>
    obtain ⟨hm, ao, cap, hv, hlc, hc⟩ := hr
    exact ⟨⟨hm, ao, cap, hv, hlc, fun i y hy => by simp at hy⟩, hw, fun h => absurd rfl h⟩
  | cons y r =>
    have h' : Rd (fun k => k < w.heap.size ∧ ¬ (1 ≤ col k ∧ col k ≤ 5)) (Value.int .u8) w x (y :: r) := ⟨hr, fun k hk => hl (by simp) k hk⟩
    refine ⟨(h'.fr hf (fun k hk => (hG k hk.1 hk.2).1)).1, hw, fun _ k hk => ?_⟩
    have := hl (by simp) k hk
    exact ⟨Nat.lt_of_lt_of_le this.1 hf.size, (hG k this.1 this.2).2⟩
theorem Pl.of_byt {col : Nat → Nat} {w : World} {x : Value} {p : List Int} (h : Byt (fun k => col k = 7) w x p) : Pl col w x p :=
  ⟨h.1.1, h.2, fun hne k hk => ⟨rd_lt9 h.1.1 hne k hk, by have := h.1.2 k hk; omega⟩⟩
/-- The control that came lies in a box. -/
theorem ctl_box {B : Nat} {col : Nat → Nat} {w : World} {a sg rg : Nat} {ov iv : Value} {t : Lk} (h : LkP B col w a sg rg ov iv t) (c : Cn) (x : Value) (hx : Pl col w x c.data) :
    ∃ w1 c1, w.alloc (.cells #[.int .i64 c.kind, .int .i64 c.ns, .int .i64 c.nr, .bool c.p, .int .i64 c.me, .int .i64 c.peer, x] 46) = w1 ∧ LkP B c1 w1 a sg rg ov iv t ∧ Hid (∀ t2 w2, LkTo B c1 w1 a sg rg t2 w2 → LkTo B col w a sg rg t2 w2) ∧
      c1 w.heap.size = 0 ∧ Pl c1 w1 x c.data ∧ w1.cell? ⟨w.heap.size, 0, none⟩ = some (.int .i64 c.kind) ∧ w1.cell? ⟨w.heap.size, 1, none⟩ = some (.int .i64 c.ns) ∧ w1.cell? ⟨w.heap.size, 2, none⟩ = some (.int .i64 c.nr) ∧ w1.cell? ⟨w.heap.size, 3, none⟩ = some (.bool c.p) ∧
      w1.cell? ⟨w.heap.size, 4, none⟩ = some (.int .i64 c.me) ∧ w1.cell? ⟨w.heap.size, 5, none⟩ = some (.int .i64 c.peer) ∧ w1.cell? ⟨w.heap.size, 6, none⟩ = some x := by
  have hb := bl_alloc (bl_refl w) (.cells #[.int .i64 c.kind, .int .i64 c.ns, .int .i64 c.nr, .bool c.p, .int .i64 c.me, .int .i64 c.peer, x] 46)
  have hbx := heap_alloc_new w (.cells #[.int .i64 c.kind, .int .i64 c.ns, .int .i64 c.nr, .bool c.p, .int .i64 c.me, .int .i64 c.peer, x] 46)
  refine ⟨_, _, rfl, h.skip (n := 0) hb, fun t2 w2 h2 => LkTo.then_ hb.size (fun k hk _ => paint_old hk) (.of_below hb) h2, paint_new (Nat.le_refl _) (lt_of_get hbx), hx.fr (G := fun _ => False) (.of_below hb) (fun k hk hn => ⟨fun h => h, by rw [paint_old hk]; exact hn⟩), ?_, ?_, ?_, ?_, ?_, ?_, ?_⟩ <;> (rw [cell_of_row _ _ _ _ _ _ hbx]; rfl)

theorem againP_ne {s : Snd} (hok : s.Ok) {ns : Int} (hE : s.againE ns = 0) : s.againP ns ≠ [] := by
  obtain ⟨⟨hn0, hn1⟩, hmu⟩ := againE_zero hE
  have hu := hok.under1
  unfold Snd.againP
  rw [if_pos hE, List.getD_eq_getElem?_getD, List.getElem?_eq_getElem (by omega), Option.getD_some]
  intro e
  have := (hok.pay _ (List.getElem_mem (show ((ns - s.base) % 128).toNat < s.ps.length by omega))).1
  rw [e] at this
  simp at this

set_option maxRecDepth 100000 in
set_option maxHeartbeats 2000000 in
theorem lagain_any (B : Nat) (col : Nat → Nat) (w : World) (a sg rg : Nat) (ov iv : Value) (t : Lk) (h : LkP B col w a sg rg ov iv t) (hok : t.s.Ok) (c : Cn) (x : Value) (hx : Pl col w x c.data) (hm : t.out.length ≤ 100000) :
    Calls Tryz.prog 82 #[.pointer (some ⟨a, 0, none⟩), .agg #[.int .i64 c.kind, .int .i64 c.ns, .int .i64 c.nr, .bool c.p, .int .i64 c.me, .int .i64 c.peer, x]] w fun e w' => (∃ v, e = .returned v) ∧ LkTo B col w a sg rg (t.again c.nr) w' := by
  obtain ⟨xo, xc, rfl⟩ : ∃ xo xc, x = .slice xo c.data.length xc := by
    obtain ⟨⟨_, ao, cap, h, _⟩, _⟩ := hx
    exact ⟨ao, cap, h⟩
  obtain ⟨w1, c1, hw1, h1, H1, hc0, hx1, d0, d1, d2, d3, d4, d5, d6⟩ := ctl_box h c _ hx
  have e11 := h1.c11
  have HA := fun W : World => fun hb : Below w1.heap.size w1 W => sagain_any _ sg t.s hok c.nr W (h1.snd.below hb)
  have HP1 := Lib.hid h1
  have HM := Lib.hid hm
  clear h h1 hx hx1 d0 d1 d3 d4 d5 d6
  by_cases hE : t.s.againE c.nr = 0
  · rw [hE] at HA
    have hq : t.again c.nr = t.dat c.nr (t.s.againP c.nr) false := by unfold Lk.again; rw [if_pos hE]
    go_enter Tryz.func82, Tryz.ntmps82
    go_wp2_with fail
    try simp only [hw1]
    go_region_held3 (fun w' => w'.cell? ⟨a, 11, none⟩ = some (.pointer (some ⟨sg, 0, none⟩)) ∧ w'.cell? ⟨w.heap.size, 2, none⟩ = some (.int .i64 c.nr))
      (first | exact ⟨e11, d2⟩ | exact ⟨below_cell (bl_trans (bl_drew (bl_refl w1)) hb4) e11, below_cell (bl_trans (bl_drew (bl_refl w1)) hb4) d2⟩)
      (first | (go_at_call 50; refine (HA _ (bl_drew (bl_refl _))).mono ?_; rintro e w4 ⟨u, rfl, hu4, hb4⟩))
    have hb4' := bl_trans (bl_drew (bl_refl w1)) hb4
    obtain ⟨uo, uc, rfl⟩ : ∃ uo uc, u = .slice uo (t.s.againP c.nr).length uc := by
      obtain ⟨⟨⟨_, ao, cap, h, _⟩, _⟩, _⟩ := hu4
      exact ⟨ao, cap, h⟩
    have h2 := HP1.out.skip (n := 7) hb4'
    have hsz := hb4'.size
    have hx4 : Byt (fun k => paint c1 w1 w4 7 k = 7) w4 (.slice uo (t.s.againP c.nr).length uc) (t.s.againP c.nr) := by
      refine ⟨⟨hu4.1.1, fun k hk => ?_⟩, hu4.2⟩
      have hk1 : w1.heap.size ≤ k := hu4.1.2 k hk
      exact paint_new hk1 (rd_lt9 hu4.1.1 (againP_ne hok hE) k hk)
    have HD := ldata_any B _ w4 a sg rg _ _ t h2 c.nr (t.s.againP c.nr) false _ hx4 HM.out
    have H2 : Hid (∀ t' w', LkTo B (paint c1 w1 w4 7) w4 a sg rg t' w' → LkTo B c1 w1 a sg rg t' w') := fun t' w' h => LkTo.then_ hsz (fun k hk _ => paint_old hk) (.of_below hb4') h
    have d2' := below_cell hb4' d2
    clear hu4 hb4 hb4' h2 hx4 HA d2
    go_wp2_with fail
    refine HD.mono ?_
    rintro e w5 ⟨⟨v, rfl⟩, h5⟩
    have h6 := H1.out _ _ (H2.out _ _ h5)
    rw [← hq] at h6
    clear hq h5 HD
    go_wp2
    go_end0
    exact ⟨⟨_, rfl⟩, h6⟩
  · have hq : t.again c.nr = t := by unfold Lk.again; rw [if_neg hE]
    go_enter Tryz.func82, Tryz.ntmps82
    go_wp2_with fail
    try simp only [hw1]
    go_region_held3 (fun w' => w'.cell? ⟨a, 11, none⟩ = some (.pointer (some ⟨sg, 0, none⟩)) ∧ w'.cell? ⟨w.heap.size, 2, none⟩ = some (.int .i64 c.nr))
      (first | exact ⟨e11, d2⟩ | exact ⟨below_cell (bl_trans (bl_drew (bl_refl w1)) hb4) e11, below_cell (bl_trans (bl_drew (bl_refl w1)) hb4) d2⟩)
      (first | (go_at_call 50; refine (HA _ (bl_drew (bl_refl _))).mono ?_; rintro e w4 ⟨u, rfl, hu4, hb4⟩))
    have h6 := H1.out _ _ (HP1.out.skipTo (bl_trans (bl_drew (bl_refl w1)) hb4))
    rw [← hq] at h6
    clear hq hu4 hb4 HA
    go_wp2
    go_end0
    exact ⟨⟨_, rfl⟩, h6⟩

set_option maxRecDepth 100000 in
set_option maxHeartbeats 2000000 in
theorem ldm_any (B : Nat) (col : Nat → Nat) (w : World) (a sg rg : Nat) (ov iv : Value) (t : Lk) (h : LkP B col w a sg rg ov iv t) (hme : t.me < 65536) (c : Cn) (x : Value) (hx : Pl col w x c.data) (hm : t.out.length ≤ 100000) :
    Calls Tryz.prog 59 #[.pointer (some ⟨a, 0, none⟩), .agg #[.int .i64 c.kind, .int .i64 c.ns, .int .i64 c.nr, .bool c.p, .int .i64 c.me, .int .i64 c.peer, x]] w fun e w' => (∃ v, e = .returned v) ∧ LkTo B col w a sg rg (t.dm c.peer c.me) w' := by
  obtain ⟨xo, xc, rfl⟩ : ∃ xo xc, x = .slice xo c.data.length xc := by
    obtain ⟨⟨_, ao, cap, h, _⟩, _⟩ := hx
    exact ⟨ao, cap, h⟩
  obtain ⟨kind, ns, nr, pp, cme, cpeer, data⟩ := c
  dsimp only at hx ⊢
  by_cases hup : t.up = true
  · by_cases hpe : cpeer = t.me
    · subst hpe
      by_cases hmp : cme = t.peer
      · subst hmp
        have hq : t.dm t.me t.peer = t := by unfold Lk.dm; rw [if_neg (fun h => h.2.2 rfl)]
        obtain ⟨w1, c1, hw1, h1, H1, hc0, hx1, d0, d1, d2, d3, d4, d5, d6⟩ := ctl_box h ⟨kind, ns, nr, pp, t.peer, t.me, data⟩ _ hx
        dsimp only at hw1 d0 d1 d2 d3 d4 d5 hx1
        have e0 := h1.c0
        have e1 := h1.c1
        have e2 := h1.c2
        have e6 := h1.c6
        have z1 := h1.frozen 1
        have HP1 := Lib.hid h1
        clear h h1 hx hx1 d0 d1 d2 d6
        rw [hup] at e2
        go_enter Tryz.func59, Tryz.ntmps59
        go_wp2_with fail
        try simp only [hw1]
        go_quiet (fail)
        have HS6 : Hid (∀ W, Below w1.heap.size w1 W → LkTo B col w a sg rg (t.dm t.me t.peer) W) := fun W hb => by rw [hq]; exact H1.out _ _ (HP1.out.skipTo hb)
        clear hq
        go_wp2
        go_end0
        exact ⟨⟨_, rfl⟩, HS6.out _ (by first | exact bl_drewN (bl_refl _) _ | exact bl_drewN (bl_drewN (bl_refl _) _) _)⟩
      · have hq : t.dm t.me cme = t.anew := by unfold Lk.dm; rw [if_pos ⟨hup, rfl, hmp⟩]
        have hmB : (cme == t.peer) = false := by simpa using hmp
        obtain ⟨w1, c1, hw1, h1, H1, hc0, hx1, d0, d1, d2, d3, d4, d5, d6⟩ := ctl_box h ⟨kind, ns, nr, pp, cme, t.me, data⟩ _ hx
        dsimp only at hw1 d0 d1 d2 d3 d4 d5 hx1
        have e0 := h1.c0
        have e1 := h1.c1
        have e2 := h1.c2
        have e6 := h1.c6
        have z1 := h1.frozen 1
        have HP1 := Lib.hid h1
        clear h h1 hx hx1 d0 d1 d2 d6
        rw [hup] at e2
        have HD : ∀ W, Below w1.heap.size w1 W → Calls Tryz.prog 49 #[.pointer (some ⟨a, 0, none⟩)] W fun e w' => (∃ v, e = .returned v) ∧ LkTo B col w a sg rg t.anew w' := fun W hb => (lanew_any B _ W a sg rg ov iv t (HP1.out.skip (n := 0) hb) hme hm).mono fun e w' h => ⟨h.1, H1.out _ _ ((skip_lift c1 hb).out _ _ h.2)⟩
        go_enter Tryz.func59, Tryz.ntmps59
        go_wp2_with fail
        try simp only [hw1]
        go_quiet (fail)
        go_wp2_with fail
        refine (HD _ (by first | exact bl_drewN (bl_refl _) _ | exact bl_drewN (bl_drewN (bl_refl _) _) _)).mono ?_
        rintro e w5 ⟨⟨v, rfl⟩, h5⟩
        have h6 := h5
        rw [← hq] at h6
        clear hq h5
        go_wp2
        go_end0
        exact ⟨⟨_, rfl⟩, h6⟩
    · have hq : t.dm cpeer cme = t := by unfold Lk.dm; rw [if_neg (fun h => hpe h.2.1)]
      have hpB : (cpeer == (t.me : Int)) = false := by simpa using hpe
      obtain ⟨w1, c1, hw1, h1, H1, hc0, hx1, d0, d1, d2, d3, d4, d5, d6⟩ := ctl_box h ⟨kind, ns, nr, pp, cme, cpeer, data⟩ _ hx
      dsimp only at hw1 d0 d1 d2 d3 d4 d5 hx1
      have e0 := h1.c0
      have e1 := h1.c1
      have e2 := h1.c2
      have e6 := h1.c6
      have z1 := h1.frozen 1
      have HP1 := Lib.hid h1
      clear h h1 hx hx1 d0 d1 d2 d6
      rw [hup] at e2
      go_enter Tryz.func59, Tryz.ntmps59
      go_wp2_with fail
      try simp only [hw1]
      go_quiet (fail)
      have HS6 : Hid (∀ W, Below w1.heap.size w1 W → LkTo B col w a sg rg (t.dm cpeer cme) W) := fun W hb => by rw [hq]; exact H1.out _ _ (HP1.out.skipTo hb)
      clear hq
      go_wp2
      go_end0
      exact ⟨⟨_, rfl⟩, HS6.out _ (by first | exact bl_drewN (bl_refl _) _ | exact bl_drewN (bl_drewN (bl_refl _) _) _)⟩
  · have hup' : t.up = false := by simpa using hup
    have hq : t.dm cpeer cme = t := by unfold Lk.dm; rw [if_neg (fun h => hup h.1)]
    obtain ⟨w1, c1, hw1, h1, H1, hc0, hx1, d0, d1, d2, d3, d4, d5, d6⟩ := ctl_box h ⟨kind, ns, nr, pp, cme, cpeer, data⟩ _ hx
    dsimp only at hw1 d0 d1 d2 d3 d4 d5 hx1
    have e0 := h1.c0
    have e1 := h1.c1
    have e2 := h1.c2
    have e6 := h1.c6
    have z1 := h1.frozen 1
    have HP1 := Lib.hid h1
    clear h h1 hx hx1 d0 d1 d2 d6
    rw [hup'] at e2
    go_enter Tryz.func59, Tryz.ntmps59
    go_wp2_with fail
    try simp only [hw1]
    go_quiet (fail)
    have HS6 : Hid (∀ W, Below w1.heap.size w1 W → LkTo B col w a sg rg (t.dm cpeer cme) W) := fun W hb => by rw [hq]; exact H1.out _ _ (HP1.out.skipTo hb)
    clear hq
    go_wp2
    go_end0
    exact ⟨⟨_, rfl⟩, HS6.out _ (by first | exact bl_drewN (bl_refl _) _ | exact bl_drewN (bl_drewN (bl_refl _) _) _)⟩

set_option maxRecDepth 100000 in
set_option maxHeartbeats 2000000 in
theorem lua_any (B : Nat) (col : Nat → Nat) (w : World) (a sg rg : Nat) (ov iv : Value) (t : Lk) (h : LkP B col w a sg rg ov iv t) (c : Cn) (x : Value) (hx : Pl col w x c.data) :
    Calls Tryz.prog 58 #[.pointer (some ⟨a, 0, none⟩), .agg #[.int .i64 c.kind, .int .i64 c.ns, .int .i64 c.nr, .bool c.p, .int .i64 c.me, .int .i64 c.peer, x]] w fun e w' => (∃ v, e = .returned v) ∧ LkTo B col w a sg rg (t.ua c.peer c.me) w' := by
  obtain ⟨xo, xc, rfl⟩ : ∃ xo xc, x = .slice xo c.data.length xc := by
    obtain ⟨⟨_, ao, cap, h, _⟩, _⟩ := hx
    exact ⟨ao, cap, h⟩
  obtain ⟨kind, ns, nr, pp, cme, cpeer, data⟩ := c
  dsimp only at hx ⊢
  by_cases hpe : cpeer = t.me
  · subst hpe
    by_cases hup : t.up = false
    · by_cases hmp : cme = t.peer
      · subst hmp
        have hq : t.ua t.me t.peer = t.heard := by unfold Lk.ua; rw [if_pos ⟨rfl, hup⟩, if_pos rfl]
        obtain ⟨w1, c1, hw1, h1, H1, hc0, hx1, d0, d1, d2, d3, d4, d5, d6⟩ := ctl_box h ⟨kind, ns, nr, pp, t.peer, t.me, data⟩ _ hx
        dsimp only at hw1 d0 d1 d2 d3 d4 d5 hx1
        have e0 := h1.c0
        have e1 := h1.c1
        have e2 := h1.c2
        have e6 := h1.c6
        have z1 := h1.frozen 1
        have HP1 := Lib.hid h1
        clear h h1 hx hx1 d0 d1 d2 d6
        rw [hup] at e2
        have HD : ∀ W, Below w1.heap.size w1 W → Calls Tryz.prog 80 #[.pointer (some ⟨a, 0, none⟩)] W fun e w' => (∃ v, e = .returned v) ∧ LkTo B col w a sg rg t.heard w' := fun W hb => (lheard_any B _ W a sg rg ov iv t (HP1.out.skip (n := 0) hb)).mono fun e w' h => ⟨h.1, H1.out _ _ ((skip_lift c1 hb).out _ _ h.2)⟩
        go_enter Tryz.func58, Tryz.ntmps58
        go_wp2_with fail
        try simp only [hw1]
        go_quiet (fail)
        go_wp2_with fail
        go_quiet (fail)
        go_wp2_with fail
        refine (HD _ (by first | exact bl_drewN (bl_refl _) _ | exact bl_drewN (bl_drewN (bl_refl _) _) _)).mono ?_
        rintro e w5 ⟨⟨v, rfl⟩, h5⟩
        have h6 := h5
        rw [← hq] at h6
        clear hq h5
        go_wp2
        go_end0
        exact ⟨⟨_, rfl⟩, h6⟩
      · have hq : t.ua t.me cme = ({ t with peer := cme } : Lk).reset.heard := by unfold Lk.ua; rw [if_pos ⟨rfl, hup⟩, if_neg hmp]
        have hmB : (cme == t.peer) = false := by simpa using hmp
        obtain ⟨w1, c1, hw1, h1, H1, hc0, hx1, d0, d1, d2, d3, d4, d5, d6⟩ := ctl_box h ⟨kind, ns, nr, pp, cme, t.me, data⟩ _ hx
        dsimp only at hw1 d0 d1 d2 d3 d4 d5 hx1
        have e0 := h1.c0
        have e1 := h1.c1
        have e2 := h1.c2
        have e6 := h1.c6
        have z1 := h1.frozen 1
        have HP1 := Lib.hid h1
        clear h h1 hx hx1 d0 d1 d2 d6
        rw [hup] at e2
        have HD : ∀ W, Below w1.heap.size w1 W → Calls Tryz.prog 69 #[.pointer (some ⟨a, 0, none⟩)] (W.setCell ⟨a, 1, none⟩ (.int .i64 cme)) fun e w' => (∃ v, e = .returned v) ∧ LkTo B col w a sg rg ({ t with peer := cme } : Lk).reset w' := by
          intro W hb
          obtain ⟨c2, o2, i2, hp2, _, H2⟩ := ((HP1.out.skip (n := 0) hb).putTo (t' := { t with peer := cme }) 1 (.int .i64 cme) rfl rfl rfl rfl rfl).open_
          exact (lreset_any B c2 _ a sg rg o2 i2 _ hp2).mono fun e w' h => ⟨h.1, H1.out _ _ ((skip_lift c1 hb).out _ _ (H2.out _ _ h.2))⟩
        go_enter Tryz.func58, Tryz.ntmps58
        go_wp2_with fail
        try simp only [hw1]
        go_quiet (fail)
        go_wp2_with fail
        go_quiet (fail)
        go_wp2_with fail
        refine (HD _ (by first | exact bl_drewN (bl_refl _) _ | exact bl_drewN (bl_drewN (bl_refl _) _) _)).mono ?_
        rintro e w4 ⟨⟨v, rfl⟩, h4⟩
        obtain ⟨c4, o4, i4, hp4, _, H4⟩ := h4.open_
        have HE := lheard_any B c4 w4 a sg rg o4 i4 _ hp4
        clear h4 hp4 HD
        go_wp2_with fail
        refine HE.mono ?_
        rintro e w5 ⟨⟨v, rfl⟩, h5⟩
        have h6 := H4.out _ _ h5
        rw [← hq] at h6
        clear hq h5
        go_wp2
        go_end0
        exact ⟨⟨_, rfl⟩, h6⟩
    · have hup' : t.up = true := by simpa using hup
      have hq : t.ua t.me cme = t := by unfold Lk.ua; rw [if_neg (fun h => hup h.2)]
      obtain ⟨w1, c1, hw1, h1, H1, hc0, hx1, d0, d1, d2, d3, d4, d5, d6⟩ := ctl_box h ⟨kind, ns, nr, pp, cme, t.me, data⟩ _ hx
      dsimp only at hw1 d0 d1 d2 d3 d4 d5 hx1
      have e0 := h1.c0
      have e1 := h1.c1
      have e2 := h1.c2
      have e6 := h1.c6
      have z1 := h1.frozen 1
      have HP1 := Lib.hid h1
      clear h h1 hx hx1 d0 d1 d2 d6
      rw [hup'] at e2
      go_enter Tryz.func58, Tryz.ntmps58
      go_wp2_with fail
      try simp only [hw1]
      go_quiet (fail)
      have HS6 : Hid (∀ W, Below w1.heap.size w1 W → LkTo B col w a sg rg (t.ua t.me cme) W) := fun W hb => by rw [hq]; exact H1.out _ _ (HP1.out.skipTo hb)
      clear hq
      go_wp2
      refine bodyPost_ret (results_none rfl _ _ _) rfl ?_
      exact ⟨⟨_, rfl⟩, HS6.out _ (by first | exact bl_drewN (bl_refl _) _ | exact bl_drewN (bl_drewN (bl_refl _) _) _)⟩
  · have hq : t.ua cpeer cme = t := by unfold Lk.ua; rw [if_neg (fun h => hpe h.1)]
    have hpB : (cpeer == (t.me : Int)) = false := by simpa using hpe
    obtain ⟨w1, c1, hw1, h1, H1, hc0, hx1, d0, d1, d2, d3, d4, d5, d6⟩ := ctl_box h ⟨kind, ns, nr, pp, cme, cpeer, data⟩ _ hx
    dsimp only at hw1 d0 d1 d2 d3 d4 d5 hx1
    have e0 := h1.c0
    have e1 := h1.c1
    have e2 := h1.c2
    have e6 := h1.c6
    have z1 := h1.frozen 1
    have HP1 := Lib.hid h1
    clear h h1 hx hx1 d0 d1 d2 d6
    go_enter Tryz.func58, Tryz.ntmps58
    go_wp2_with fail
    try simp only [hw1]
    go_quiet (fail)
    have HS6 : Hid (∀ W, Below w1.heap.size w1 W → LkTo B col w a sg rg (t.ua cpeer cme) W) := fun W hb => by rw [hq]; exact H1.out _ _ (HP1.out.skipTo hb)
    clear hq
    go_wp2
    refine bodyPost_ret (results_none rfl _ _ _) rfl ?_
    exact ⟨⟨_, rfl⟩, HS6.out _ (by first | exact bl_drewN (bl_refl _) _ | exact bl_drewN (bl_drewN (bl_refl _) _) _)⟩

end Go.Proofs.YthmdibagcbbgoaaGreat
