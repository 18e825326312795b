/- portagelaw08.RecvAll: when all that is under way is sent again, and acknowledged, all is told. Conditions: as they stand. -/
import Derived.Test.YtagbaoakablfpaaLawRcvOrder
namespace Go.Proofs.Ytagbaoakablfpaa
open Go.RowKit

/-- Nothing is kept whose turn it is. -/
def Dry (t : PSt) : Prop := pos t.r.kept t.r.waits = none
theorem drain_dry : ∀ (f : Nat) (r : Rcv), r.kept.length ≤ f → pos (r.drain f).2.kept (r.drain f).2.waits = none
  | 0, r, h => by
    have : r.kept = [] := List.length_eq_zero_iff.1 (by omega)
    show pos r.kept r.waits = none
    rw [this]; rfl
  | f + 1, r, h => by
    rw [Rcv.drain]
    cases hp : pos r.kept r.waits with
    | none => exact hp
    | some y =>
      have hl := dropK_len (j := y.1) (v := y.2) hp
      exact drain_dry f r.next (by show (dropK r.kept r.waits).length ≤ f; omega)
theorem Dry.come {t : PSt} (h : Dry t) (ns : Int) (p : List Int) : Dry (t.come ns p) := by
  unfold Dry PSt.come Rcv.take
  by_cases hc : t.r.chk ns p.length = 0
  · simp only [if_pos hc]
    exact drain_dry _ _ (Nat.le_refl _)
  · simp only [if_neg hc]
    exact h
theorem Dry.step {t : PSt} (h : Dry t) (k x : Int) : Dry (t.step k x) := by
  unfold PSt.step
  split
  · exact h
  split
  · exact h
  split
  · split
    · exact h.come _ _
    · exact h
  split
  · split
    · exact h.come _ _
    · exact h
  split
  · exact h
  · exact h
theorem tells_ge {t : PSt} {n m : Nat} (h : PInv n m t) (hd : Dry t) {i : Nat} {x : Int} (hx : t.s.unders[i]? = some x) (hW : t.way.length - t.s.under + i ≤ t.told.length) :
    t.way.length - t.s.under + (i + 1) ≤ (t.come x (t.s.againP x)).told.length := by
  show _ ≤ (t.told ++ t.r.tells x (t.s.againP x)).length
  rw [List.length_append]
  obtain ⟨h1, h2, h3, h4⟩ := h.re hx
  by_cases hlt : t.way.length - t.s.under + i < t.told.length
  · omega
  · have hA : t.told.length = t.way.length - t.s.under + i := by omega
    have hw := h.waits
    have hxw : x = (t.r.waits : Int) := by rw [h2, hw, hA]
    have hs := h.rok.size1
    have hmem : t.s.againP x ∈ t.s.ps := by
      rw [h.ps]
      refine List.mem_of_getElem? (i := i) ?_
      rw [List.getElem?_drop]
      exact h4
    obtain ⟨p1, p2⟩ := h.sok.pay _ hmem
    have hnk : x ∉ t.r.keys := fun hm => by
      obtain ⟨j, v, hv⟩ := pos_mem hm
      rw [hxw] at hv
      unfold Dry at hd
      rw [hd] at hv
      cases hv
    have hc : t.r.chk x (t.s.againP x).length = 0 := by
      unfold Rcv.chk
      rw [if_neg (by omega), if_neg (by omega), if_neg (by omega), if_neg (by omega), if_neg hnk]
    have : 1 ≤ (t.r.tells x (t.s.againP x)).length := by
      unfold Rcv.tells
      rw [if_pos hc]
      obtain ⟨j, v, hv⟩ := pos_mem (f := (t.r.with_ x (t.s.againP x)).kept) (k := x) (by simp [Rcv.with_])
      have e : (t.r.with_ x (t.s.againP x)).kept.length = t.r.kept.length + 1 := by simp [Rcv.with_]
      have e2 : ((t.r.with_ x (t.s.againP x)).waits : Int) = x := hxw.symm
      unfold Rcv.gone
      rw [e, Rcv.drain, e2, hv]
      simp
    omega
theorem PInv.last {n m : Nat} {t : PSt} (h : PInv n m t) (he : t.s.ps = []) : t.told = t.pushed ∧ t.r.kept = [] := by
  have h1 := h.ps
  have h2 := h.le1
  have h3 := h.le2
  have h4 := h.ackd
  rw [he] at h1
  have h5 : t.pushed.length ≤ t.way.length - t.s.under := List.drop_eq_nil_iff.1 h1.symm
  refine ⟨by rw [h.told, List.take_of_length_le (by omega)], ?_⟩
  cases hk : t.r.kept with
  | nil => rfl
  | cons y l =>
    obtain ⟨A, a1, _, a3, _⟩ := h.kept y (by rw [hk]; simp)
    omega
theorem send_facts {n m : Nat} {t : PSt} (h : PInv n m t) (x : Int) : PInv n m (t.step 1 x) ∧ (t.step 1 x).s.ps = t.s.ps ∧ (0 < t.s.ps.length → 1 ≤ (t.step 1 x).s.under) := by
  have e : t.step 1 x = { t with s := t.s.send, way := if t.s.can then t.way ++ [((t.s.sendN : Int), t.s.sendP)] else t.way } := rfl
  rw [e]
  refine ⟨h.sent, ?_, fun hp => ?_⟩
  · show t.s.send.ps = _
    unfold Snd.send
    split <;> rfl
  · show 1 ≤ t.s.send.under
    have := h.sok.size1
    unfold Snd.send
    split
    · simp
    · rename_i hc
      simp only [Snd.can, Bool.and_eq_true, decide_eq_true_eq] at hc
      omega
theorem ack_facts {n m : Nat} {t : PSt} (h : PInv n m t) (hu : 0 < t.s.ps.length → 1 ≤ t.s.under) (hW : t.way.length ≤ t.told.length) (x : Int) : PInv n m (t.step 4 x) ∧ (t.step 4 x).s.ps.length ≤ t.s.ps.length - 1 := by
  have e : t.step 4 x = { t with s := t.s.ack t.r.waits } := rfl
  rw [e]
  obtain ⟨h1, h2, h3⟩ := h.acked
  refine ⟨h1, ?_⟩
  show (t.s.ack t.r.waits).ps.length ≤ _
  have := h.und
  rw [h.ps, List.length_drop] at hu
  rw [h3, h.ps, List.length_drop, List.length_drop]
  omega
/-- The pair at the rounds. -/
structure Rnd (w : World) (pb sg rg n L u : Nat) (wr : World) : Prop where
  ex : ∃ (t : PSt) (col : Nat → Nat) (pv wv tv : Value), PairAt w.heap.size col wr pb sg rg pv wv tv t ∧ PInv n 300 t ∧ Dry t ∧ t.s.ps.length ≤ L ∧ (0 < t.s.ps.length → u ≤ t.s.under)
  bl : Below w.heap.size w wr
/-- The pair while all that is under way comes once more. -/
structure Cme (B : Nat) (W3 : World) (c3 : Nat → Nat) (pb sg rg : Nat) (pv wv : Value) (n j : Nat) (t3 : PSt) (wz : World) : Prop where
  ex : ∃ (t : PSt) (col : Nat → Nat) (tv : Value), PairAt B col wz pb sg rg pv wv tv t ∧ PInv n 300 t ∧ Dry t ∧ t.s = t3.s ∧ t.way = t3.way ∧ t3.way.length - t3.s.under + j ≤ t.told.length ∧ ∀ k, k < W3.heap.size → col k = c3 k
  fr : Fr (fun k => c3 k = 1 ∨ c3 k = 3 ∨ c3 k = 6) W3 wz
theorem kept_none {C D : Nat → Prop} {a : Nat} {r : Rcv} {w : World} (hs : RcvAt C D w a r) (hok : r.Ok) (hk : r.kept = []) :
    Calls Try.prog 15 #[.pointer (some ⟨a, 0, none⟩)] w fun e w' => ∃ uo uc, e = .returned (.slice uo 0 uc) ∧ Below w.heap.size w w' := by
  refine (rckept_any C D a r w hs (by rw [hk]; simp)).mono ?_
  rintro e w' ⟨u, rfl, hO, hb⟩
  have h0 : (sorted r.keys (win r.waits 128)).length = 0 := by
    have h1 : r.numbers = [] := by
      cases hn : r.numbers with
      | nil => rfl
      | cons x l =>
        have := (numbers_mem hok (t := x)).1 (by rw [hn]; simp)
        simp [Rcv.keys, hk] at this
    have h2 : r.numbers.length = 0 := by rw [h1]; rfl
    exact h2
  obtain ⟨uo, uc, rfl⟩ := rc_form hO
  rw [h0]
  exact ⟨uo, uc, rfl, hb⟩
theorem dry_start {n : Nat} : Dry ⟨⟨n, 0, [], 0⟩, ⟨n, 0, [], []⟩, [], [], []⟩ := rfl

set_option maxRecDepth 100000 in
set_option maxHeartbeats 4000000 in
theorem all_ok (n : Nat) (h1 : 1 ≤ n) (h2 : n ≤ 63) (v : Value) (l : List (Int × Int)) (w : World) (hl : WaysAt w.heap.size w v l) :
    Calls Try.prog 6 #[.int .i64 n, v] w fun e w' => e = .returned (.bool true) ∧ Below w.heap.size w w' := by
  obtain ⟨ao, cap, rfl, hlc, hm⟩ : ∃ ao cap, v = .slice ao l.length cap ∧ l.length ≤ cap ∧ l.length ≤ maxLen := by
    obtain ⟨hm, ao, cap, hv, hl, _⟩ := hl
    exact ⟨ao, cap, hv, hl, hm⟩
  simp only [maxLen] at hm
  have HL := Lib.hid hl
  have HB := begin_ok n h1 h2 w
  clear hl
  go_enter Try.func6, Try.ntmps6
  go_wp2_with fail
  refine HB.mono ?_
  rintro e w1 ⟨pb, rfl, col, sg, rg, pv, wv, tv, hp, hb⟩
  have H1 : Hid (∃ (t : PSt) (col : Nat → Nat) (pv wv tv : Value), PairAt w.heap.size col w1 pb sg rg pv wv tv t ∧ PInv n 0 t ∧ Dry t) := ⟨_, _, _, _, _, hp, pinv_start h1 h2, dry_start⟩
  have HB1 : Hid (Below w.heap.size w w1) := hb
  clear hp hb HB
  go_wp2_with fail
  go_loopw [6] (fun iv wr => ∃ i : Nat, iv = .int .i64 i ∧ i ≤ l.length ∧ i ≤ 300 ∧ Hid (∃ (t : PSt) (col : Nat → Nat) (pv wv tv : Value), PairAt w.heap.size col wr pb sg rg pv wv tv t ∧ PInv n i t ∧ Dry t) ∧ Hid (Below w.heap.size w wr)) (fun iv _ => 300 - (intOf iv).toNat)
  case atStart => exact ⟨0, rfl, by omega, by omega, H1, HB1⟩
  case round =>
    clear H1 HB1
    obtain ⟨i, rfl, hi1, hi2, HI, HBL⟩ := hrel
    by_cases hlt : i < l.length ∧ i < 300
    · obtain ⟨hlt1, hlt2⟩ := hlt
      obtain ⟨c, hci⟩ := get_some hlt1
      obtain ⟨b, o, rfl, hbw, hc0, hc1, _, _⟩ := HL.out.at_ hci
      rw [← Nat.add_assoc] at hc1
      replace hc0 := (HBL.out.cell (p := ⟨b, _, none⟩) hbw).trans hc0
      replace hc1 := (HBL.out.cell (p := ⟨b, _, none⟩) hbw).trans hc1
      obtain ⟨t, col, pv, wv, tv, hp, hin, hdr⟩ := HI.out
      have HS := step_any w.heap.size col wr pb sg rg pv wv tv t hp hin (by omega) c.1 c.2
      have HN := Lib.hid (hin.step c.1 c.2)
      have HD := Lib.hid (hdr.step c.1 c.2)
      have f0 : (0 : Int) ≤ (i : Int) := by omega
      have f1 : (i : Int) < (l.length : Int) := by omega
      have f2 : (i : Int) < 300 := by omega
      clear hci hp hin hdr
      go_wp2_with fail
      refine HS.mono ?_
      rintro e w4 ⟨⟨rv, rfl⟩, ⟨c4, pv4, wv4, tv4, hp4⟩, hb4⟩
      have H4 : Hid (∃ (t : PSt) (col : Nat → Nat) (pv wv tv : Value), PairAt w.heap.size col w4 pb sg rg pv wv tv t ∧ PInv n (i + 1) t ∧ Dry t) := ⟨_, _, _, _, _, hp4, HN.out, HD.out⟩
      have H5 : Hid (Below w.heap.size w w4) := HBL.out.trans hb4
      clear hp4 hb4 HS hc0 hc1
      go_wp2
      go_roundw
      case rel => exact ⟨i + 1, by go_num, by omega, by omega, H4, H5⟩
      case measure => simp [intOf]; omega
    · have H0 : Hid (Rnd w pb sg rg n 64 0 wr) := by
        obtain ⟨t, col, pv, wv, tv, hp, hin, hdr⟩ := HI.out
        exact ⟨⟨t, col, pv, wv, tv, hp, hin.mono hi2, hdr, hin.sok.len, fun _ => Nat.zero_le _⟩, HBL.out⟩
      clear HI HBL
      have f3 : ((i : Int) < (l.length : Int) ∧ (i : Int) < 300) = False := by simp; omega
      have f4 : ¬ ((i : Int) < (l.length : Int)) ∨ ((i : Int) < (l.length : Int) ∧ ¬ ((i : Int) < 300)) := by omega
      rcases f4 with f4 | ⟨f4, f5⟩
      · go_wp2_with fail
        go_loopw [7] (fun kv wr => ∃ k : Nat, kv = .int .i64 k ∧ k ≤ 64 ∧ Hid (Rnd w pb sg rg n (64 - k) 0 wr)) (fun kv _ => 64 - (intOf kv).toNat)
        case atStart => exact ⟨0, rfl, by omega, H0⟩
        case round =>
          clear H0
          obtain ⟨k, rfl, hk, HI⟩ := hrel
          obtain ⟨t, col, pv, wv, tv, hp, hin, hdr, hlen, _⟩ := HI.out.ex
          have e0 := hp.cells.1
          have HLn := slen_any _ sg t.s wr hp.snd
          have g1 : (k : Int) ≤ 64 := by omega
          have HP := Lib.hid hp
          have HIN := Lib.hid hin
          have HDR := Lib.hid hdr
          clear hp hin hdr
          go_wp2_with fail
          refine HLn.mono ?_
          rintro e w2 ⟨rfl, rfl⟩
          by_cases hps : 0 < t.s.ps.length
          · have g2 : (0 : Int) < (t.s.ps.length : Int) := by omega
            have HR : Hid (Rnd w pb sg rg n (64 - k) 0 wr) := HI
            have hk2 : k < 64 := by omega
            clear HP HIN HDR HLn e0 HI hlen
            go_wp2_with fail
            go_loopw [8] (fun jv wr => ∃ j : Nat, jv = .int .i64 j ∧ j ≤ n ∧ Hid (Rnd w pb sg rg n (64 - k) (min j 1) wr)) (fun jv _ => n - (intOf jv).toNat)
            case atStart => exact ⟨0, rfl, by omega, HR⟩
            case round =>
              clear HR
              obtain ⟨j, rfl, hj, HJ⟩ := hrel
              by_cases hjn : j < n
              · obtain ⟨t, col, pv, wv, tv, hp, hin, hdr, hlen, hu⟩ := HJ.out.ex
                have HS := step_any w.heap.size col wr pb sg rg pv wv tv t hp hin (by omega) 1 0
                have g3 : (j : Int) < (n : Int) := by omega
                have g4 : (j : Int) < 64 := by omega
                have HF := Lib.hid (send_facts hin 0)
                have HD := Lib.hid (hdr.step 1 0)
                clear hp hin hdr hu
                go_wp2_with fail
                refine HS.mono ?_
                rintro e w4 ⟨⟨rv, rfl⟩, ⟨c4, pv4, wv4, tv4, hp4⟩, hb4⟩
                have H4 : Hid (Rnd w pb sg rg n (64 - k) (min (j + 1) 1) w4) := by
                  obtain ⟨q1, q2, q3⟩ := HF.out
                  exact ⟨⟨_, _, _, _, _, hp4, q1, HD.out, by rw [q2]; exact hlen, fun h => by rw [q2] at h; have := q3 h; omega⟩, HJ.out.bl.trans hb4⟩
                clear hp4 hb4 HS hlen
                go_wp2
                go_roundw
                case rel => exact ⟨j + 1, by go_num, by omega, H4⟩
                case measure => simp [intOf]; omega
              · obtain rfl : n = j := by omega
                obtain ⟨t3, col, pv, wv, tv, hp, hin, hdr, hlen, hu⟩ := HJ.out.ex
                have hbw := Lib.hid HJ.out.bl
                have e0 := hp.cells.1
                have HU := sunder_any _ sg t3.s hin.sok wr hp.snd
                have HP := Lib.hid hp
                have HIN := Lib.hid hin
                have HDR := Lib.hid hdr
                have HU1 := Lib.hid hu
                have HLE := Lib.hid hlen
                clear hp hin hdr hu HJ hlen
                go_wp2_with fail
                refine HU.mono ?_
                rintro e W3 ⟨u, rfl, hu3, hb3⟩
                obtain ⟨uo, uc, rfl⟩ : ∃ uo uc, u = .slice uo t3.s.unders.length uc := by
                  obtain ⟨⟨_, ao, cap, h, _⟩, _⟩ := hu3
                  exact ⟨ao, cap, h⟩
                have hp3 := HP.out.skip (n := 0) hb3
                have HUC : Hid (∀ (q : Nat) (x : Int), t3.s.unders[q]? = some x → ∃ b o, uo = some ⟨b, o, none⟩ ∧ paint col wr W3 0 b = 0 ∧ W3.cell? ⟨b, o + q, none⟩ = some (.int .i64 x)) := by
                  intro q x hx
                  obtain ⟨⟨_, ao, cap, hv, _, hc⟩, hF⟩ := hu3
                  cases hv
                  obtain ⟨b, o, rfl, hcell⟩ := hc q x hx
                  exact ⟨b, o, rfl, paint_new (hF b rfl) (cell_lt hcell), hcell⟩
                have hul := unders_le HIN.out.sok
                have HB3 : Hid (Below w.heap.size w W3) := hbw.out.trans (hb3.mono hbw.out.size)
                generalize paint col wr W3 0 = c3 at hp3 HUC
                have H3 : Hid (Cme w.heap.size W3 c3 pb sg rg pv wv n 0 t3 W3) := ⟨⟨t3, c3, tv, hp3, HIN.out, HDR.out, rfl, rfl, HIN.out.ackd, fun _ _ => rfl⟩, Fr.refl _ _⟩
                have HC3 : Hid (Cols w.heap.size c3 W3) := hp3.cols
                clear hu3 hb3 hp3 HU HP HDR hbw e0
                go_wp2_with fail
                go_loopw [10] (fun jv wr => ∃ j : Nat, jv = .int .i64 j ∧ j ≤ t3.s.unders.length ∧ Hid (Cme w.heap.size W3 c3 pb sg rg pv wv n j t3 wr)) (fun jv _ => 64 - (intOf jv).toNat)
                case atStart => exact ⟨0, rfl, by omega, H3⟩
                case round =>
                  clear H3
                  obtain ⟨q, rfl, hq, HC⟩ := hrel
                  obtain ⟨t, col, tv, hp, hin, hdr, es, ew, hW, hcol⟩ := HC.out.ex
                  by_cases hqn : q < t3.s.unders.length
                  · obtain ⟨x, hx⟩ := get_some hqn
                    obtain ⟨b, o, rfl, hb0, hcell⟩ := HUC.out q x hx
                    have hbl := cell_lt hcell
                    replace hcell := HC.out.fr.cell hcell (by omega)
                    have hx' : t.s.unders[q]? = some x := by rw [es]; exact hx
                    have hE := (hin.re hx').2.2.1
                    have HA := fun W : World => fun hb : Below wr.heap.size wr W => sagain_any _ sg t.s hin.sok x W (hp.snd.below hb)
                    have e0 := hp.cells.1
                    have g5 : (0 : Int) ≤ (q : Int) := by omega
                    have g6 : (q : Int) < (t3.s.unders.length : Int) := by omega
                    have g7 : (t3.s.unders.length : Int) ≤ 63 := by omega
                    rw [hE] at HA
                    have HP := Lib.hid hp
                    have HIN := Lib.hid hin
                    have HDR := Lib.hid hdr
                    have HT : Hid (t3.way.length - t3.s.under + (q + 1) ≤ (t.come x (t.s.againP x)).told.length) := by
                      have g4 := tells_ge hin hdr hx' (by rw [es, ew]; exact hW)
                      have g5 : t.s.under = t3.s.under := by rw [es]
                      rw [ew, g5] at g4
                      exact g4
                    have HX' := Lib.hid hx'
                    have HCO := Lib.hid hcol
                    have HES := Lib.hid es
                    have HEW := Lib.hid ew
                    clear hp hin hdr hx hx' hcol es ew hW hE
                    go_wp2_with fail
                    go_region_held3 (fun w' => w'.cell? ⟨pb, 0, none⟩ = some (.pointer (some ⟨sg, 0, none⟩)) ∧ w'.cell? ⟨b, o + q, none⟩ = some (.int .i64 x))
                      (first | exact ⟨e0, hcell⟩ | exact ⟨below_cell (bl_trans (bl_drew (bl_refl _)) hb6) e0, below_cell (bl_trans (bl_drew (bl_refl _)) hb6) hcell⟩)
                      (first | (go_at_call 21; refine (HA _ (by first | assumption | exact bl_drew (bl_refl _))).mono ?_; rintro e w6 ⟨u, rfl, hx6, hb6⟩))
                    obtain ⟨xo, xc, rfl⟩ : ∃ xo xc, u = .slice xo (t.s.againP x).length xc := by
                      obtain ⟨⟨⟨_, ao, cap, h, _⟩, _⟩, _⟩ := hx6
                      exact ⟨ao, cap, h⟩
                    have hb6' : Below wr.heap.size wr w6 := bl_trans (bl_drew (bl_refl _)) hb6
                    have hcell6 := below_cell hb6' hcell
                    have HTK := comes_any w.heap.size _ w6 pb sg rg _ _ _ t (HP.out.skip (n := 0) hb6') HIN.out.rok 0 x _ (t.s.againP x) hx6.1.1 hx6.2 (by have := HIN.out.le1; have := HIN.out.le2; have := HIN.out.len; omega)
                    have HCN : Hid (∀ (W : World) (c7 : Nat → Nat) (tv7 : Value), PairAt w.heap.size c7 W pb sg rg pv wv tv7 (t.come x (t.s.againP x)) → (∀ k, k < w6.heap.size → c7 k = paint col wr w6 0 k) → Fr (fun k => paint col wr w6 0 k = 1 ∨ paint col wr w6 0 k = 3 ∨ paint col wr w6 0 k = 6) w6 W → Cme w.heap.size W3 c3 pb sg rg pv wv n (q + 1) t3 W) := by
                      intro W c7 tv7 g1 g2 g3
                      have z1 := HC.out.fr.size
                      have z2 := hb6'.size
                      refine ⟨⟨_, c7, tv7, g1, HIN.out.reCome HX'.out, HDR.out.come _ _, HES.out, HEW.out, HT.out, fun k hk => ?_⟩, ?_⟩
                      · rw [g2 k (by omega), paint_old (by omega)]
                        exact HCO.out k hk
                      · refine (HC.out.fr.then_below hb6').trans g3 (fun k hk => ?_)
                        by_cases hkl : k < W3.heap.size
                        · left
                          rw [paint_old (by omega)] at hk
                          rw [HCO.out k hkl] at hk
                          exact hk
                        · right; omega
                    clear hx6 hb6 hb6' HA HP HIN HDR HX' HCO HES HEW HT hcell e0
                    go_wp2_with fail
                    refine HTK.mono ?_
                    rintro e w7 ⟨⟨rv, rfl⟩, ⟨c7, tv7, hs7, hc7⟩, hF7⟩
                    have H7 : Hid (Cme w.heap.size W3 c3 pb sg rg pv wv n (q + 1) t3 w7) := HCN.out _ _ _ hs7 hc7 hF7
                    clear hs7 hc7 hF7 HTK HCN
                    go_wp2
                    go_roundw
                    case rel => exact ⟨q + 1, by go_num, by omega, H7⟩
                    case measure => simp [intOf]; omega
                  · obtain rfl : t3.s.unders.length = q := by omega
                    have hul2 : t3.s.unders.length = t3.s.under := by simp [Snd.unders, vals, win_length]
                    have HS := step_any w.heap.size col wr pb sg rg pv wv tv t hp hin (by omega) 4 0
                    have HD := Lib.hid (hdr.step 4 0)
                    have HF := Lib.hid (ack_facts hin (by rw [es]; intro h; have := HU1.out h; omega) (by have := HIN.out.und; rw [ew]; omega) 0)
                    have HL4 : Hid (t.s.ps.length ≤ 64 - k) := by rw [es]; exact HLE.out
                    have HB4 : Hid (Below w.heap.size w wr) := HB3.out.trans (fr_bl HC.out.fr (fun k hk => (HC3.out.2 k (by omega)).1) HC3.out.1)
                    clear hp hin hdr es ew hW hcol hul2
                    go_wp2_with fail
                    refine HS.mono ?_
                    rintro e w8 ⟨⟨rv, rfl⟩, ⟨c8, pv8, wv8, tv8, hp8⟩, hb8⟩
                    have H8 : Hid (Rnd w pb sg rg n (64 - (k + 1)) 0 w8) := by
                      obtain ⟨q1, q2⟩ := HF.out
                      have := HL4.out
                      exact ⟨⟨_, _, _, _, _, hp8, q1, HD.out, by omega, fun _ => Nat.zero_le _⟩, HB4.out.trans hb8⟩
                    clear hp8 hb8 HS
                    go_wp2
                    go_roundw
                    case rel => exact ⟨k + 1, by go_num, by omega, H8⟩
                    case measure => simp [intOf]; omega
          · have hps0 : t.s.ps = [] := List.length_eq_zero_iff.1 (by omega)
            obtain ⟨x1, x2⟩ := HIN.out.last hps0
            have hp := HP.out
            obtain ⟨e0, e1, e2, e3, e4⟩ := hp.cells
            have hpl : t.pushed.length ≤ 300 := HIN.out.len
            have hL1 := hp.told.lst (by rw [x1]; omega)
            have hL2 := hp.pushed.lst (by omega)
            rw [x1] at hL1
            obtain ⟨to, tc, rfl, _, _⟩ := hL1.form
            obtain ⟨po, pc, rfl, _, _⟩ := hL2.form
            have HLE := fun W : World => fun hb : Below wr.heap.size wr W => slen_any _ sg t.s W (hp.snd.below hb)
            have HSM := fun W : World => fun hb : Below wr.heap.size wr W => same03_eq _ _ t.pushed W (hL1.below hb) (hL2.below hb)
            have HKP := fun W : World => fun hb : Below wr.heap.size wr W => kept_none (hp.rcv.below hb) HIN.out.rok x2
            have HAW := awake8_any
            have hz0 : t.s.ps.length = 0 := by omega
            have HBL := Lib.hid HI.out.bl
            rw [hz0] at HLE
            simp only [hz0]
            clear HP HIN HDR HI hp hL1 hL2 HLn e3 x1 x2 hlen hps hps0
            go_wp2_with fail
            go_region_held3 (fun w' => (w'.cell? ⟨pb, 0, none⟩ = some (.pointer (some ⟨sg, 0, none⟩)) ∧ w'.cell? ⟨pb, 1, none⟩ = some (.pointer (some ⟨rg, 0, none⟩)) ∧ w'.cell? ⟨pb, 2, none⟩ = some (.slice po t.pushed.length pc) ∧ w'.cell? ⟨pb, 4, none⟩ = some (.slice to t.pushed.length tc)) ∧ Below wr.heap.size wr w')
              (first | exact ⟨⟨e0, e1, e2, e4⟩, bl_drew (bl_refl _)⟩ | assumption | exact ⟨⟨below_cell hbN e0, below_cell hbN e1, below_cell hbN e2, below_cell hbN e4⟩, hbN⟩)
              (first | (go_at_call 19; refine (HLE _ (And.right (by assumption))).mono ?_; rintro e w9 ⟨rfl, rfl⟩) | (go_at_call 23; refine (HSM _ (And.right (by assumption))).mono ?_; rintro e w9 ⟨rfl, hb9⟩; have hbN := bl_trans (And.right (by assumption)) hb9; clear hb9) | (go_at_call 15; refine (HKP _ (And.right (by assumption))).mono ?_; rintro e w9 ⟨uo, uc, rfl, hb9⟩; have hbN := bl_trans (And.right (by assumption)) hb9; clear hb9) | (go_at_call 8; refine (HAW _).mono ?_; rintro e w9 ⟨rfl, hb9⟩; have hbN := bl_trans (And.right (by assumption)) hb9; clear hb9))
            have hE9 : Below w.heap.size w w9 := HBL.out.trans (Below.mono (And.right (by assumption : (w9.cell? ⟨pb, 0, none⟩ = _ ∧ _ ∧ _ ∧ _) ∧ Below wr.heap.size wr w9)) HBL.out.size)
            go_wp2
            go_ret
            exact ⟨rfl, hE9⟩
      · go_wp2_with fail
        go_loopw [7] (fun kv wr => ∃ k : Nat, kv = .int .i64 k ∧ k ≤ 64 ∧ Hid (Rnd w pb sg rg n (64 - k) 0 wr)) (fun kv _ => 64 - (intOf kv).toNat)
        case atStart => exact ⟨0, rfl, by omega, H0⟩
        case round =>
          clear H0
          obtain ⟨k, rfl, hk, HI⟩ := hrel
          obtain ⟨t, col, pv, wv, tv, hp, hin, hdr, hlen, _⟩ := HI.out.ex
          have e0 := hp.cells.1
          have HLn := slen_any _ sg t.s wr hp.snd
          have g1 : (k : Int) ≤ 64 := by omega
          have HP := Lib.hid hp
          have HIN := Lib.hid hin
          have HDR := Lib.hid hdr
          clear hp hin hdr
          go_wp2_with fail
          refine HLn.mono ?_
          rintro e w2 ⟨rfl, rfl⟩
          by_cases hps : 0 < t.s.ps.length
          · have g2 : (0 : Int) < (t.s.ps.length : Int) := by omega
            have HR : Hid (Rnd w pb sg rg n (64 - k) 0 wr) := HI
            have hk2 : k < 64 := by omega
            clear HP HIN HDR HLn e0 HI hlen
            go_wp2_with fail
            go_loopw [8] (fun jv wr => ∃ j : Nat, jv = .int .i64 j ∧ j ≤ n ∧ Hid (Rnd w pb sg rg n (64 - k) (min j 1) wr)) (fun jv _ => n - (intOf jv).toNat)
            case atStart => exact ⟨0, rfl, by omega, HR⟩
            case round =>
              clear HR
              obtain ⟨j, rfl, hj, HJ⟩ := hrel
              by_cases hjn : j < n
              · obtain ⟨t, col, pv, wv, tv, hp, hin, hdr, hlen, hu⟩ := HJ.out.ex
                have HS := step_any w.heap.size col wr pb sg rg pv wv tv t hp hin (by omega) 1 0
                have g3 : (j : Int) < (n : Int) := by omega
                have g4 : (j : Int) < 64 := by omega
                have HF := Lib.hid (send_facts hin 0)
                have HD := Lib.hid (hdr.step 1 0)
                clear hp hin hdr hu
                go_wp2_with fail
                refine HS.mono ?_
                rintro e w4 ⟨⟨rv, rfl⟩, ⟨c4, pv4, wv4, tv4, hp4⟩, hb4⟩
                have H4 : Hid (Rnd w pb sg rg n (64 - k) (min (j + 1) 1) w4) := by
                  obtain ⟨q1, q2, q3⟩ := HF.out
                  exact ⟨⟨_, _, _, _, _, hp4, q1, HD.out, by rw [q2]; exact hlen, fun h => by rw [q2] at h; have := q3 h; omega⟩, HJ.out.bl.trans hb4⟩
                clear hp4 hb4 HS hlen
                go_wp2
                go_roundw
                case rel => exact ⟨j + 1, by go_num, by omega, H4⟩
                case measure => simp [intOf]; omega
              · obtain rfl : n = j := by omega
                obtain ⟨t3, col, pv, wv, tv, hp, hin, hdr, hlen, hu⟩ := HJ.out.ex
                have hbw := Lib.hid HJ.out.bl
                have e0 := hp.cells.1
                have HU := sunder_any _ sg t3.s hin.sok wr hp.snd
                have HP := Lib.hid hp
                have HIN := Lib.hid hin
                have HDR := Lib.hid hdr
                have HU1 := Lib.hid hu
                have HLE := Lib.hid hlen
                clear hp hin hdr hu HJ hlen
                go_wp2_with fail
                refine HU.mono ?_
                rintro e W3 ⟨u, rfl, hu3, hb3⟩
                obtain ⟨uo, uc, rfl⟩ : ∃ uo uc, u = .slice uo t3.s.unders.length uc := by
                  obtain ⟨⟨_, ao, cap, h, _⟩, _⟩ := hu3
                  exact ⟨ao, cap, h⟩
                have hp3 := HP.out.skip (n := 0) hb3
                have HUC : Hid (∀ (q : Nat) (x : Int), t3.s.unders[q]? = some x → ∃ b o, uo = some ⟨b, o, none⟩ ∧ paint col wr W3 0 b = 0 ∧ W3.cell? ⟨b, o + q, none⟩ = some (.int .i64 x)) := by
                  intro q x hx
                  obtain ⟨⟨_, ao, cap, hv, _, hc⟩, hF⟩ := hu3
                  cases hv
                  obtain ⟨b, o, rfl, hcell⟩ := hc q x hx
                  exact ⟨b, o, rfl, paint_new (hF b rfl) (cell_lt hcell), hcell⟩
                have hul := unders_le HIN.out.sok
                have HB3 : Hid (Below w.heap.size w W3) := hbw.out.trans (hb3.mono hbw.out.size)
                generalize paint col wr W3 0 = c3 at hp3 HUC
                have H3 : Hid (Cme w.heap.size W3 c3 pb sg rg pv wv n 0 t3 W3) := ⟨⟨t3, c3, tv, hp3, HIN.out, HDR.out, rfl, rfl, HIN.out.ackd, fun _ _ => rfl⟩, Fr.refl _ _⟩
                have HC3 : Hid (Cols w.heap.size c3 W3) := hp3.cols
                clear hu3 hb3 hp3 HU HP HDR hbw e0
                go_wp2_with fail
                go_loopw [10] (fun jv wr => ∃ j : Nat, jv = .int .i64 j ∧ j ≤ t3.s.unders.length ∧ Hid (Cme w.heap.size W3 c3 pb sg rg pv wv n j t3 wr)) (fun jv _ => 64 - (intOf jv).toNat)
                case atStart => exact ⟨0, rfl, by omega, H3⟩
                case round =>
                  clear H3
                  obtain ⟨q, rfl, hq, HC⟩ := hrel
                  obtain ⟨t, col, tv, hp, hin, hdr, es, ew, hW, hcol⟩ := HC.out.ex
                  by_cases hqn : q < t3.s.unders.length
                  · obtain ⟨x, hx⟩ := get_some hqn
                    obtain ⟨b, o, rfl, hb0, hcell⟩ := HUC.out q x hx
                    have hbl := cell_lt hcell
                    replace hcell := HC.out.fr.cell hcell (by omega)
                    have hx' : t.s.unders[q]? = some x := by rw [es]; exact hx
                    have hE := (hin.re hx').2.2.1
                    have HA := fun W : World => fun hb : Below wr.heap.size wr W => sagain_any _ sg t.s hin.sok x W (hp.snd.below hb)
                    have e0 := hp.cells.1
                    have g5 : (0 : Int) ≤ (q : Int) := by omega
                    have g6 : (q : Int) < (t3.s.unders.length : Int) := by omega
                    have g7 : (t3.s.unders.length : Int) ≤ 63 := by omega
                    rw [hE] at HA
                    have HP := Lib.hid hp
                    have HIN := Lib.hid hin
                    have HDR := Lib.hid hdr
                    have HT : Hid (t3.way.length - t3.s.under + (q + 1) ≤ (t.come x (t.s.againP x)).told.length) := by
                      have g4 := tells_ge hin hdr hx' (by rw [es, ew]; exact hW)
                      have g5 : t.s.under = t3.s.under := by rw [es]
                      rw [ew, g5] at g4
                      exact g4
                    have HX' := Lib.hid hx'
                    have HCO := Lib.hid hcol
                    have HES := Lib.hid es
                    have HEW := Lib.hid ew
                    clear hp hin hdr hx hx' hcol es ew hW hE
                    go_wp2_with fail
                    go_region_held3 (fun w' => w'.cell? ⟨pb, 0, none⟩ = some (.pointer (some ⟨sg, 0, none⟩)) ∧ w'.cell? ⟨b, o + q, none⟩ = some (.int .i64 x))
                      (first | exact ⟨e0, hcell⟩ | exact ⟨below_cell (bl_trans (bl_drew (bl_refl _)) hb6) e0, below_cell (bl_trans (bl_drew (bl_refl _)) hb6) hcell⟩)
                      (first | (go_at_call 21; refine (HA _ (by first | assumption | exact bl_drew (bl_refl _))).mono ?_; rintro e w6 ⟨u, rfl, hx6, hb6⟩))
                    obtain ⟨xo, xc, rfl⟩ : ∃ xo xc, u = .slice xo (t.s.againP x).length xc := by
                      obtain ⟨⟨⟨_, ao, cap, h, _⟩, _⟩, _⟩ := hx6
                      exact ⟨ao, cap, h⟩
                    have hb6' : Below wr.heap.size wr w6 := bl_trans (bl_drew (bl_refl _)) hb6
                    have hcell6 := below_cell hb6' hcell
                    have HTK := comes_any w.heap.size _ w6 pb sg rg _ _ _ t (HP.out.skip (n := 0) hb6') HIN.out.rok 0 x _ (t.s.againP x) hx6.1.1 hx6.2 (by have := HIN.out.le1; have := HIN.out.le2; have := HIN.out.len; omega)
                    have HCN : Hid (∀ (W : World) (c7 : Nat → Nat) (tv7 : Value), PairAt w.heap.size c7 W pb sg rg pv wv tv7 (t.come x (t.s.againP x)) → (∀ k, k < w6.heap.size → c7 k = paint col wr w6 0 k) → Fr (fun k => paint col wr w6 0 k = 1 ∨ paint col wr w6 0 k = 3 ∨ paint col wr w6 0 k = 6) w6 W → Cme w.heap.size W3 c3 pb sg rg pv wv n (q + 1) t3 W) := by
                      intro W c7 tv7 g1 g2 g3
                      have z1 := HC.out.fr.size
                      have z2 := hb6'.size
                      refine ⟨⟨_, c7, tv7, g1, HIN.out.reCome HX'.out, HDR.out.come _ _, HES.out, HEW.out, HT.out, fun k hk => ?_⟩, ?_⟩
                      · rw [g2 k (by omega), paint_old (by omega)]
                        exact HCO.out k hk
                      · refine (HC.out.fr.then_below hb6').trans g3 (fun k hk => ?_)
                        by_cases hkl : k < W3.heap.size
                        · left
                          rw [paint_old (by omega)] at hk
                          rw [HCO.out k hkl] at hk
                          exact hk
                        · right; omega
                    clear hx6 hb6 hb6' HA HP HIN HDR HX' HCO HES HEW HT hcell e0
                    go_wp2_with fail
                    refine HTK.mono ?_
                    rintro e w7 ⟨⟨rv, rfl⟩, ⟨c7, tv7, hs7, hc7⟩, hF7⟩
                    have H7 : Hid (Cme w.heap.size W3 c3 pb sg rg pv wv n (q + 1) t3 w7) := HCN.out _ _ _ hs7 hc7 hF7
                    clear hs7 hc7 hF7 HTK HCN
                    go_wp2
                    go_roundw
                    case rel => exact ⟨q + 1, by go_num, by omega, H7⟩
                    case measure => simp [intOf]; omega
                  · obtain rfl : t3.s.unders.length = q := by omega
                    have hul2 : t3.s.unders.length = t3.s.under := by simp [Snd.unders, vals, win_length]
                    have HS := step_any w.heap.size col wr pb sg rg pv wv tv t hp hin (by omega) 4 0
                    have HD := Lib.hid (hdr.step 4 0)
                    have HF := Lib.hid (ack_facts hin (by rw [es]; intro h; have := HU1.out h; omega) (by have := HIN.out.und; rw [ew]; omega) 0)
                    have HL4 : Hid (t.s.ps.length ≤ 64 - k) := by rw [es]; exact HLE.out
                    have HB4 : Hid (Below w.heap.size w wr) := HB3.out.trans (fr_bl HC.out.fr (fun k hk => (HC3.out.2 k (by omega)).1) HC3.out.1)
                    clear hp hin hdr es ew hW hcol hul2
                    go_wp2_with fail
                    refine HS.mono ?_
                    rintro e w8 ⟨⟨rv, rfl⟩, ⟨c8, pv8, wv8, tv8, hp8⟩, hb8⟩
                    have H8 : Hid (Rnd w pb sg rg n (64 - (k + 1)) 0 w8) := by
                      obtain ⟨q1, q2⟩ := HF.out
                      have := HL4.out
                      exact ⟨⟨_, _, _, _, _, hp8, q1, HD.out, by omega, fun _ => Nat.zero_le _⟩, HB4.out.trans hb8⟩
                    clear hp8 hb8 HS
                    go_wp2
                    go_roundw
                    case rel => exact ⟨k + 1, by go_num, by omega, H8⟩
                    case measure => simp [intOf]; omega
          · have hps0 : t.s.ps = [] := List.length_eq_zero_iff.1 (by omega)
            obtain ⟨x1, x2⟩ := HIN.out.last hps0
            have hp := HP.out
            obtain ⟨e0, e1, e2, e3, e4⟩ := hp.cells
            have hpl : t.pushed.length ≤ 300 := HIN.out.len
            have hL1 := hp.told.lst (by rw [x1]; omega)
            have hL2 := hp.pushed.lst (by omega)
            rw [x1] at hL1
            obtain ⟨to, tc, rfl, _, _⟩ := hL1.form
            obtain ⟨po, pc, rfl, _, _⟩ := hL2.form
            have HLE := fun W : World => fun hb : Below wr.heap.size wr W => slen_any _ sg t.s W (hp.snd.below hb)
            have HSM := fun W : World => fun hb : Below wr.heap.size wr W => same03_eq _ _ t.pushed W (hL1.below hb) (hL2.below hb)
            have HKP := fun W : World => fun hb : Below wr.heap.size wr W => kept_none (hp.rcv.below hb) HIN.out.rok x2
            have HAW := awake8_any
            have hz0 : t.s.ps.length = 0 := by omega
            have HBL := Lib.hid HI.out.bl
            rw [hz0] at HLE
            simp only [hz0]
            clear HP HIN HDR HI hp hL1 hL2 HLn e3 x1 x2 hlen hps hps0
            go_wp2_with fail
            go_region_held3 (fun w' => (w'.cell? ⟨pb, 0, none⟩ = some (.pointer (some ⟨sg, 0, none⟩)) ∧ w'.cell? ⟨pb, 1, none⟩ = some (.pointer (some ⟨rg, 0, none⟩)) ∧ w'.cell? ⟨pb, 2, none⟩ = some (.slice po t.pushed.length pc) ∧ w'.cell? ⟨pb, 4, none⟩ = some (.slice to t.pushed.length tc)) ∧ Below wr.heap.size wr w')
              (first | exact ⟨⟨e0, e1, e2, e4⟩, bl_drew (bl_refl _)⟩ | assumption | exact ⟨⟨below_cell hbN e0, below_cell hbN e1, below_cell hbN e2, below_cell hbN e4⟩, hbN⟩)
              (first | (go_at_call 19; refine (HLE _ (And.right (by assumption))).mono ?_; rintro e w9 ⟨rfl, rfl⟩) | (go_at_call 23; refine (HSM _ (And.right (by assumption))).mono ?_; rintro e w9 ⟨rfl, hb9⟩; have hbN := bl_trans (And.right (by assumption)) hb9; clear hb9) | (go_at_call 15; refine (HKP _ (And.right (by assumption))).mono ?_; rintro e w9 ⟨uo, uc, rfl, hb9⟩; have hbN := bl_trans (And.right (by assumption)) hb9; clear hb9) | (go_at_call 8; refine (HAW _).mono ?_; rintro e w9 ⟨rfl, hb9⟩; have hbN := bl_trans (And.right (by assumption)) hb9; clear hb9))
            have hE9 : Below w.heap.size w w9 := HBL.out.trans (Below.mono (And.right (by assumption : (w9.cell? ⟨pb, 0, none⟩ = _ ∧ _ ∧ _ ∧ _) ∧ Below wr.heap.size wr w9)) HBL.out.size)
            go_wp2
            go_ret
            exact ⟨rfl, hE9⟩

set_option maxRecDepth 100000 in
set_option maxHeartbeats 1000000 in
theorem all_bad (n : Int) (v : Value) (h : n < 1 ∨ 63 < n) (w : World) :
    Calls Try.prog 6 #[.int .i64 n, v] w fun e w' => e = .returned (.bool true) ∧ Below w.heap.size w w' := by
  have HN := Lib.hid (begin_bad n h w)
  have HA := Lib.hid (awake8_any w)
  rcases h with h | h
  · go_enter Try.func6, Try.ntmps6
    go_wp2_with fail
    refine HN.out.mono ?_
    rintro e w1 ⟨rfl, rfl⟩
    go_wp2_with fail
    refine HA.out.mono ?_
    rintro e w3 ⟨rfl, hb3⟩
    go_wp2
    go_ret
    exact ⟨rfl, hb3⟩
  · have h1 : ¬ n < 1 := by omega
    go_enter Try.func6, Try.ntmps6
    go_wp2_with fail
    refine HN.out.mono ?_
    rintro e w1 ⟨rfl, rfl⟩
    go_wp2_with fail
    refine HA.out.mono ?_
    rintro e w3 ⟨rfl, hb3⟩
    go_wp2
    go_ret
    exact ⟨rfl, hb3⟩

theorem walkRecvAll (n : Int) (_ : (Lit.int .i64 n).wf = true) (v : Value) (l : List (Int × Int)) {w : World} (hl : WaysAt w.heap.size w v l) :
    Calls Try.prog 6 #[.int .i64 n, v] w fun e w' => e = .returned (.bool true) ∧ Below w.heap.size w w' := by
  by_cases h : n < 1 ∨ 63 < n
  · exact all_bad n v h w
  · obtain ⟨m, rfl⟩ : ∃ m : Nat, n = m := ⟨n.toNat, by omega⟩
    exact all_ok m (by omega) (by omega) v l w hl

end Go.Proofs.Ytagbaoakablfpaa
