/- portageref09.send. portageref08: Reset, Forget, place, Numbers, Missing, Check. portageref09.setup, reset, anew, data, answer, heard, known. Conditions: as they stand. -/
import Derived.Test.YthmdibagcbbgoaaGreatM33
import Derived.BigQuiet
import Derived.Deep.RegionHeld3
namespace Go.Proofs.YthmdibagcbbgoaaGreat
open Go.RowKit

set_option maxRecDepth 100000 in
set_option maxHeartbeats 4000000 in
theorem r9send_any (C : Nat → Prop) (w : World) (sl rl ra ov iv : Value) (t : Lk) (h : RfAt C w sl rl ra ov iv t) (c : Cn) (x : Value) (hx : Byt (Live C w) w x c.data) (hm : t.out.length ≤ 1000000) :
    Calls Tryz.prog 40 #[.agg (t.ref sl rl ra ov iv), .agg #[.int .i64 c.kind, .int .i64 c.ns, .int .i64 c.nr, .bool c.p, .int .i64 c.me, .int .i64 c.peer, x]] w fun e w' => Rf9 C w (t.send c) e w' := by
  obtain ⟨i1, gi, gz0, gz1, gz2⟩ := info_parts (infoCtl)
  obtain ⟨xo, xc, rfl⟩ : ∃ xo xc, x = .slice xo c.data.length xc := by
    obtain ⟨⟨⟨_, ao, cap, h, _⟩, _⟩, _⟩ := hx
    exact ⟨ao, cap, h⟩
  obtain ⟨oo, oc, rfl⟩ : ∃ oo oc, ov = .slice oo t.out.length oc := by
    obtain ⟨oo, oc, e, _⟩ := h.out.form
    exact ⟨oo, oc, e⟩
  obtain ⟨W, hW, hB, hc⟩ := h.boxes3 (c.agg (.slice xo c.data.length xc))
  have hW' : ((w.alloc (.cells (t.ref sl rl ra (.slice oo t.out.length oc) iv) 38)).alloc (.cells #[.int .i64 c.kind, .int .i64 c.ns, .int .i64 c.nr, .bool c.p, .int .i64 c.me, .int .i64 c.peer, .slice xo c.data.length xc] 46)).alloc (.cells #[.int .i64 0, .int .i64 0, .bool false, .int .i64 0, .int .i64 0, .int .i64 0, .int .i64 0, .int .i64 0, .bool false, .bool false, .int .i64 0, .int .i64 0, .slice none 0 0, .int .i64 0, .int .i64 0, .int .i64 0, .slice none 0 0, .slice none 0 0, .slice none 0 0, .slice none 0 0] 38) = W := hW
  have d0 : W.cell? ⟨w.heap.size, 0, none⟩ = some (.int .i64 t.me) := hB.cell 0 rfl
  have d4 : W.cell? ⟨w.heap.size + 1, 4, none⟩ = some (.int .i64 c.me) := by rw [cell_of_row _ _ _ _ _ _ hc]; rfl
  have z4 : W.frozen? ⟨w.heap.size + 1, 4, none⟩ = false := rc_frozen hc
  -- the control, its me put
  obtain ⟨W1, hW1⟩ : ∃ W1, W.setCell ⟨w.heap.size + 1, 4, none⟩ (.int .i64 t.me) = W1 := ⟨_, rfl⟩
  have hc1 : W1.heap[w.heap.size + 1]? = some (.cells (({ c with me := t.me } : Cn).agg (.slice xo c.data.length xc)) 46 (0, 0)) := hW1 ▸ rc_set W (w.heap.size + 1) 4 _ _ (.int .i64 t.me) hc
  have hf1 : Fr (fun k => k = w.heap.size + 1) W W1 := hW1 ▸ fr_cell W (w.heap.size + 1) 4 (.int .i64 t.me)
  have hbw1 : Below w.heap.size w W1 := bl_fr hB.bl hf1 fun k hk => by omega
  have hB1 : Bx C w W1 w.heap.size (w.heap.size + 1 + 1) sl rl ra (.slice oo t.out.length oc) iv t := by
    obtain ⟨cs, q1, q2⟩ := hB.bz
    have r1 := hf1.get hB.ba (by omega)
    have r2 := hf1.get q2 (by omega)
    have l1 := lt_of_get r1
    have l2 := lt_of_get r2
    exact ⟨h.keep hbw1 fun k hk => by
      rcases hk with hk | rfl | rfl
      · exact .inl hk
      · exact .inr ⟨Nat.le_refl _, l1⟩
      · exact .inr ⟨by omega, l2⟩, r1, ⟨cs, q1, r2⟩, hB.ha, hB.hz, hB.ne, hbw1⟩
  have hx1 : Byt (Live (fun k => C k ∨ k = w.heap.size ∨ k = w.heap.size + 1 + 1) W1) W1 (.slice xo c.data.length xc) c.data := (hx.below hbw1).mono fun k hk => ⟨Nat.lt_of_lt_of_le hk.1 hbw1.size, fun g => by
    rcases g with g | g | g
    · exact hk.2 g
    · have := hk.1; omega
    · have := hk.1; omega⟩
  have hlim := hB1.rf.lim
  have hout := hB1.rf.out
  obtain ⟨F, hF⟩ : ∃ F, Live (fun k => C k ∨ k = w.heap.size ∨ k = w.heap.size + 1 + 1) W1 = F := ⟨_, rfl⟩
  have hFlt : ∀ k, F k → k < W1.heap.size := fun k hk => by rw [← hF] at hk; exact hk.1
  rw [hF] at hx1 hout
  clear hB hc hf1 hW
  -- the row is copied
  have hba := bl_alloc (bl_refl W1) (.cells #[] 46)
  obtain ⟨v2, W2, hrun2, hO2, hg2, hn2⟩ := run_append_els (P := Tryz.prog) (W1.alloc (.cells #[] 46)) W1.heap.size 36 36 46 i1 _ 72 Tryz.underlying36 gi gz0 gz1 gz2 rfl
    (ownEls_empty kCtl F W1 (base := W1.heap.size) 46 (Nat.le_refl _)) (ElsX.below hout hba) (fun k hk g => by cases hk; exact Nat.lt_irrefl _ (hFlt _ g)) (by simp [maxLen]; omega) (by simp; omega) hba.size
  rw [List.nil_append] at hO2
  obtain ⟨o2, c2, rfl⟩ := hO2.form
  have hb2 : Below W1.heap.size W1 W2 := bl_grown hba hg2 fun k hk => by cases hk; exact Nat.le_refl _
  have hc2 := bl_get hb2 hc1
  have d18 : (W1.alloc (.cells #[] 46)).cell? ⟨w.heap.size, 18, none⟩ = some (.slice oo t.out.length oc) := below_cell hba (hB1.cell 18 rfl)
  -- the control is put behind it
  obtain ⟨W3, hW3⟩ : ∃ W3, W2.alloc (.cells #[.int .i64 c.kind, .int .i64 c.ns, .int .i64 c.nr, .bool c.p, .int .i64 t.me, .int .i64 c.peer, .slice xo c.data.length xc] 46) = W3 := ⟨_, rfl⟩
  have hg3 : W3.heap[W2.heap.size]? = some (.cells (({ c with me := t.me } : Cn).agg (.slice xo c.data.length xc)) 46 (0, 0)) := hW3 ▸ heap_alloc_new W2 _
  have hb3 : Below W2.heap.size W2 W3 := hW3 ▸ bl_alloc (bl_refl W2) _
  have hb13 := bl_trans hb2 hb3
  obtain ⟨v4, W4, hrun4, hO4, hg4, hn4⟩ := run_append_els (P := Tryz.prog) (m := [({ c with me := t.me } : Cn)]) W3 W1.heap.size 36 36 46 i1 _ 72 Tryz.underlying36 gi gz0 gz1 gz2 rfl
    (hO2.below hb3) (elsX_one (K := kCtl) (c := ({ c with me := t.me } : Cn)) hg3 ((hx1.below hb2).below hb3)) (fun k hk g => by have := (hO2.lt k hk).1; have := hFlt _ g; omega) (by simp [maxLen]; omega) (by simp; omega) hb13.size
  obtain ⟨o4, c4, hv4⟩ := hO4.form
  rw [show (t.out ++ [({ c with me := t.me } : Cn)]).length = t.out.length + 1 by simp] at hv4
  have hb4 : Below W1.heap.size W1 W4 := bl_grown hb13 hg4 fun k hk => (hO2.lt k hk).1
  have hB4 := hB1.below hb4
  have z18 := hB4.frozen 18
  have d18' : W4.cell? ⟨w.heap.size, 18, none⟩ = some (.slice oo t.out.length oc) := hB4.cell 18 rfl
  have hB5 := hB4.put (t' := t.send c) (ov' := v4) 18 v4 rfl ⟨hB4.rf.lim, hB4.rf.snd, hB4.rf.kept, hB4.rf.asked, by
    refine ElsX.mono (hO4.els (by rw [List.length_append]; simp [maxLen]; omega)) (fun k hk => ?_) (fun k hk => ?_) <;>
    · rcases hk with hk | hk
      · rw [← hF] at hk
        exact hk.grow hb4.size
      · exact ⟨hk.2, fun g => by have := hlim k g; omega⟩, hB4.rf.inn⟩
  subst hv4
  obtain ⟨W5, hW5⟩ : ∃ W5, W4.setCell ⟨w.heap.size, 18, none⟩ (.slice o4 (t.out.length + 1) c4) = W5 := ⟨_, rfl⟩
  rw [hW5] at hB5
  have HB5 := Lib.hid hB5
  obtain ⟨cs, hcs, hz5⟩ := hB5.bz
  have HBA := Lib.hid hB5.ba
  have HBZ := Lib.hid hz5
  have HONE := Lib.hid hB5.rf.one
  have HR2 := Lib.hid hrun2
  have HR4 := Lib.hid hrun4
  have HC2 : Hid (W2.heap[w.heap.size + 1]? = some (.cells #[.int .i64 c.kind, .int .i64 c.ns, .int .i64 c.nr, .bool c.p, .int .i64 t.me, .int .i64 c.peer, .slice xo c.data.length xc] 46 (0, 0))) := hc2
  have HC5 := Lib.hid hcs
  clear hB5 hB4 hB1 hx hx1 hout h hO2 hO4 hrun2 hrun4 hg2 hg4 hn2 hn4 hba hb2 hb3 hb13 hb4 hg3 hc1 hc2 hlim hF hFlt hbw1 hz5 hcs
  go_enter Tryz.func40, Tryz.ntmps40
  go_wp2_with (first | simp only [hW'] | simp only [hW1] | (at_builtin; refine wpList_append_run rfl (.tmp 9) (.tmp 11) 36 rfl rfl rfl HR2.out ?_) | (with_reducible show wpList _ _ _ (⟨_, .load 46 (.tmp 3), _, _, _, none⟩ :: _) _ _; refine RowKit.Hid.out ?_))
  refine Lib.hid ?_
  refine wpList_load_row rfl 46 (.tmp 3) rfl _ rfl _ _ (0, 0) _ HC2.out Tryz.underlying46 rfl infoC7 ?_
  go_wp2_with (first | (at_builtin; refine wpList_append_run rfl (.tmp 13) (.tmp 15) 36 rfl rfl rfl HR4.out ?_) | (with_reducible show wpList _ _ _ (⟨_, .load 38 (.tmp 2), _, _, _, none⟩ :: _) _ _; refine RowKit.Hid.out ?_))
  refine Lib.hid ?_
  refine wpList_load_row rfl 38 (.tmp 2) rfl _ rfl _ _ (0, 0) _ HBA.out Tryz.underlying38 rfl infoL9 ?_
  go_wp2_with ((with_reducible show wpList _ _ _ (⟨_, .store 38 (.tmp 4) (.tmp 18), _, _, _, none⟩ :: _) _ _; refine RowKit.Hid.out ?_))
  refine Lib.hid ?_
  refine wpList_store_row rfl 38 (.tmp 4) (.tmp 18) rfl _ _ rfl rfl _ _ HBZ.out infoL9 HC5.out HONE.out ?_
  go_wp2_with fail
  obtain ⟨hret, hrow⟩ := HB5.out.ret
  refine bodyPost_ret (results_cell_row rfl _ _ (w.heap.size + 1 + 1) 38 _ (0, 0) _ rfl hrow Tryz.underlying38 rfl infoL9) rfl ?_
  exact hret

end Go.Proofs.YthmdibagcbbgoaaGreat

namespace Go.Proofs.YthmdibagcbbgoaaGreat
open Go.RowKit

def refR (r : Rcv) (rl ra : Value) : Value := .agg #[.int .i64 r.size, .int .i64 r.waits, rl, ra]

set_option maxRecDepth 100000 in
theorem r8reset_any (r : Rcv) (rl ra : Value) (w : World) :
    Calls Tryz.prog 87 #[refR r rl ra] w fun e w' => e = .returned (refR ⟨r.size, 0, [], []⟩ (.slice none 0 0) (.slice none 0 0)) ∧ Below w.heap.size w w' := by
  unfold refR
  go_enter Tryz.func87, Tryz.ntmps87
  go_wp2
  go_returns
  exact ⟨rfl, bl_alloc (bl_alloc (bl_refl w) _) _⟩

set_option maxRecDepth 100000 in
theorem r8forget_any (r : Rcv) (lo : Option Addr) (ln lc : Nat) (ra : Value) (w : World) :
    Calls Tryz.prog 91 #[refR r (.slice lo ln lc) ra] w fun e w' => e = .returned (refR { r with asked := [] } (.slice lo ln lc) (.slice none 0 0)) ∧ Below w.heap.size w w' := by
  unfold refR
  go_enter Tryz.func91, Tryz.ntmps91
  go_wp2
  go_returns
  exact ⟨rfl, bl_alloc (bl_alloc (bl_refl w) _) _⟩

/-- The place of a kept number; -1: it is not kept. -/
def placeN (l : List (Int × List Int)) (n : Int) : Int := match pos l n with | none => -1 | some y => (y.1 : Int)
theorem pos_first {α : Type} : ∀ (l : List (Int × α)) (n : Int) (i : Nat) (c : Int × α), l[i]? = some c → c.1 = n → (∀ (j : Nat) (d : Int × α), j < i → l[j]? = some d → d.1 ≠ n) → pos l n = some (i, c.2)
  | [], n, i, c, h, _, _ => by simp at h
  | x :: l, n, 0, c, h, he, _ => by
    simp at h
    subst h
    unfold pos
    rw [if_pos he.symm]
  | x :: l, n, i + 1, c, h, he, hn => by
    have h0 := hn 0 x (by omega) rfl
    unfold pos
    rw [if_neg (fun e => h0 e.symm), pos_first l n i c (by simpa using h) he fun j d hj hd => hn (j + 1) d (by omega) (by simpa using hd)]
    rfl
theorem pos_nowhere {α : Type} : ∀ (l : List (Int × α)) (n : Int), (∀ (j : Nat) (d : Int × α), l[j]? = some d → d.1 ≠ n) → pos l n = none
  | [], n, _ => rfl
  | x :: l, n, hn => by
    have h0 := hn 0 x rfl
    unfold pos
    rw [if_neg (fun e => h0 e.symm), pos_nowhere l n fun j d hd => hn (j + 1) d (by simpa using hd)]
    rfl

set_option maxRecDepth 100000 in
set_option maxHeartbeats 1000000 in
theorem r8place_any (F : Nat → Prop) (v : Value) (l : List (Int × List Int)) (n : Int) (w : World) (h : Els kKept F w v l) :
    Calls Tryz.prog 98 #[v, .int .i64 n] w fun e w' => e = .returned (.int .i64 (placeN l n)) ∧ w = w' := by
  obtain ⟨ao, cap, rfl, hlc, hm⟩ := h.form
  simp only [maxLen] at hm
  have HL := Lib.hid h
  clear h
  go_enter Tryz.func98, Tryz.ntmps98
  go_wp2_with fail
  go_loopw [5] (fun iv wr => ∃ i : Nat, iv = .int .i64 i ∧ i ≤ l.length ∧ Hid (∀ (j : Nat) (d : Int × List Int), j < i → l[j]? = some d → d.1 ≠ n) ∧ w = wr) (fun iv _ => l.length - (intOf iv).toNat)
  case atStart => exact ⟨0, rfl, by omega, Lib.hid fun j d hj => by omega, rfl⟩
  case round =>
    obtain ⟨i, rfl, hi, HN, rfl⟩ := hrel
    by_cases hlt : i < l.length
    · obtain ⟨c, hc⟩ := get_some hlt
      obtain ⟨b, o, x, rfl, _, hcell, _⟩ := HL.out.at_ hc
      have c0 : w.cell? ⟨b, o + (i * 2 + 0), none⟩ = some (.int .i64 c.1) := hcell 0 _ rfl
      rw [Nat.add_zero] at c0
      have f0 : (0 : Int) ≤ (i : Int) := by omega
      have f1 : (i : Int) < (l.length : Int) := by omega
      clear hcell
      by_cases he : c.1 = n
      · have hp : Hid ((i : Int) = placeN l n) := by unfold Hid placeN; rw [pos_first l n i c hc he HN.out]
        rw [he] at c0
        clear HN hc he
        go_wp2
        go_ret
        exact ⟨by rw [hp.out]; rfl, rfl⟩
      · have HN' : Hid (∀ (j : Nat) (d : Int × List Int), j < i + 1 → l[j]? = some d → d.1 ≠ n) := fun j d hj hd => by
          by_cases e : j = i
          · subst e; rw [hc] at hd; cases hd; exact he
          · exact HN.out j d (by omega) hd
        clear HN hc
        go_wp2
        go_roundw
        case rel => exact ⟨i + 1, by go_num, by omega, HN', trivial⟩
        case measure => simp [intOf]; omega
    · obtain rfl : i = l.length := by omega
      have hp : Hid ((-1 : Int) = placeN l n) := by
        unfold Hid placeN
        rw [pos_nowhere l n fun j d hd => HN.out j d (List.getElem?_eq_some_iff.1 hd).1 hd]
      clear HN hlt
      go_wp2
      go_ret
      exact ⟨by rw [hp.out]; rfl, rfl⟩

end Go.Proofs.YthmdibagcbbgoaaGreat

namespace Go.Proofs.YthmdibagcbbgoaaGreat
open Go.RowKit

set_option maxRecDepth 100000 in
set_option maxHeartbeats 4000000 in
theorem r9setup_any (C : Nat → Prop) (w : World) (sl rl ra ov iv : Value) (t : Lk) (h : RfAt C w sl rl ra ov iv t) (poll : Bool) (hm : t.out.length ≤ 900000) :
    Calls Tryz.prog 25 #[.agg (t.ref sl rl ra ov iv), .bool poll] w fun e w' => Rf9 C w (t.setup poll) e w' := by
  obtain ⟨W0, hW0, hB0⟩ := h.boxes
  have B0 := Lib.hid hB0
  have A0 := Lib.hid hB0.ba
  have HS := r9send_any _ W0 _ _ _ _ _ _ hB0.rf ⟨5, 0, 0, poll, 0, 0, []⟩ _ (byt_nil _ _) (by omega)
  clear hB0 h
  go_enter Tryz.func25, Tryz.ntmps25
  go_wp2_with (first | simp only [hW0] | (with_reducible show wpList _ _ _ (⟨_, .load 38 (.tmp 2), _, _, _, none⟩ :: _) _ _; refine RowKit.Hid.out ?_))
  refine Lib.hid ?_
  refine wpList_load_row rfl 38 (.tmp 2) rfl _ rfl _ _ (0, 0) _ A0.out Tryz.underlying38 rfl infoL9 ?_
  go_wp2_with fail
  refine (HS).mono ?_
  rintro e W1 ⟨⟨sl1, rl1, ra1, ov1, iv1, rfl, hr1⟩, hb1⟩
  go_wp2_with (with_reducible show wpList _ _ _ (⟨_, .store 38 (.tmp 2) (.tmp 8), _, _, _, none⟩ :: _) _ _; refine RowKit.Hid.out ?_)
  refine Lib.hid ?_
  refine wpList_store_row rfl 38 (.tmp 2) (.tmp 8) rfl _ _ rfl rfl _ _ (bl_get hb1 B0.out.ba) infoL9 rfl hr1.one ?_
  have hB1 := B0.out.stored hb1 hr1
  have hF1 := fr_row W1 w.heap.size (Lk.ref (t.send ⟨5, 0, 0, poll, 0, 0, []⟩) sl1 rl1 ra1 ov1 iv1)
  obtain ⟨V1, hV1⟩ : ∃ V, W1.setRow w.heap.size (Lk.ref (t.send ⟨5, 0, 0, poll, 0, 0, []⟩) sl1 rl1 ra1 ov1 iv1) = V := ⟨_, rfl⟩
  rw [hV1] at hB1 hF1 ⊢
  have B1 := Lib.hid hB1
  have A1 := Lib.hid hB1.ba
  clear hB1 hV1
  have c4 := B1.out.cell 3 (v := .int .i64 t.timer) rfl
  have c5 := B1.out.cell 5 (v := .int .i64 t.left) rfl
  have z5 := B1.out.frozen 5
  have hB2 := B1.out.put1 (t' := t.setup poll) 5 (.int .i64 t.timer) rfl rfl rfl rfl rfl
  obtain ⟨V2, hV2⟩ : ∃ V, V1.setCell ⟨w.heap.size, 5, none⟩ (.int .i64 t.timer) = V := ⟨_, rfl⟩
  rw [hV2] at hB2
  have B2 := Lib.hid hB2
  have A2 := Lib.hid hB2.ba
  clear hB2 hb1 hr1 HS
  go_wp2_with (first | simp only [hV2] | (with_reducible show wpList _ _ _ (⟨_, .load 38 (.tmp 2), _, _, _, none⟩ :: _) _ _; refine RowKit.Hid.out ?_))
  refine Lib.hid ?_
  refine wpList_load_row rfl 38 (.tmp 2) rfl _ rfl _ _ (0, 0) _ A2.out Tryz.underlying38 rfl infoL9 ?_
  go_wp2_with (with_reducible show wpList _ _ _ (⟨_, .store 38 (.tmp 4) (.tmp 12), _, _, _, none⟩ :: _) _ _; refine RowKit.Hid.out ?_)
  refine Lib.hid ?_
  obtain ⟨cs, hcs, hz⟩ := B2.out.bz
  have hone := B2.out.rf.one
  refine wpList_store_row rfl 38 (.tmp 4) (.tmp 12) rfl _ _ rfl rfl _ _ hz infoL9 hcs hone ?_
  obtain ⟨hret, hrow⟩ := B2.out.ret
  go_wp2_with fail
  refine bodyPost_ret (results_cell_row rfl _ _ (w.heap.size + 1) 38 _ (0, 0) _ rfl hrow Tryz.underlying38 rfl infoL9) rfl ?_
  exact hret

set_option maxRecDepth 100000 in
set_option maxHeartbeats 4000000 in
theorem r9reset_any (C : Nat → Prop) (w : World) (sl rl ra ov iv : Value) (t : Lk) (h : RfAt C w sl rl ra ov iv t) :
    Calls Tryz.prog 66 #[.agg (t.ref sl rl ra ov iv)] w fun e w' => Rf9 C w t.reset e w' := by
  obtain ⟨⟨so, sc, rfl⟩, ⟨ro, rn, rc, rfl⟩, ⟨ao, an, ac, rfl⟩, _, _⟩ := h.form
  obtain ⟨W0, hW0, hB0⟩ := h.boxes
  have B0 := Lib.hid hB0
  have A0 := Lib.hid hB0.ba
  have c10 : W0.cell? ⟨w.heap.size, 10, none⟩ = some (.int .i64 t.s.size) := hB0.cell 10 rfl
  have c11 : W0.cell? ⟨w.heap.size, 11, none⟩ = some (.int .i64 t.s.base) := hB0.cell 11 rfl
  have c12 : W0.cell? ⟨w.heap.size, 12, none⟩ = some (.slice so t.s.ps.length sc) := hB0.cell 12 rfl
  have c13 : W0.cell? ⟨w.heap.size, 13, none⟩ = some (.int .i64 t.s.under) := hB0.cell 13 rfl
  have HS := rreset_any t.s (.slice so t.s.ps.length sc) W0
  unfold refV at HS
  clear hB0 h
  go_enter Tryz.func66, Tryz.ntmps66
  go_wp2_with (simp only [hW0])
  refine HS.mono ?_
  rintro e W1 ⟨rfl, hb1⟩
  have hB1 := B0.out.below hb1
  have d10 : W1.cell? ⟨w.heap.size, 10, none⟩ = some (.int .i64 t.s.size) := hB1.cell 10 rfl
  have z10 := hB1.frozen 10
  have d11 : W1.cell? ⟨w.heap.size, 11, none⟩ = some (.int .i64 t.s.base) := hB1.cell 11 rfl
  have z11 := hB1.frozen 11
  have d12 : W1.cell? ⟨w.heap.size, 12, none⟩ = some (.slice so t.s.ps.length sc) := hB1.cell 12 rfl
  have z12 := hB1.frozen 12
  have d13 : W1.cell? ⟨w.heap.size, 13, none⟩ = some (.int .i64 t.s.under) := hB1.cell 13 rfl
  have z13 := hB1.frozen 13
  have hB2 := hB1.putS (sl' := .slice none 0 0) ⟨t.s.size, 0, [], 0⟩ (Pays.nil _ _)
  obtain ⟨V2, hV2⟩ : ∃ V, ((((W1.setCell ⟨w.heap.size, 10, none⟩ (.int .i64 t.s.size)).setCell ⟨w.heap.size, 11, none⟩ (.int .i64 0)).setCell ⟨w.heap.size, 12, none⟩ (.slice none 0 0)).setCell ⟨w.heap.size, 13, none⟩ (.int .i64 0)) = V := ⟨_, rfl⟩
  have hB2' : Bx C w V2 w.heap.size (w.heap.size + 1) (.slice none 0 0) (.slice ro rn rc) (.slice ao an ac) ov iv { t with s := ⟨t.s.size, 0, [], 0⟩ } := by rw [← hV2]; exact hB2
  have e14 : V2.cell? ⟨w.heap.size, 14, none⟩ = some (.int .i64 t.r.size) := hB2'.cell 14 rfl
  have e15 : V2.cell? ⟨w.heap.size, 15, none⟩ = some (.int .i64 t.r.waits) := hB2'.cell 15 rfl
  have e16 : V2.cell? ⟨w.heap.size, 16, none⟩ = some (.slice ro rn rc) := hB2'.cell 16 rfl
  have e17 : V2.cell? ⟨w.heap.size, 17, none⟩ = some (.slice ao an ac) := hB2'.cell 17 rfl
  have HR := r8reset_any t.r (.slice ro rn rc) (.slice ao an ac) V2
  unfold refR at HR
  have B2 := Lib.hid hB2'
  clear hB1 hB2 hB2' HS hb1
  go_wp2_with fail
  refine HR.mono ?_
  rintro e W3 ⟨rfl, hb3⟩
  have hB3 := B2.out.below hb3
  have g14 : W3.cell? ⟨w.heap.size, 14, none⟩ = some (.int .i64 t.r.size) := hB3.cell 14 rfl
  have y14 := hB3.frozen 14
  have g15 : W3.cell? ⟨w.heap.size, 15, none⟩ = some (.int .i64 t.r.waits) := hB3.cell 15 rfl
  have y15 := hB3.frozen 15
  have g16 : W3.cell? ⟨w.heap.size, 16, none⟩ = some (.slice ro rn rc) := hB3.cell 16 rfl
  have y16 := hB3.frozen 16
  have g17 : W3.cell? ⟨w.heap.size, 17, none⟩ = some (.slice ao an ac) := hB3.cell 17 rfl
  have y17 := hB3.frozen 17
  have hB4 := hB3.putR (rl' := .slice none 0 0) (ra' := .slice none 0 0) ⟨t.r.size, 0, [], []⟩ (Els.nil _ _ _) ⟨[], rd_nil _ _ _, askRel_nil _ _⟩
  obtain ⟨V4, hV4⟩ : ∃ V, ((((W3.setCell ⟨w.heap.size, 14, none⟩ (.int .i64 t.r.size)).setCell ⟨w.heap.size, 15, none⟩ (.int .i64 0)).setCell ⟨w.heap.size, 16, none⟩ (.slice none 0 0)).setCell ⟨w.heap.size, 17, none⟩ (.slice none 0 0)) = V := ⟨_, rfl⟩
  have hB4' : Bx C w V4 w.heap.size (w.heap.size + 1) (.slice none 0 0) (.slice none 0 0) (.slice none 0 0) ov iv { t with s := ⟨t.s.size, 0, [], 0⟩, r := ⟨t.r.size, 0, [], []⟩ } := by rw [← hV4]; exact hB4
  have k5 : V4.cell? ⟨w.heap.size, 5, none⟩ = some (.int .i64 t.left) := hB4'.cell 5 rfl
  have x5 := hB4'.frozen 5
  have k6 : V4.cell? ⟨w.heap.size, 6, none⟩ = some (.int .i64 t.tried) := hB4'.cell 6 rfl
  have x6 := hB4'.frozen 6
  have k7 : V4.cell? ⟨w.heap.size, 7, none⟩ = some (.int .i64 t.resets) := hB4'.cell 7 rfl
  have x7 := hB4'.frozen 7
  have k8 : V4.cell? ⟨w.heap.size, 8, none⟩ = some (.bool t.busy) := hB4'.cell 8 rfl
  have x8 := hB4'.frozen 8
  have B4 := Lib.hid hB4'
  have hB5 := hB4'.put1 (t' := { t with s := ⟨t.s.size, 0, [], 0⟩, r := ⟨t.r.size, 0, [], []⟩, resets := wrap64 (t.resets + 1) }) 7 (.int .i64 (wrap64 (t.resets + 1))) rfl rfl rfl rfl rfl
  have hB6 := hB5.put1 (t' := { t with s := ⟨t.s.size, 0, [], 0⟩, r := ⟨t.r.size, 0, [], []⟩, resets := wrap64 (t.resets + 1), left := 0 }) 5 (.int .i64 0) rfl rfl rfl rfl rfl
  have hB7 := hB6.put1 (t' := { t with s := ⟨t.s.size, 0, [], 0⟩, r := ⟨t.r.size, 0, [], []⟩, resets := wrap64 (t.resets + 1), left := 0, tried := 0 }) 6 (.int .i64 0) rfl rfl rfl rfl rfl
  have hB8 := hB7.put1 (t' := t.reset) 8 (.bool false) rfl rfl rfl rfl rfl
  obtain ⟨V8, hV8⟩ : ∃ V, ((((V4.setCell ⟨w.heap.size, 7, none⟩ (.int .i64 (wrap64 (t.resets + 1)))).setCell ⟨w.heap.size, 5, none⟩ (.int .i64 0)).setCell ⟨w.heap.size, 6, none⟩ (.int .i64 0)).setCell ⟨w.heap.size, 8, none⟩ (.bool false)) = V := ⟨_, rfl⟩
  rw [hV8] at hB8
  have B8 := Lib.hid hB8
  have A8 := Lib.hid hB8.ba
  clear hB3 hB4 hB4' hB5 hB6 hB7 hB8 HR hb3
  go_wp2_with (with_reducible show wpList _ _ _ (⟨_, .load 38 (.tmp 1), _, _, _, none⟩ :: _) _ _; refine RowKit.Hid.out ?_)
  refine Lib.hid ?_
  refine wpList_load_row rfl 38 (.tmp 1) rfl _ rfl _ _ (0, 0) _ A8.out Tryz.underlying38 rfl infoL9 ?_
  go_wp2_with (with_reducible show wpList _ _ _ (⟨_, .store 38 (.tmp 2) (.tmp 18), _, _, _, none⟩ :: _) _ _; refine RowKit.Hid.out ?_)
  refine Lib.hid ?_
  obtain ⟨cs, hcs, hz⟩ := B8.out.bz
  have hone := B8.out.rf.one
  refine wpList_store_row rfl 38 (.tmp 2) (.tmp 18) rfl _ _ rfl rfl _ _ hz infoL9 hcs hone ?_
  obtain ⟨hret, hrow⟩ := B8.out.ret
  go_wp2_with fail
  refine bodyPost_ret (results_cell_row rfl _ _ (w.heap.size + 1) 38 _ (0, 0) _ rfl hrow Tryz.underlying38 rfl infoL9) rfl ?_
  exact hret

set_option maxRecDepth 100000 in
set_option maxHeartbeats 4000000 in
theorem r9heard_any (C : Nat → Prop) (w : World) (sl rl ra ov iv : Value) (t : Lk) (h : RfAt C w sl rl ra ov iv t) :
    Calls Tryz.prog 75 #[.agg (t.ref sl rl ra ov iv)] w fun e w' => Rf9 C w t.heard e w' := by
  obtain ⟨W0, hW0, hB0⟩ := h.boxes
  have B0 := Lib.hid hB0
  have A0 := Lib.hid hB0.ba
  have k2 : W0.cell? ⟨w.heap.size, 2, none⟩ = some (.bool t.up) := hB0.cell 2 rfl
  have x2 := hB0.frozen 2
  have k5 : W0.cell? ⟨w.heap.size, 5, none⟩ = some (.int .i64 t.left) := hB0.cell 5 rfl
  have x5 := hB0.frozen 5
  have k6 : W0.cell? ⟨w.heap.size, 6, none⟩ = some (.int .i64 t.tried) := hB0.cell 6 rfl
  have x6 := hB0.frozen 6
  have hB1 := hB0.put1 (t' := { t with up := true }) 2 (.bool true) rfl rfl rfl rfl rfl
  have hB2 := hB1.put1 (t' := { t with up := true, left := 0 }) 5 (.int .i64 0) rfl rfl rfl rfl rfl
  have hB3 := hB2.put1 (t' := t.heard) 6 (.int .i64 0) rfl rfl rfl rfl rfl
  obtain ⟨V3, hV3⟩ : ∃ V, (((W0.setCell ⟨w.heap.size, 2, none⟩ (.bool true)).setCell ⟨w.heap.size, 5, none⟩ (.int .i64 0)).setCell ⟨w.heap.size, 6, none⟩ (.int .i64 0)) = V := ⟨_, rfl⟩
  rw [hV3] at hB3
  have B3 := Lib.hid hB3
  have A3 := Lib.hid hB3.ba
  clear hB0 hB1 hB2 hB3 h
  go_enter Tryz.func75, Tryz.ntmps75
  go_wp2_with (first | simp only [hW0] | simp only [hV3] | (with_reducible show wpList _ _ _ (⟨_, .load 38 (.tmp 1), _, _, _, none⟩ :: _) _ _; refine RowKit.Hid.out ?_))
  refine Lib.hid ?_
  refine wpList_load_row rfl 38 (.tmp 1) rfl _ rfl _ _ (0, 0) _ A3.out Tryz.underlying38 rfl infoL9 ?_
  go_wp2_with (with_reducible show wpList _ _ _ (⟨_, .store 38 (.tmp 2) (.tmp 6), _, _, _, none⟩ :: _) _ _; refine RowKit.Hid.out ?_)
  refine Lib.hid ?_
  obtain ⟨cs, hcs, hz⟩ := B3.out.bz
  have hone := B3.out.rf.one
  refine wpList_store_row rfl 38 (.tmp 2) (.tmp 6) rfl _ _ rfl rfl _ _ hz infoL9 hcs hone ?_
  obtain ⟨hret, hrow⟩ := B3.out.ret
  go_wp2_with fail
  refine bodyPost_ret (results_cell_row rfl _ _ (w.heap.size + 1) 38 _ (0, 0) _ rfl hrow Tryz.underlying38 rfl infoL9) rfl ?_
  exact hret

set_option maxRecDepth 100000 in
set_option maxHeartbeats 4000000 in
theorem r9data_any (C : Nat → Prop) (w : World) (sl rl ra ov iv : Value) (t : Lk) (h : RfAt C w sl rl ra ov iv t) (ns : Int) (p : List Int) (poll : Bool) (x : Value) (hx : Byt (Live C w) w x p) (hm : t.out.length ≤ 900000) :
    Calls Tryz.prog 47 #[.agg (t.ref sl rl ra ov iv), .int .i64 ns, x, .bool poll] w fun e w' => Rf9 C w (t.dat ns p poll) e w' := by
  obtain ⟨xo, xc, rfl⟩ : ∃ xo xc, x = .slice xo p.length xc := by
    obtain ⟨⟨⟨_, ao, cap, h, _⟩, _⟩, _⟩ := hx
    exact ⟨ao, cap, h⟩
  obtain ⟨W0, hW0, hB0⟩ := h.boxes
  have B0 := Lib.hid hB0
  have A0 := Lib.hid hB0.ba
  have c1 : W0.cell? ⟨w.heap.size, 1, none⟩ = some (.int .i64 t.peer) := hB0.cell 1 rfl
  have c15 : W0.cell? ⟨w.heap.size, 15, none⟩ = some (.int .i64 t.r.waits) := hB0.cell 15 rfl
  have HS := r9send_any _ W0 _ _ _ _ _ _ hB0.rf ⟨1, ns, t.r.waits, poll, 0, t.peer, p⟩ _ (hB0.byt hx) (by omega)
  clear hB0 h hx
  go_enter Tryz.func47, Tryz.ntmps47
  go_wp2_with (first | simp only [hW0] | (with_reducible show wpList _ _ _ (⟨_, .load 38 (.tmp 4), _, _, _, none⟩ :: _) _ _; refine RowKit.Hid.out ?_))
  refine Lib.hid ?_
  refine wpList_load_row rfl 38 (.tmp 4) rfl _ rfl _ _ (0, 0) _ A0.out Tryz.underlying38 rfl infoL9 ?_
  go_wp2_with fail
  refine (HS).mono ?_
  rintro e W1 ⟨⟨sl1, rl1, ra1, ov1, iv1, rfl, hr1⟩, hb1⟩
  go_wp2_with (with_reducible show wpList _ _ _ (⟨_, .store 38 (.tmp 8) (.tmp 19), _, _, _, none⟩ :: _) _ _; refine RowKit.Hid.out ?_)
  refine Lib.hid ?_
  obtain ⟨cs, hcs, hz⟩ := B0.out.bz
  refine wpList_store_row rfl 38 (.tmp 8) (.tmp 19) rfl _ _ rfl rfl _ _ (bl_get hb1 hz) infoL9 hcs hr1.one ?_
  obtain ⟨hret, hrow⟩ := B0.out.rets hb1 hr1
  go_wp2_with fail
  refine bodyPost_ret (results_cell_row rfl _ _ (w.heap.size + 1) 38 _ (0, 0) _ rfl hrow Tryz.underlying38 rfl infoL9) rfl ?_
  exact hret

set_option maxRecDepth 100000 in
set_option maxHeartbeats 4000000 in
theorem r9answer_any (C : Nat → Prop) (w : World) (sl rl ra ov iv : Value) (t : Lk) (h : RfAt C w sl rl ra ov iv t) (hm : t.out.length ≤ 900000) :
    Calls Tryz.prog 61 #[.agg (t.ref sl rl ra ov iv)] w fun e w' => Rf9 C w t.answer e w' := by
  obtain ⟨W0, hW0, hB0⟩ := h.boxes
  have B0 := Lib.hid hB0
  have A0 := Lib.hid hB0.ba
  have c1 : W0.cell? ⟨w.heap.size, 1, none⟩ = some (.int .i64 t.peer) := hB0.cell 1 rfl
  have c15 : W0.cell? ⟨w.heap.size, 15, none⟩ = some (.int .i64 t.r.waits) := hB0.cell 15 rfl
  have c9 : W0.cell? ⟨w.heap.size, 9, none⟩ = some (.bool t.held) := hB0.cell 9 rfl
  have HS := r9send_any _ W0 _ _ _ _ _ _ hB0.rf ⟨if t.held then 3 else 2, 0, t.r.waits, false, 0, t.peer, []⟩ _ (byt_nil _ _) (by omega)
  have hq : t.answer = t.send ⟨if t.held then 3 else 2, 0, t.r.waits, false, 0, t.peer, []⟩ := rfl
  rw [← hq] at HS
  clear hB0 h hq
  cases hh : t.held with
  | true =>
    rw [hh] at c9 HS
    go_enter Tryz.func61, Tryz.ntmps61
    go_wp2_with (first | simp only [hW0] | (with_reducible show wpList _ _ _ (⟨_, .load 38 (.tmp 1), _, _, _, none⟩ :: _) _ _; refine RowKit.Hid.out ?_))
    refine Lib.hid ?_
    refine wpList_load_row rfl 38 (.tmp 1) rfl _ rfl _ _ (0, 0) _ A0.out Tryz.underlying38 rfl infoL9 ?_
    go_wp2_with fail
    refine (HS).mono ?_
    rintro e W1 ⟨⟨sl1, rl1, ra1, ov1, iv1, rfl, hr1⟩, hb1⟩
    go_wp2_with (with_reducible show wpList _ _ _ (⟨_, .store 38 (.tmp 2) (.tmp 12), _, _, _, none⟩ :: _) _ _; refine RowKit.Hid.out ?_)
    refine Lib.hid ?_
    obtain ⟨cs, hcs, hz⟩ := B0.out.bz
    refine wpList_store_row rfl 38 (.tmp 2) (.tmp 12) rfl _ _ rfl rfl _ _ (bl_get hb1 hz) infoL9 hcs hr1.one ?_
    obtain ⟨hret, hrow⟩ := B0.out.rets hb1 hr1
    go_wp2_with fail
    refine bodyPost_ret (results_cell_row rfl _ _ (w.heap.size + 1) 38 _ (0, 0) _ rfl hrow Tryz.underlying38 rfl infoL9) rfl ?_
    exact hret
  | false =>
    rw [hh] at c9 HS
    go_enter Tryz.func61, Tryz.ntmps61
    go_wp2_with (first | simp only [hW0] | (with_reducible show wpList _ _ _ (⟨_, .load 38 (.tmp 1), _, _, _, none⟩ :: _) _ _; refine RowKit.Hid.out ?_))
    refine Lib.hid ?_
    refine wpList_load_row rfl 38 (.tmp 1) rfl _ rfl _ _ (0, 0) _ A0.out Tryz.underlying38 rfl infoL9 ?_
    go_wp2_with fail
    refine (HS).mono ?_
    rintro e W1 ⟨⟨sl1, rl1, ra1, ov1, iv1, rfl, hr1⟩, hb1⟩
    go_wp2_with (with_reducible show wpList _ _ _ (⟨_, .store 38 (.tmp 2) (.tmp 20), _, _, _, none⟩ :: _) _ _; refine RowKit.Hid.out ?_)
    refine Lib.hid ?_
    obtain ⟨cs, hcs, hz⟩ := B0.out.bz
    refine wpList_store_row rfl 38 (.tmp 2) (.tmp 20) rfl _ _ rfl rfl _ _ (bl_get hb1 hz) infoL9 hcs hr1.one ?_
    obtain ⟨hret, hrow⟩ := B0.out.rets hb1 hr1
    go_wp2_with fail
    refine bodyPost_ret (results_cell_row rfl _ _ (w.heap.size + 1) 38 _ (0, 0) _ rfl hrow Tryz.underlying38 rfl infoL9) rfl ?_
    exact hret

end Go.Proofs.YthmdibagcbbgoaaGreat
