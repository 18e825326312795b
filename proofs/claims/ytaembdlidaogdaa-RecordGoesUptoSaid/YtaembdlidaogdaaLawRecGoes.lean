/- The walk of the statement RecordGoes, where the row is not longer than 2^20. Conditions: the arguments' own. -/
import Derived.RegionTactic
import Derived.RegionIn
import Derived.Sort.QuietIn
import Derived.Test.YtaembdlidaogdaaRecGoes
import Derived.Test.YtaembdlidaogdaaQuietR
namespace Go.Proofs.Ytaembdlidaogdaa
open Go.RowKit Go.Shelf
attribute [local go_sem] Oper.semAt_some

theorem next_wrap {j : Nat} (h : j ≤ 1048576) : wrap64 ((j : Int) + 1) = (j : Int) + 1 := by unfold wrap64; omega
def leftN (k : Nat) (v : Value) : Nat := k - (intOf v).toNat
theorem next_less {j k : Nat} (h : j < k) : leftN k (.int .i64 ((j : Int) + 1)) < leftN k (.int .i64 (j : Int)) := by
  unfold leftN
  simp only [intOf]
  omega
theorem fn_not_nil (p : Value) (w : World) : (binOp BinOp.eql 41 (.func (.func 29) #[] #[p]) .nilFunc).run Try.prog w = .ok (.bool false) w := by kernel_rfl

theorem place_ge (ps : List (List Int)) (k : Nat) (h : k ≤ ps.length) : 8 * k ≤ place ps k := by
  induction ps generalizing k with
  | nil => obtain rfl : k = 0 := by simpa using h
           simp [place_zero]
  | cons p ps ih =>
    cases k with
    | zero => simp [place_zero]
    | succ k => rw [place_cons]; have := ih k (by simpa using h); omega
theorem eight_wrap {j : Nat} (h : j ≤ 1048576) : wrap64 (8 * (j : Int)) = 8 * (j : Int) := by unfold wrap64; omega
theorem leave4 {tmps : Array Value} {w w3 : World} {r D D2 : Nat} (h4 : tmps.getD 4 undef = .pointer (some ⟨r, 0, none⟩)) (hrw : w.heap.size ≤ r) (hrD : r < D) (hDD : D < D2) (q0 : w3.heap[r]? = some (.cells #[.bool false] 4 (0, 0)))
    (e2 : w3.heap[D2]? = some (.deferred (some []))) (e1 : w3.heap[D]? = some (.deferred (some []))) (hb : Below w.heap.size w w3) :
    bodyPostM Fence.wide 9 Try.prog Try.f8 (fun e w' => e = .returned (.bool true) ∧ Below w.heap.size w w') .ret
      { tmps := tmps, defers := [{ target := .collected D2, args := #[] }, { target := .collected D, args := #[] }] } (w3.setCell ⟨r, 0, none⟩ (.bool true)) := by
  have f2 : (w3.setCell ⟨r, 0, none⟩ (.bool true)).heap[D2]? = some (.deferred (some [])) := (Below.heap_setCell _ _ _ _ (by simp; omega)).trans e2
  have f1 : ((w3.setCell ⟨r, 0, none⟩ (.bool true)).putObj D2 (.deferred none)).heap[D]? = some (.deferred (some [])) := (World.putObj_heap_other (by omega)).trans ((Below.heap_setCell _ _ _ _ (by simp; omega)).trans e1)
  have g0 : Boxed (w3.setCell ⟨r, 0, none⟩ (.bool true)) r 4 (.bool true) := Boxed.set _ q0
  have g1 : (((w3.setCell ⟨r, 0, none⟩ (.bool true)).putObj D2 (.deferred none)).putObj D (.deferred none)).heap[r]? = some (.cells #[.bool true] 4 (0, 0)) := (World.putObj_heap_other (by omega)).trans ((World.putObj_heap_other (by omega)).trans g0)
  have hb9 : Below w.heap.size w (((w3.setCell ⟨r, 0, none⟩ (.bool true)).putObj D2 (.deferred none)).putObj D (.deferred none)) := by
    have h1 : Frm [] w (w3.setCell ⟨r, 0, none⟩ (.bool true)) := (Frm.of_below hb).setCell' hrw _
    exact (frm_put (frm_put h1 _ (by omega) f2) _ (by omega) f1).below (by simp)
  refine ⟨by simp, .inl ⟨D2, _, rfl, run_takeDeferred f2, ⟨by simp, .inl ⟨D, _, rfl, run_takeDeferred f1, ?_⟩⟩⟩⟩
  have hc := Boxed.cell g1
  generalize ((w3.setCell ⟨r, 0, none⟩ (.bool true)).putObj D2 (.deferred none)).putObj D (.deferred none) = W9 at hc hb9 ⊢
  have h4' : tmps[4]?.getD undef = .pointer (some ⟨r, 0, none⟩) := by simpa using h4
  exact ⟨.bool true, by simp [results, Try.results8, go_sem, h4', hc], rfl, hb9⟩

set_option maxRecDepth 100000 in
set_option maxHeartbeats 1000000 in
theorem walkRecordGoes (v : Value) (xs : List Int) (w : World) (hr : Reads (Value.int .u8) w v xs) (wx : ∀ n ∈ xs, (Lit.int .u8 n).wf = true) (hle : xs.length * 134217727 ≤ reachBytes) (stop : Int) (_ : (Lit.int .i64 stop).wf = true) :
    Calls Try.prog 8 #[v, .int .i64 stop] w fun e w' => e = .returned (.bool true) ∧ Below w.heap.size w w' := by
  have hfn := fn_not_nil
  obtain ⟨P1, P2, hm2⟩ := upto_room hle
  clear hle
  obtain ⟨ao, cap, rfl⟩ : ∃ ao cap, v = .slice ao xs.length cap := by
    obtain ⟨_, ao, cap, h, _⟩ := hr
    exact ⟨ao, cap, h⟩
  have hmax : xs.length ≤ maxLen := hr.1
  obtain ⟨ps, hst, hsm, hpl⟩ : ∃ ps, Hid (Steps xs ps) ∧ Hid (∀ p ∈ ps, p.length ≤ maxLen ∧ ∀ n ∈ p, (Lit.int .u8 n).wf = true) ∧ ps.length ≤ 1048576 := ⟨_, steps_recs xs, recs_small wx hmax, Nat.le_trans (recs_len xs) hm2⟩
  have HLIM : Hid (xs.length ≤ 16777216) := Lib.hid (Nat.le_trans hm2 (by decide))
  have HPL := Lib.hid hpl
  have wx := Lib.hid wx
  obtain ⟨i0, hi, hz0, hz1, hz2⟩ := info_parts infoByte
  refine (callsIn_wide (n := 9)).1 ?_
  refine callsIn_of_wp_marks Try.func8 rfl trivial ?_ rfl
  simp only [Try.ntmps8, List.size_toArray, List.length_cons, List.length_nil, Nat.reduceAdd, Nat.reduceSub, Array.replicate_succ, Array.replicate_zero, List.push_toArray, List.append_toArray, List.nil_append, List.cons_append]
  -- the boxes of stop and of the answer
  obtain ⟨V, hV⟩ : ∃ V, (w.alloc (.cells #[.int .i64 stop] 3)).alloc (.cells #[.bool false] 4) = V := ⟨_, rfl⟩
  obtain ⟨vS, vR, vsz, vb⟩ := two_blocks w (.cells #[.int .i64 stop] 3) (.cells #[.bool false] 4)
  rw [hV] at vS vR vsz vb
  have hrV := hr.below vb
  have hrr := hrV.below (bl_alloc (bl_refl V) (.cells #[] 5))
  have HRR := Lib.hid hrr
  have HRV := Lib.hid hrV
  have VSZ := Lib.hid vsz
  clear hrr hrV hr hpl vsz
  gi_wp2_with (first | (gi_at_builtin; refine wpListIn_append_r _ rfl _ _ 22 rfl V.heap.size 5 i0 (.int .u8 0) 1 Try.underlying22 hi hz0 hz1 hz2 rfl _ _ _ rfl (owns_empty V 5 (Nat.le_refl _)) (Value.int .u8) _ xs rfl HRR.out (by intros; rfl) P1 P2 (by simp) ?_; intro u W1 hO hg))
  have hb1 : Below V.heap.size V W1 := bl_grown (bl_alloc (bl_refl V) (.cells #[] 5)) hg (by intro k hk; cases hk; exact Nat.le_refl _)
  simp only [Nat.zero_add, List.nil_append] at hO
  obtain ⟨ao1, cap1, rfl⟩ := owns_form3 hO
  have hfar : ∀ g, (Value.slice ao1 xs.length cap1).ownBlock = some g → V.heap.size ≤ g ∧ g < W1.heap.size := fun g hg => hO.lt g hg
  have HFAR := Lib.hid hfar
  have HV1 := Lib.hid hb1.size
  clear hg hfar
  refine ⟨trivial, ?_⟩
  refine (callsIn_wide.2 (each_any _ xs _ (Reads.of_owns hO hmax) P1 P2)).mono ?_
  rintro e W2 ⟨co, cc, B, rfl, hb2, hBge, hBox, hRd⟩
  have HO := Lib.hid (owns_bl hO hb2)
  have HB2 := Lib.hid (bl_trans hb1 hb2)
  have HBGE := Lib.hid hBge
  have HBOX := Lib.hid hBox
  have HRD := Lib.hid hRd
  clear hO hb1 hb2 hBge hBox hRd
  gi_wp2_with fail
  gi_loopw [7] (fun kk wr => ∃ (i : Nat) (ys : List Int), i ≤ xs.length ∧ kk = .int .i64 i ∧ Hid (ys.length = xs.length ∧ ∀ n ∈ ys, (Lit.int .u8 n).wf = true) ∧ wr.ownsRow V.heap.size 5 1 (.slice ao1 xs.length cap1) xs.length (ys.map (Value.int .u8)) ∧
      Fr (fun j => V.heap.size ≤ j ∧ j < W1.heap.size) W2 wr) (fun kk _ => leftN xs.length kk)
  case atStart => exact ⟨0, xs, by omega, rfl, ⟨rfl, wx.out⟩, HO.out, Fr.refl _ _⟩
  case round =>
    obtain ⟨i, ys, hile, rfl, hys, hO, hF⟩ := hrel
    by_cases hlt : i < xs.length
    · obtain ⟨g, rfl, hg1, hg2⟩ := own_slice hO (by omega)
      obtain ⟨x, hx⟩ := get_some (xs := ys) (k := i) (by have := hys.out.1; omega)
      have hxw := turn_u8 (hys.out.2 x (List.mem_of_getElem? hx))
      have hc : wr.cell? ⟨g, i, none⟩ = some (.int .u8 x) := by rw [hO.cellAt i (by omega), List.getElem?_map, hx]; rfl
      have hz := hO.frozenAt i
      have hst := hO.stored i (.int .u8 (255 - x))
      have hys2 : Hid ((ys.set i (255 - x)).length = xs.length ∧ ∀ n ∈ ys.set i (255 - x), (Lit.int .u8 n).wf = true) := set_wf hys.out hxw.2
      rw [show (Value.int .u8 (255 - x)) = (Value.int .u8) (255 - x) from rfl, ← List.map_set] at hst
      have HST := Lib.hid hst
      have hwx := hxw.1
      have HF : Fr (fun j => V.heap.size ≤ j ∧ j < W1.heap.size) W2 (wr.setCell ⟨g, i, none⟩ (.int .u8 (255 - x))) := hF.setCell (p := ⟨g, i, none⟩) (.inl (HFAR.out g rfl)) _
      have hlt2 : (i : Int) < (xs.length : Int) := by omega
      have hil : i + 1 ≤ xs.length := hlt
      have HME := Lib.hid (show leftN xs.length (.int .i64 ((i : Int) + 1)) < leftN xs.length (.int .i64 (i : Int)) from next_less hlt)
      have HKK := Lib.hid (show Value.int .i64 ((i : Int) + 1) = .int .i64 ((i + 1 : Nat) : Int) from rfl)
      have HIL := Lib.hid hil
      clear hst hxw hx hys hil
      gi_wp2
      go_roundw
      case rel => exact ⟨i + 1, ys.set i (255 - x), HIL.out, HKK.out, hys2, HST.out.1, HF⟩
      case measure => exact HME.out
    · have hi2 : i = xs.length := by omega
      have hb3 : Below V.heap.size V wr := bl_fr HB2.out hF (by intro j hj; exact hj.1)
      have hb4 : Below w.heap.size w wr := bl_trans vb hb3
      have HSC := Lib.hid (rscan_any _ xs ps hst wx HLIM.out wr (HRV.out.below hb3))
      have HF := Lib.hid hF
      clear hO hF hile hys
      gi_wp2_with fail
      refine ⟨trivial, ?_⟩
      refine (callsIn_wide.2 HSC.out).mono ?_
      rintro e W4 ⟨wv, rfl, hw, hb5⟩
      have hpay := hw.pays (Nat.le_trans HPL.out (by decide)) hsm.out
      obtain ⟨wo, wc, rfl, _⟩ := hpay.form
      have HPAY := Lib.hid hpay
      have HB5 := Lib.hid hb5
      have HB4 := Lib.hid hb4
      have HB3 := Lib.hid hb3
      clear hw hpay hb5 hb4 hb3
      gi_wp2_with fail
      obtain ⟨wW, wN, wsz, wb⟩ := two_blocks W4 (.cells #[.slice wo ps.length wc] 30) (.cells #[.int .i64 0] 3)
      obtain ⟨W0, hW0⟩ : ∃ W0, (W4.alloc (.cells #[.slice wo ps.length wc] 30)).alloc (.cells #[.int .i64 0] 3) = W0 := ⟨_, rfl⟩
      rw [hW0] at wW wN wsz wb ⊢
      have hBl : B < W4.heap.size := Nat.lt_of_lt_of_le (lt_of_get (HF.out.get HBOX.out (by rintro ⟨_, h⟩; exact absurd HBGE.out (Nat.not_le.2 h)))) HB5.out.size
      have hVW : V.heap.size ≤ W4.heap.size := Nat.le_trans HB3.out.size HB5.out.size
      have S0 : W0.heap[w.heap.size]? = some (.cells #[.int .i64 stop] 3 (0, 0)) := bl_get wb (bl_get HB5.out (HF.out.get (bl_get HB2.out vS) (by rintro ⟨h, _⟩; have := VSZ.out; omega)))
      have R0 : W0.heap[w.heap.size + 1]? = some (.cells #[.bool false] 4 (0, 0)) := bl_get wb (bl_get HB5.out (HF.out.get (bl_get HB2.out vR) (by rintro ⟨h, _⟩; have := VSZ.out; omega)))
      have B0 : W0.heap[B]? = some (.cells #[.slice co xs.length cc] 22 (0, 0)) := bl_get wb (bl_get HB5.out (HF.out.get HBOX.out (by rintro ⟨_, h⟩; exact absurd HBGE.out (Nat.not_le.2 h))))
      have D0 : Rd (fun k => k < W4.heap.size) (Value.int .u8) W0 (.slice co xs.length cc) xs := (((HRD.out.fr HF.out (by rintro j ⟨h1, _⟩ ⟨_, h2⟩; omega)).below HB5.out).below wb).mono (fun j hj => by have := hj.2; omega)
      have Y0 : Pays (fun k => k < W4.heap.size) W0 (.slice wo ps.length wc) ps := (HPAY.out.below wb).mono (fun j hj => hj.2)
      have hbl : Below w.heap.size w W0 := bl_trans HB4.out (bl_trans HB5.out wb)
      have hsW : w.heap.size + 2 ≤ W4.heap.size := by have := VSZ.out; omega
      clear hW0 HPAY HB5 HB4 HB3 HF HRD HBOX HB2 HV1 HFAR HRR HRV VSZ vS vR HBGE vb hVW hV
      refine range_told2 (by decide) (gf := 29) (lb := #[.pointer (some ⟨B, 0, none⟩)]) rfl (enters_of Try.func29 (by kernel_rfl) rfl)
        (rows_told 8 (by decide) W0.heap.size B co cc xs ps hst wx HLIM.out) (fun _ => rfl)
        (fun pre A => GoA W0 (W4.heap.size + 1) (pre.length : Int) A) (fun c _ A => c = .exit 2 ∧ GoA W0 (W4.heap.size + 1) stop A) (fun pre A A' h hb => h.bl hb)
        (fun pre A h => h.row B0 (by omega) (D0.mono fun j hj => by omega) (Nat.le_refl _))
        (fun pre A l o o' h hl hg ho => h.turn _ hl hg ho) (fun c pre A l o o' h hl hg ho => ⟨h.1, h.2.turn _ hl hg ho⟩) (fun pre => itemAt_turns _ _ _ pre) ⟨Fr.refl _ _, wN⟩ ?round ?done ?stop
      case round =>
        rintro r pre ⟨at_, p, u⟩ Wa A K ⟨hF, hn⟩ ⟨hp, hat, hu⟩ hK
        unfold itemArgs
        dsimp only at hp hat hu ⊢
        have n1 := Boxed.cell hn
        have n2 := Boxed.frozen hn
        have s1 := Boxed.cell (hF.get S0 (by omega))
        have w1 := Boxed.cell (hF.get wW (by omega))
        have hil := (List.getElem?_eq_some_iff.1 hp).1
        obtain ⟨b, o, x, rfl, hbl2, hcell, hx⟩ := (Y0.fr hF (fun j hj hj2 => by omega)).at_ hp
        obtain ⟨uo, uc, rfl⟩ := owns_form3 hu
        have hur := Reads.of_owns hu (hsm.out p (List.mem_of_getElem? hp)).1
        obtain ⟨xo, xc, rfl⟩ : ∃ xo xc, x = .slice xo p.length xc := by
          obtain ⟨⟨⟨_, xo, xc, h, _⟩, _⟩, _⟩ := hx
          exact ⟨xo, xc, h⟩
        have v1 : ∀ nq, (convert 22 9 (.slice uo p.length uc)).run Try.prog (A.drewN nq) = .ok (.string (strOfNums p)) (A.drewN nq) := fun nq => conv_reads (hur.below (bl_drewN (bl_refl _) nq))
        have v2 : ∀ nq, (convert 22 9 (.slice xo p.length xc)).run Try.prog (A.drewN nq) = .ok (.string (strOfNums p)) (A.drewN nq) := fun nq => conv_reads (hx.1.1.below (bl_drewN (bl_refl _) nq))
        have hge := place_ge ps pre.length (Nat.le_of_lt hil)
        rw [← hat] at hge
        clear hat
        have HFA := Lib.hid hF
        have HN := Lib.hid hn
        have HFN : Hid (GoA W0 (W4.heap.size + 1) (pre.length : Int) A) := Lib.hid ⟨hF, hn⟩
        by_cases hst2 : (pre.length : Int) = stop
        · have hb : ((pre.length : Int) == stop) = true := by simpa using hst2
          have hst2 := Lib.hid hst2
          clear hur hx hu hF hn hge hil
          gi_wp2
          exact ⟨KeepsFrom.refl _ _, rfl, HFA.out, by rw [HN.out, hst2.out]⟩
        · have hb : ((pre.length : Int) == stop) = false := by simpa using hst2
          have t1 : (pre.length : Int) < (ps.length : Int) := by omega
          have t2 : ¬ (at_ : Int) < 8 * (pre.length : Int) := by omega
          have t3 : decide (pre.length < ps.length) = true := decide_eq_true hil
          have t4 : decide (ps.length ≤ pre.length) = false := decide_eq_false (by omega)
          have t5 : decide (at_ < 8 * pre.length) = false := decide_eq_false (by omega)
          have hnl : pre.length ≤ 1048576 := Nat.le_of_lt (Nat.lt_of_lt_of_le hil HPL.out)
          clear hst2 hur hx hu hF hn hge hil hm2
          gi_wp2_with fail
          refine region_quiet_round (by kernel_rfl) (by kernel_rfl) (by kernel_rfl) ?_
          repeat (gi_big_quiet_step (fail))
          refine wpQuietIn_nil ?_
          rintro _ ⟨nq, rfl⟩
          gi_wp2
          refine ⟨keeps_put _ _ _ _ _, ?_⟩
          dsimp only
          rw [List.length_append, List.length_singleton]
          exact HFN.out.put nq _
      case done =>
        rintro D xs2 W hD hxs ⟨hF, hn⟩ hDD
        rw [hxs] at hn
        have hor : Hid (((ps.length : Int) = (ps.length : Int)) ∨ (ps.length : Int) = stop) := .inl rfl
        clear hxs
        gi_wp2_with fail
        obtain ⟨_, _, qsz, qb⟩ := two_blocks W (.cells #[.int .i64 0] 3) (.cells #[.int .i64 0] 3)
        have hGB := GoB.start W
        obtain ⟨W5, hW5⟩ : ∃ W5, (W.alloc (.cells #[.int .i64 0] 3)).alloc (.cells #[.int .i64 0] 3) = W5 := ⟨_, rfl⟩
        rw [hW5] at qsz qb hGB ⊢
        have hs0 := hF.size
        have S1 := bl_get qb (hF.get S0 (by omega))
        have R1 := bl_get qb (hF.get R0 (by omega))
        have B1 := bl_get qb (hF.get B0 (by omega))
        have w1 := bl_get qb (hF.get wW (by omega))
        have N1 := bl_get qb hn
        have DD := bl_get qb hDD
        have D1 : Rd (fun k => k < W4.heap.size) (Value.int .u8) W5 (.slice co xs.length cc) xs := (D0.fr hF (fun j hj hj2 => by omega)).below qb
        have Y1 : Pays (fun k => k < W4.heap.size) W5 (.slice wo ps.length wc) ps := (Y0.fr hF (fun j hj hj2 => by omega)).below qb
        have hbl5 : Below w.heap.size w W5 := bl_trans (bl_fr hbl hF (by intro j hj; omega)) qb
        have hDl := lt_of_get hDD
        have hGB : GoB W5 W.heap.size (W.heap.size + 1) 0 (place ps 0) W5 := by rw [place_zero]; exact hGB
        clear hW5 S0 R0 B0 D0 Y0 hF hn hDD qb hbl
        refine range_told2 (by decide) (gf := 29) (lb := #[.pointer (some ⟨B, 0, none⟩)]) rfl (enters_of Try.func29 (by kernel_rfl) rfl)
          (rows_told 8 (by decide) W5.heap.size B co cc xs ps hst wx HLIM.out) (fun _ => rfl)
          (fun pre A => GoB W5 W.heap.size (W.heap.size + 1) pre.length (place ps pre.length) A) (fun _ _ _ => False) (fun pre A A' h hb => h.bl hb)
          (fun pre A h => h.row B1 (by omega) (by omega) (D1.mono fun j hj => by omega) (Nat.le_refl _))
          (fun pre A l o o' h hl hg ho => h.turn _ hl hg ho) (fun _ _ _ _ _ _ h _ _ _ => h) (fun pre => itemAt_turns _ _ _ pre) hGB ?round2 ?done2 ?stop2
        case round2 =>
          rintro r2 pre2 ⟨at_, p, u⟩ Wa2 A K hI ⟨hp, hat, hu⟩ hK
          obtain ⟨hF, hk, hpl⟩ := hI
          unfold itemArgs
          dsimp only at hp hat hu ⊢
          have k1 := Boxed.cell hk
          have k2 := Boxed.frozen hk
          have p1 := Boxed.cell hpl
          have p2 := Boxed.frozen hpl
          have w1 := Boxed.cell (hF.get w1 (by omega))
          have hil := (List.getElem?_eq_some_iff.1 hp).1
          have hnx := place_succ hp
          have hlim2 := (hst.out.2 (pre2.length + 1) hil).2
          obtain ⟨b, o, x, rfl, hbl2, hcell, hx⟩ := (Y1.fr hF (fun j hj hj2 => by omega)).at_ hp
          obtain ⟨uo, uc, rfl⟩ := owns_form3 hu
          have hur := Reads.of_owns hu (hsm.out p (List.mem_of_getElem? hp)).1
          obtain ⟨xo, xc, rfl⟩ : ∃ xo xc, x = .slice xo p.length xc := by
            obtain ⟨⟨⟨_, xo, xc, h, _⟩, _⟩, _⟩ := hx
            exact ⟨xo, xc, h⟩
          have v1 : ∀ nq, (convert 22 9 (.slice uo p.length uc)).run Try.prog (A.drewN nq) = .ok (.string (strOfNums p)) (A.drewN nq) := fun nq => conv_reads (hur.below (bl_drewN (bl_refl _) nq))
          have v2 : ∀ nq, (convert 22 9 (.slice xo p.length xc)).run Try.prog (A.drewN nq) = .ok (.string (strOfNums p)) (A.drewN nq) := fun nq => conv_reads (hx.1.1.below (bl_drewN (bl_refl _) nq))
          rw [hnx] at hlim2
          rw [← hat] at p1 hlim2 hnx
          have HNX := Lib.hid hnx
          have HGO : Hid (GoB W5 W.heap.size (W.heap.size + 1) pre2.length (place ps pre2.length) A) := Lib.hid ⟨hF, hk, hpl⟩
          have t1 : (pre2.length : Int) < (ps.length : Int) := by omega
          have t3 : decide (pre2.length < ps.length) = true := decide_eq_true hil
          have t4 : decide (ps.length ≤ pre2.length) = false := decide_eq_false (by omega)
          have hnl : pre2.length ≤ 1048576 := Nat.le_of_lt (Nat.lt_of_lt_of_le hil HPL.out)
          have hl3 : at_ + (8 + p.length) ≤ 16777216 := Nat.le_trans hlim2 HLIM.out
          clear hur hx hu hF hk hpl hil hlim2 hat hnx hor
          gi_wp2_with fail
          refine region_quiet_round (by kernel_rfl) (by kernel_rfl) (by kernel_rfl) ?_
          repeat (gi_big_quiet_step (fail))
          refine wpQuietIn_nil ?_
          rintro _ ⟨nq, rfl⟩
          gi_wp2
          refine ⟨keeps_put2 _ _ _ _ _ _ _, ?_⟩
          dsimp only
          rw [List.length_append, List.length_singleton, HNX.out]
          exact HGO.out.put (by omega) nq _ _ _ _ (by omega) (by omega)
        case done2 =>
          rintro D2 xs3 W6 hD2 hxs3 ⟨hF, hk, hpl⟩ hDD2
          rw [hxs3] at hk
          have k1 := Boxed.cell hk
          have w1 := Boxed.cell (hF.get w1 (by omega))
          have s1 := Boxed.cell (hF.get S1 (by omega))
          have n1 := Boxed.cell (hF.get N1 (by omega))
          have r0 := hF.get R1 (by omega)
          have d1 := hF.get DD (by omega)
          have hbl6 : Below w.heap.size w W6 := bl_fr hbl5 hF (by intro j hj; omega)
          clear hF hk hpl S1 R1 B1 D1 Y1 N1 hGB hbl5
          gi_wp2_with fail
          refine ⟨trivial, ?_⟩
          refine (callsIn_wide.2 (awake_any _)).mono ?_
          rintro e w7 ⟨rfl, hb7⟩
          have q0 := bl_get hb7 r0
          have q1 := Boxed.cell q0
          have q2 := Boxed.frozen q0
          have e2 := bl_get hb7 hDD2
          have e1 := bl_get hb7 d1
          have hs7 := hb7.size
          clear k1 w1 s1 n1
          gi_wp2
          exact leave4 rfl (by omega) (by omega) (by omega) q0 e2 e1 (bl_trans hbl6 hb7)
        case stop2 =>
          rintro D2 c2 pre2 W6 _ _ h _
          exact h.elim
      case stop =>
        rintro D c pre W hD hpre ⟨rfl, hF, hn⟩ hDD
        have hor : Hid ((stop = (ps.length : Int)) ∨ stop = stop) := .inr rfl
        clear hpre
        gi_wp2_with fail
        obtain ⟨_, _, qsz, qb⟩ := two_blocks W (.cells #[.int .i64 0] 3) (.cells #[.int .i64 0] 3)
        have hGB := GoB.start W
        obtain ⟨W5, hW5⟩ : ∃ W5, (W.alloc (.cells #[.int .i64 0] 3)).alloc (.cells #[.int .i64 0] 3) = W5 := ⟨_, rfl⟩
        rw [hW5] at qsz qb hGB ⊢
        have hs0 := hF.size
        have S1 := bl_get qb (hF.get S0 (by omega))
        have R1 := bl_get qb (hF.get R0 (by omega))
        have B1 := bl_get qb (hF.get B0 (by omega))
        have w1 := bl_get qb (hF.get wW (by omega))
        have N1 := bl_get qb hn
        have DD := bl_get qb hDD
        have D1 : Rd (fun k => k < W4.heap.size) (Value.int .u8) W5 (.slice co xs.length cc) xs := (D0.fr hF (fun j hj hj2 => by omega)).below qb
        have Y1 : Pays (fun k => k < W4.heap.size) W5 (.slice wo ps.length wc) ps := (Y0.fr hF (fun j hj hj2 => by omega)).below qb
        have hbl5 : Below w.heap.size w W5 := bl_trans (bl_fr hbl hF (by intro j hj; omega)) qb
        have hDl := lt_of_get hDD
        have hGB : GoB W5 W.heap.size (W.heap.size + 1) 0 (place ps 0) W5 := by rw [place_zero]; exact hGB
        clear hW5 S0 R0 B0 D0 Y0 hF hn hDD qb hbl
        refine range_told2 (by decide) (gf := 29) (lb := #[.pointer (some ⟨B, 0, none⟩)]) rfl (enters_of Try.func29 (by kernel_rfl) rfl)
          (rows_told 8 (by decide) W5.heap.size B co cc xs ps hst wx HLIM.out) (fun _ => rfl)
          (fun pre A => GoB W5 W.heap.size (W.heap.size + 1) pre.length (place ps pre.length) A) (fun _ _ _ => False) (fun pre A A' h hb => h.bl hb)
          (fun pre A h => h.row B1 (by omega) (by omega) (D1.mono fun j hj => by omega) (Nat.le_refl _))
          (fun pre A l o o' h hl hg ho => h.turn _ hl hg ho) (fun _ _ _ _ _ _ h _ _ _ => h) (fun pre => itemAt_turns _ _ _ pre) hGB ?round2 ?done2 ?stop2
        case round2 =>
          rintro r2 pre2 ⟨at_, p, u⟩ Wa2 A K hI ⟨hp, hat, hu⟩ hK
          obtain ⟨hF, hk, hpl⟩ := hI
          unfold itemArgs
          dsimp only at hp hat hu ⊢
          have k1 := Boxed.cell hk
          have k2 := Boxed.frozen hk
          have p1 := Boxed.cell hpl
          have p2 := Boxed.frozen hpl
          have w1 := Boxed.cell (hF.get w1 (by omega))
          have hil := (List.getElem?_eq_some_iff.1 hp).1
          have hnx := place_succ hp
          have hlim2 := (hst.out.2 (pre2.length + 1) hil).2
          obtain ⟨b, o, x, rfl, hbl2, hcell, hx⟩ := (Y1.fr hF (fun j hj hj2 => by omega)).at_ hp
          obtain ⟨uo, uc, rfl⟩ := owns_form3 hu
          have hur := Reads.of_owns hu (hsm.out p (List.mem_of_getElem? hp)).1
          obtain ⟨xo, xc, rfl⟩ : ∃ xo xc, x = .slice xo p.length xc := by
            obtain ⟨⟨⟨_, xo, xc, h, _⟩, _⟩, _⟩ := hx
            exact ⟨xo, xc, h⟩
          have v1 : ∀ nq, (convert 22 9 (.slice uo p.length uc)).run Try.prog (A.drewN nq) = .ok (.string (strOfNums p)) (A.drewN nq) := fun nq => conv_reads (hur.below (bl_drewN (bl_refl _) nq))
          have v2 : ∀ nq, (convert 22 9 (.slice xo p.length xc)).run Try.prog (A.drewN nq) = .ok (.string (strOfNums p)) (A.drewN nq) := fun nq => conv_reads (hx.1.1.below (bl_drewN (bl_refl _) nq))
          rw [hnx] at hlim2
          rw [← hat] at p1 hlim2 hnx
          have HNX := Lib.hid hnx
          have HGO : Hid (GoB W5 W.heap.size (W.heap.size + 1) pre2.length (place ps pre2.length) A) := Lib.hid ⟨hF, hk, hpl⟩
          have t1 : (pre2.length : Int) < (ps.length : Int) := by omega
          have t3 : decide (pre2.length < ps.length) = true := decide_eq_true hil
          have t4 : decide (ps.length ≤ pre2.length) = false := decide_eq_false (by omega)
          have hnl : pre2.length ≤ 1048576 := Nat.le_of_lt (Nat.lt_of_lt_of_le hil HPL.out)
          have hl3 : at_ + (8 + p.length) ≤ 16777216 := Nat.le_trans hlim2 HLIM.out
          clear hur hx hu hF hk hpl hil hlim2 hat hnx hor
          gi_wp2_with fail
          refine region_quiet_round (by kernel_rfl) (by kernel_rfl) (by kernel_rfl) ?_
          repeat (gi_big_quiet_step (fail))
          refine wpQuietIn_nil ?_
          rintro _ ⟨nq, rfl⟩
          gi_wp2
          refine ⟨keeps_put2 _ _ _ _ _ _ _, ?_⟩
          dsimp only
          rw [List.length_append, List.length_singleton, HNX.out]
          exact HGO.out.put (by omega) nq _ _ _ _ (by omega) (by omega)
        case done2 =>
          rintro D2 xs3 W6 hD2 hxs3 ⟨hF, hk, hpl⟩ hDD2
          rw [hxs3] at hk
          have k1 := Boxed.cell hk
          have w1 := Boxed.cell (hF.get w1 (by omega))
          have s1 := Boxed.cell (hF.get S1 (by omega))
          have n1 := Boxed.cell (hF.get N1 (by omega))
          have r0 := hF.get R1 (by omega)
          have d1 := hF.get DD (by omega)
          have hbl6 : Below w.heap.size w W6 := bl_fr hbl5 hF (by intro j hj; omega)
          clear hF hk hpl S1 R1 B1 D1 Y1 N1 hGB hbl5
          by_cases hsp : stop = (ps.length : Int)
          · have hb : (stop == (ps.length : Int)) = true := by simpa using hsp
            have HSP := Lib.hid hsp
            clear hsp
            gi_wp2_with fail
            refine ⟨trivial, ?_⟩
            refine (callsIn_wide.2 (awake_any _)).mono ?_
            rintro e w7 ⟨rfl, hb7⟩
            have q0 := bl_get hb7 r0
            have q1 := Boxed.cell q0
            have q2 := Boxed.frozen q0
            have e2 := bl_get hb7 hDD2
            have e1 := bl_get hb7 d1
            have hs7 := hb7.size
            clear k1 w1 s1 n1
            gi_wp2
            exact leave4 rfl (by omega) (by omega) (by omega) q0 e2 e1 (bl_trans hbl6 hb7)
          · have hb : (stop == (ps.length : Int)) = false := by simpa using hsp
            clear hsp
            gi_wp2_with fail
            refine ⟨trivial, ?_⟩
            refine (callsIn_wide.2 (awake_any _)).mono ?_
            rintro e w7 ⟨rfl, hb7⟩
            have q0 := bl_get hb7 r0
            have q1 := Boxed.cell q0
            have q2 := Boxed.frozen q0
            have e2 := bl_get hb7 hDD2
            have e1 := bl_get hb7 d1
            have hs7 := hb7.size
            clear k1 w1 s1 n1
            gi_wp2
            exact leave4 rfl (by omega) (by omega) (by omega) q0 e2 e1 (bl_trans hbl6 hb7)
        case stop2 =>
          rintro D2 c2 pre2 W6 _ _ h _
          exact h.elim

end Go.Proofs.Ytaembdlidaogdaa
