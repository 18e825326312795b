/- The walk of the statement RecvAsks. Conditions: the argument's own. -/
import Derived.RegionTactic
import Derived.BigRegion
import Derived.Deep.RegionHeld3
import Derived.Deep.DrawnRows
import Derived.Shelf.RegionOpen
import Derived.Test.YtagbaoakablfpaaRcvAwake
import Derived.Test.YtagbaoakablfpaaWinRefL
import Derived.Test.YtagbaoakablfpaaOpenActs
namespace Go.Proofs.Ytagbaoakablfpaa
open Go.RowKit

theorem missing_in {r : Rcv} {n : Int} (hn : n ∈ r.missing) : 0 ≤ n ∧ n < 128 := by
  unfold Rcv.missing at hn
  cases hl : r.numbers.getLast? with
  | none => rw [hl] at hn; cases hn
  | some t =>
    rw [hl] at hn
    unfold missed at hn
    obtain ⟨x, _, rfl⟩ := List.mem_map.1 hn
    exact x.2
theorem has_yes {l : List Int} {x : Int} (h : x ∈ l) (hx : 0 ≤ x ∧ x < 128) : hasN l x = true :=
  List.any_eq_true.2 ⟨x, h, by simp; omega⟩
theorem has_no {l : List Int} {x : Int} (h : x ∉ l) (hl : ∀ y ∈ l, 0 ≤ y ∧ y < 128) : hasN l x = false := by
  cases hh : hasN l x with
  | false => rfl
  | true =>
    obtain ⟨y, hy, he⟩ := List.any_eq_true.1 hh
    have h2 := hl y hy
    have h3 : y % 128 = x := by simpa using he
    have h4 : y = x := by omega
    exact absurd (h4 ▸ hy) h

set_option maxRecDepth 100000 in
set_option maxHeartbeats 1000000 in
theorem asks_bad (n : Int) (v : Value) (h : n < 1 ∨ 63 < n) (w : World) :
    Calls Try.prog 3 #[.int .i64 n, v] w fun e w' => e = .returned (.bool true) ∧ Below w.heap.size w w' := by
  have HN := Lib.hid (rcnew_bad n h w)
  have HA := Lib.hid (awake8_any w)
  rcases h with h | h
  · go_enter Try.func3, Try.ntmps3
    go_wp2_with fail
    refine HN.out.mono ?_
    rintro e w1 ⟨rfl, rfl⟩
    go_wp2_with fail
    refine HA.out.mono ?_
    rintro e w3 ⟨rfl, hb3⟩
    go_wp2
    go_ret
    exact ⟨rfl, hb3⟩
  · have h1 : ¬ n < 1 := by omega
    go_enter Try.func3, Try.ntmps3
    go_wp2_with fail
    refine HN.out.mono ?_
    rintro e w1 ⟨rfl, rfl⟩
    go_wp2_with fail
    refine HA.out.mono ?_
    rintro e w3 ⟨rfl, hb3⟩
    go_wp2
    go_ret
    exact ⟨rfl, hb3⟩

/-- The receiver of the law, and what it asked for. -/
structure AskAt (w : World) (C : Nat → Prop) (g : Nat) (i : Nat) (r : Rcv) (ov : Value) (opn : List Int) (wr : World) : Prop where
  dat : ∃ D, RcvAt C D wr g r ∧ (∀ k, D k → w.heap.size ≤ k ∧ k < wr.heap.size)
  ok : r.Ok
  bnd : Bnd (128 * i) r.asked
  cnt : ∀ n ∈ opn, 1 ≤ getC r.asked n
  inn : ∀ n ∈ opn, 0 ≤ n ∧ n < 128
  rd : Rd (fun k => w.heap.size ≤ k ∧ k < wr.heap.size ∧ ¬ C k) (Value.int .i64) wr ov opn
  bl : Below w.heap.size w wr
  cb : ∀ k, C k → k < wr.heap.size

theorem held8 {w w' : World} {b o i : Nat} {x y : Value} (hb : b < w.heap.size) (h1 : w.cell? ⟨b, o + i * 3 + 1, none⟩ = some x) (h2 : w.cell? ⟨b, o + i * 3 + 2, none⟩ = some y) (hB : Below w.heap.size w w') :
    Below w.heap.size w w' ∧ w'.cell? ⟨b, o + i * 3 + 1, none⟩ = some x ∧ w'.cell? ⟨b, o + i * 3 + 2, none⟩ = some y :=
  ⟨hB, (hB.cell (p := ⟨b, _, none⟩) hb).trans h1, (hB.cell (p := ⟨b, _, none⟩) hb).trans h2⟩
/-- The next round of the law's, behind a Take that was right or not. -/
theorem AskAt.keep {w : World} {C : Nat → Prop} {g i : Nat} {r : Rcv} {ov : Value} {opn : List Int} {wr w4 : World} (h : AskAt w C g i r ov opn wr) {D : Nat → Prop} {r' : Rcv} (hF : Fr C wr w4) (hC : ∀ k, C k → w.heap.size ≤ k) (hD : ∀ k, D k → w.heap.size ≤ k ∧ k < w4.heap.size)
    (hs : RcvAt C D w4 g r') (hok : r'.Ok) (hb : Bnd (128 * (i + 1)) r'.asked) {ov' : Value} {opn' : List Int} (hc : ∀ n ∈ opn', 1 ≤ getC r'.asked n) (hi : ∀ n ∈ opn', 0 ≤ n ∧ n < 128) (hr : Rd (fun k => w.heap.size ≤ k ∧ k < w4.heap.size ∧ ¬ C k) (Value.int .i64) w4 ov' opn') : AskAt w C g (i + 1) r' ov' opn' w4 :=
  ⟨⟨D, hs, hD⟩, hok, hb, hc, hi, hr, bl_fr h.bl hF hC, fun k hk => Nat.lt_of_lt_of_le (h.cb k hk) hF.size⟩

theorem asks_le (r : Rcv) (ns : Int) (p : List Int) : (r.asks ns p).length ≤ 128 := by
  have h := rmissing_le' (r.gone ns p).2
  have h2 : ∀ (l : List Int) (s : List (Int × Int) × List Int), (l.foldl askOne s).2.length ≤ s.2.length + l.length := by
    intro l
    induction l with
    | nil => intro s; simp
    | cons x l ih =>
      intro s
      refine Nat.le_trans (ih _) ?_
      simp only [askOne, List.length_cons]
      split <;> simp <;> omega
  have h3 := h2 (r.gone ns p).2.missing ((r.gone ns p).2.asked, [])
  simp only [List.length_nil, Nat.zero_add] at h3
  exact Nat.le_trans h3 h

set_option maxRecDepth 100000 in
set_option maxHeartbeats 6000000 in
theorem asks_ok (n : Nat) (v : Value) (l : List Act3) (h1 : 1 ≤ n) (h2 : n ≤ 63) (w : World) (hl : ActsAt w.heap.size w v l) :
    Calls Try.prog 3 #[.int .i64 n, v] w fun e w' => e = .returned (.bool true) ∧ Below w.heap.size w w' := by
  obtain ⟨hlm, ao, cap, rfl, hlc⟩ : l.length ≤ maxLen ∧ ∃ ao cap, v = .slice ao l.length cap ∧ l.length ≤ cap := by
    obtain ⟨hm, ao, cap, hv, hl, _⟩ := hl
    exact ⟨hm, ao, cap, hv, hl⟩
  go_enter Try.func3, Try.ntmps3
  go_wp2_with fail
  refine (rcnew_ok n h1 h2 _).mono ?_
  rintro e w1 ⟨rfl, hs, hB⟩
  obtain ⟨C, hC⟩ : ∃ C : Nat → Prop, (fun k => w.heap.size ≤ k ∧ k < w1.heap.size) = C := ⟨_, rfl⟩
  have hCb : Hid (∀ k, C k → w.heap.size ≤ k ∧ k < w1.heap.size) := fun k hk => by rw [← hC] at hk; exact hk
  rw [hC] at hs
  obtain ⟨g, hg⟩ : ∃ g, w.heap.size = g := ⟨_, rfl⟩
  rw [hg] at hs ⊢
  have h0 : AskAt w C g 0 ⟨n, 0, [], []⟩ (.slice (some ⟨w1.heap.size, 0, none⟩) 0 0) [] (w1.alloc (.cells #[] 3)) := by
    have hb2 := bl_alloc (bl_refl w1) (.cells #[] 3)
    have hz := hB.size
    have hz2 : (w1.alloc (.cells #[] 3)).heap.size = w1.heap.size + 1 := by simp
    exact ⟨⟨fun _ => False, hs.below hb2, fun k hk => hk.elim⟩, new_ok h1 h2, fun x hx => by simp at hx, fun x hx => by simp at hx, fun x hx => by simp at hx, ⟨⟨by simp, _, _, rfl, ⟨by simp, fun h => by cases h⟩, fun i x hx => by simp at hx⟩, fun k hk => by
      have : w1.heap.size = k := by simpa [Value.ownBlock] using hk
      subst this
      exact ⟨by omega, by omega, fun hc => by have := hCb.out _ hc; omega⟩⟩, bl_trans hB hb2, fun k hk => by have := hCb.out k hk; omega⟩
  have HL := Lib.hid hl
  have HG := Lib.hid hg
  have H0 := Lib.hid h0
  have HSZ := Lib.hid hB.size
  clear hl hg h0 hs hB hC
  go_wp2_with fail
  go_loopw [7, 8] (fun ov iv wr => ∃ (i : Nat) (r : Rcv) (oo : Option Addr) (oc : Nat) (opn : List Int), iv = .int .i64 i ∧ i ≤ l.length ∧ i ≤ 200 ∧ ov = .slice oo opn.length oc ∧ Hid (AskAt w C g i r ov opn wr)) (fun _ iv _ => 200 - (intOf iv).toNat)
  case atStart => exact ⟨0, _, _, _, _, rfl, by omega, by omega, rfl, H0.out⟩
  case round =>
    clear H0
    obtain ⟨i, r, oo, oc, opn, rfl, hi1, hi2, rfl, HI⟩ := hrel
    by_cases hlt : i < l.length ∧ i < 200
    · obtain ⟨hlt1, hlt2⟩ := hlt
      obtain ⟨c, hci⟩ := get_some hlt1
      obtain ⟨b, o, x, rfl, hbw, hc0, hc1, hc2, hx, hxl, _, _⟩ := HL.out.at_ hci
      have HB := Lib.hid HI.out.bl
      have HC1 := Lib.hid hc1
      have HC2 := Lib.hid hc2
      unfold Hid at HC1 HC2
      rw [← Nat.add_assoc] at HC1 HC2
      have HC1 := Lib.hid HC1
      have HC2 := Lib.hid HC2
      have HCG : Hid (∀ k, C k → w.heap.size ≤ k) := fun k hk => (hCb.out k hk).1
      replace hc1 := (HB.out.cell (p := ⟨b, _, none⟩) hbw).trans hc1
      replace hc2 := (HB.out.cell (p := ⟨b, _, none⟩) hbw).trans hc2
      have HX := Lib.hid (hx.below HB.out)
      rw [← Nat.add_assoc] at hc1 hc2
      obtain ⟨D, hR, hD⟩ := HI.out.dat
      have HR := Lib.hid hR
      have HD := Lib.hid hD
      have f0 : (0 : Int) ≤ (i : Int) := by omega
      have f1 : (i : Int) < (l.length : Int) := by omega
      have f2 : (i : Int) < 200 := by omega
      have f3 : i < l.length := hlt1
      have HTK := fun W : World => fun hb : Below wr.heap.size wr W => rctake_any C D g r HI.out.ok c.n x c.p W (HR.out.below hb) (fun k hk => by
        have h1 := hb.size
        have h2 := HB.out.size
        have h3 := HSZ.out
        rcases hk with hk | hk
        · have := HI.out.cb k hk; omega
        · have := HD.out k hk; omega) (HX.out.1.below hb) HX.out.2.1
      clear hci hx hc0 hR hD
      go_wp2_with fail
      go_region_held3 (fun w' => Below w.heap.size w w' ∧ w'.cell? ⟨b, o + i * 3 + 1, none⟩ = some (.int .i64 c.n) ∧ w'.cell? ⟨b, o + i * 3 + 2, none⟩ = some x)
        (exact held8 hbw HC1.out HC2.out (by first | exact HB.out | exact bl_drew HB.out | exact bl_fr (bl_drew HB.out) hF4 HCG.out))
        (first | (go_at_call 9; refine (HTK _ (by first | assumption | exact bl_drew (bl_refl _))).mono ?_; rintro e w4 ⟨tv, av, rfl, hs4, hF4, hP4, hO4⟩))
      have HF4 : Hid (Fr C wr w4) := (Fr.of_below (bl_drew (bl_refl wr))).trans hF4 (fun k hk => .inl hk)
      have HS4 : Hid (RcvAt C (fun k => D k ∨ (wr.heap.size ≤ k ∧ k < w4.heap.size)) w4 g (r.take c.n c.p)) := hs4
      have HO4 : Hid (w4.ownsRow wr.heap.size 3 1 av (r.wants c.n c.p).length ((r.wants c.n c.p).map (Value.int .i64))) := hO4
      clear hF4 hs4 hO4 hP4 HTK
      obtain ⟨E, hE⟩ : ∃ E, r.chk c.n c.p.length = E := ⟨_, rfl⟩
      rw [hE]
      by_cases hz : E = 0
      · subst hz
        have hwant : r.wants c.n c.p = r.asks c.n c.p := by unfold Rcv.wants; rw [if_pos hE]
        have htake : r.take c.n c.p = r.took c.n c.p := by unfold Rcv.take; rw [if_pos hE]
        rw [hwant] at HO4
        rw [htake] at HS4
        obtain ⟨k1, k2, k3⟩ := asks_law HI.out.ok HI.out.bnd (by omega) HI.out.cnt hE
        have HK1 := Lib.hid k1
        have HK2 := Lib.hid k2
        have HOK := Lib.hid (HI.out.ok.took hE).1
        have hal : (r.asks c.n c.p).length ≤ 128 := asks_le r c.n c.p
        have HMS := Lib.hid (rcmissing_any _ _ g _ w4 HS4.out (by have := HOK.out.len; have := HOK.out.size2; omega))
        have HM1 : Hid (∀ n ∈ (r.took c.n c.p).missing, 0 ≤ n ∧ n < 128) := fun n hn => missing_in hn
        have hml := rmissing_le' (r.took c.n c.p)
        obtain ⟨al, hal2⟩ : ∃ al, r.asks c.n c.p = al := ⟨_, rfl⟩
        obtain ⟨ms, hms⟩ : ∃ ms, (r.took c.n c.p).missing = ms := ⟨_, rfl⟩
        obtain ⟨r', hr'⟩ : ∃ r', r.took c.n c.p = r' := ⟨_, rfl⟩
        rw [hms] at HK2 HMS HM1 hml k3
        rw [hal2] at HO4 hal k3
        rw [hr'] at HK1 HK2 HOK HS4
        have HK3 := Lib.hid k3
        clear hwant htake k1 k2 k3 hal2 hms hr' hc1 hc2
        obtain ⟨alo, alc, rfl⟩ := rc_form HO4.out
        go_wp2_with fail
        refine HMS.out.mono ?_
        rintro e w5 ⟨mv, rfl, hmv, hb5⟩
        have hrm := (Rd.of_owns hmv (by unfold maxLen; omega)).mono (G := fun k => w.heap.size ≤ k ∧ k < w5.heap.size ∧ ¬ C k) (fun k hk => by
          have h1 := HF4.out.size
          have h2 := HB.out.size
          exact ⟨by omega, hk.2, fun hc => by have := HI.out.cb k hc; omega⟩)
        obtain ⟨mo, mc, rfl⟩ := rc_form hmv
        have HRM := Lib.hid hrm
        have HRA := Lib.hid ((Reads.of_owns HO4.out (by unfold maxLen; omega)).below hb5)
        have HRO := Lib.hid ((HI.out.rd.fr HF4.out (fun k hk => hk.2.2)).below hb5)
        have HNX : Hid (AskAt w C g (i + 1) r' (.slice mo ms.length mc) ms w5) := HI.out.keep (HF4.out.then_below hb5) HCG.out (fun k hk => by
          have h1 := HF4.out.size
          have h2 := HB.out.size
          have h3 := hb5.size
          rcases hk with hk | hk
          · have := HD.out k hk; omega
          · omega) (HS4.out.below hb5) HOK.out (HK1.out.mono (by omega)) HK2.out HM1.out HRM.out
        clear hmv hb5 hrm HMS
        go_wp2_with fail
        go_loopw [13] (fun kv wx => ∃ k : Nat, kv = .int .i64 k ∧ k ≤ al.length ∧ wx = w5) (fun kv _ => al.length - (intOf kv).toNat)
        case atStart => exact ⟨0, rfl, by omega, rfl⟩
        case round =>
          obtain ⟨k, rfl, hkl, rfl⟩ := hrel
          by_cases hkt : k < al.length
          · obtain ⟨y, hy⟩ := get_some hkt
            obtain ⟨ab, ao2, rfl, hca⟩ : ∃ ab ao2, alo = some ⟨ab, ao2, none⟩ ∧ wr.cell? ⟨ab, ao2 + k, none⟩ = some (.int .i64 y) := by
              obtain ⟨_, ao', ac', hv, _, hc⟩ := HRA.out
              cases hv
              obtain ⟨b', o', ha, hcell⟩ := hc k y hy
              exact ⟨b', o', ha, hcell⟩
            obtain ⟨y1, y2⟩ := HK3.out y (List.mem_of_getElem? hy)
            have hin := HM1.out y y1
            have H1 := Lib.hid (rhas_any _ opn y wr HRO.out.1)
            have H2 := Lib.hid (rhas_any _ ms y wr HRM.out.1)
            rw [has_no y2 HI.out.inn] at H1
            rw [has_yes y1 hin] at H2
            have e1 : (k : Int) < (al.length : Int) := by omega
            have e2 : (0 : Int) ≤ (k : Int) := by omega
            have e3 : (k : Int) < 128 := by omega
            clear hy y1 y2 hin
            go_wp2_with fail
            refine H1.out.mono ?_
            rintro e w6 ⟨rfl, rfl⟩
            go_wp2_with fail
            refine H2.out.mono ?_
            rintro e w6 ⟨rfl, rfl⟩
            go_wp2_with fail
            refine ⟨⟨k + 1, by go_num, by omega, trivial⟩, ?_⟩
            simp [intOf]; omega
          · have hk : k = al.length := by omega
            subst hk
            have e1 : ¬ ((al.length : Nat) : Int) < (al.length : Int) := by omega
            have e3 : (i : Int) < 200 := by omega
            go_wp2_with fail
            refine ⟨⟨i + 1, r', mo, mc, ms, by go_num, by omega, by omega, rfl, HNX.out⟩, ?_⟩
            simp [intOf]; omega
      · have g0 : (E == 0) = false := by simpa using hz
        have hne : r.chk c.n c.p.length ≠ 0 := by rw [hE]; exact hz
        have htake : r.take c.n c.p = r := by unfold Rcv.take; rw [if_neg hne]
        rw [htake] at HS4
        have HNX : Hid (AskAt w C g (i + 1) r (.slice oo opn.length oc) opn w4) := HI.out.keep HF4.out HCG.out (fun k hk => by
          have h1 := HF4.out.size
          have h2 := HB.out.size
          rcases hk with hk | hk
          · have := HD.out k hk; omega
          · omega) HS4.out HI.out.ok (HI.out.bnd.mono (by omega)) HI.out.cnt HI.out.inn ((HI.out.rd.fr HF4.out (fun k hk => hk.2.2)).mono (fun k hk => ⟨hk.1, Nat.lt_of_lt_of_le hk.2.1 HF4.out.size, hk.2.2⟩))
        clear hE htake hne hc1 hc2
        go_wp2_with fail
        refine ⟨⟨i + 1, r, oo, oc, opn, by go_num, by omega, by omega, rfl, HNX.out⟩, ?_⟩
        simp [intOf]; omega
    · have HB := Lib.hid HI.out.bl
      have HA := Lib.hid (awake8_any wr)
      by_cases hlt1 : i < l.length
      · have h200 : i = 200 := by omega
        subst h200
        go_wp2_with fail
        refine HA.out.mono ?_
        rintro e w6 ⟨rfl, hb6⟩
        go_wp2
        go_ret
        refine ⟨rfl, ?_⟩

        exact bl_trans HB.out hb6
      · have hle : i = l.length := by omega
        subst hle
        go_wp2_with fail
        refine HA.out.mono ?_
        rintro e w6 ⟨rfl, hb6⟩
        go_wp2
        go_ret
        refine ⟨rfl, ?_⟩

        exact bl_trans HB.out hb6

theorem walkRecvAsks (n : Int) (hn : (Lit.int .i64 n).wf = true) (v : Value) (l : List Act3) (w : World) (hl : ActsAt w.heap.size w v l) :
    Calls Try.prog 3 #[.int .i64 n, v] w fun e w' => e = .returned (.bool true) ∧ Below w.heap.size w w' := by
  by_cases h : n < 1 ∨ 63 < n
  · exact asks_bad n v h w
  · obtain ⟨m, rfl⟩ : ∃ m : Nat, n = m := ⟨n.toNat, by omega⟩
    exact asks_ok m v l (by omega) (by omega) w hl

end Go.Proofs.Ytagbaoakablfpaa
