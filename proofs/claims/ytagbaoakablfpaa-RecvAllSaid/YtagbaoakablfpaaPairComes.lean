/- portagelaw08's pair.comes, begin. Conditions: as they stand. -/
import Derived.Deep.RegionHeld3
import Derived.Deep.DrawnRows
import Derived.Test.YtagbaoakablfpaaPair
namespace Go.Proofs.Ytagbaoakablfpaa
open Go.RowKit

theorem tells_le {r : Rcv} (h : r.Ok) (ns : Int) (p : List Int) : (r.tells ns p).length ≤ 64 := by
  unfold Rcv.tells
  split
  · rename_i hc
    have h1 := (h.put hc p).1
    obtain ⟨_, h2, _, _⟩ := drain_ok (r.with_ ns p).kept.length _ h1
    have h3 := h1.len
    have h4 := h1.size2
    exact Nat.le_trans h2 (by omega)
  · simp
theorem held_comes {w w' : World} {pb bx : Nat} {x y z : Value} {G : Nat → Prop} (h0 : w.cell? ⟨pb, 1, none⟩ = some x) (h1 : w.cell? ⟨bx, 1, none⟩ = some y) (h2 : w.cell? ⟨bx, 2, none⟩ = some z) (hf : Fr G w w') (n1 : ¬ G pb) (n2 : ¬ G bx) :
    w'.cell? ⟨pb, 1, none⟩ = some x ∧ w'.cell? ⟨bx, 1, none⟩ = some y ∧ w'.cell? ⟨bx, 2, none⟩ = some z := ⟨hf.cell h0 n1, hf.cell h1 n2, hf.cell h2 n2⟩
theorem infoPays : (Try.prog.info? 32).map (fun i => (i.zero, i.size, i.bytes)) = some (some (.slice none 0 0), 1, 24) := by kernel_rfl

theorem paint_back {col : Nat → Nat} {w w' : World} {n c k : Nat} (h : paint col w w' n k = c) (hc : c ≠ n) : col k = c := by
  by_cases hk : w.heap.size ≤ k ∧ k < w'.heap.size
  · rw [paint_new hk.1 hk.2] at h
    omega
  · unfold paint at h
    rw [if_neg hk] at h
    exact h

set_option maxRecDepth 100000 in
set_option maxHeartbeats 2000000 in
theorem comes_any (B : Nat) (col : Nat → Nat) (w : World) (pb sg rg : Nat) (pv wv tv : Value) (t : PSt) (h : PairAt B col w pb sg rg pv wv tv t) (hok : t.r.Ok) (k n : Int) (x : Value) (p : List Int) (hr : Reads (Value.int .u8) w x p) (hpw : ∀ n ∈ p, (Lit.int .u8 n).wf = true) (hm : t.told.length ≤ 100000) :
    Calls Try.prog 22 #[.pointer (some ⟨pb, 0, none⟩), .agg #[.int .i64 k, .int .i64 n, x]] w fun e w' => (∃ v, e = .returned v) ∧ (∃ col' tv', PairAt B col' w' pb sg rg pv wv tv' { t with r := t.r.take n p, told := t.told ++ t.r.tells n p } ∧ ∀ k, k < w.heap.size → col' k = col k) ∧ Fr (fun k => col k = 1 ∨ col k = 3 ∨ col k = 6) w w' := by
  obtain ⟨xo, xc, rfl⟩ : ∃ xo xc, x = .slice xo p.length xc := by
    obtain ⟨_, ao, cap, h, _⟩ := hr
    exact ⟨ao, cap, h⟩
  obtain ⟨i1, gi, gz0, gz1, gz2⟩ := info_parts (infoPays)
  have hba := bl_alloc (bl_refl w) (.cells #[.int .i64 k, .int .i64 n, .slice xo p.length xc] 34)
  have hbx := heap_alloc_new w (.cells #[.int .i64 k, .int .i64 n, .slice xo p.length xc] 34)
  have hr1 := hr.below hba
  have h1 := h.skip (n := 0) hba
  have hbx0 : paint col w (w.alloc (.cells #[.int .i64 k, .int .i64 n, .slice xo p.length xc] 34)) 0 w.heap.size = 0 := paint_new (Nat.le_refl _) (lt_of_get hbx)
  have hBB : Below B w (w.alloc (.cells #[.int .i64 k, .int .i64 n, .slice xo p.length xc] 34)) := hba.mono h.cols.1
  obtain ⟨w1, hw1⟩ : ∃ w1, w.alloc (.cells #[.int .i64 k, .int .i64 n, .slice xo p.length xc] 34) = w1 := ⟨_, rfl⟩
  rw [hw1] at hbx hr1 h1 hbx0 hBB hba
  have HBA := Lib.hid hba
  have HK1 : Hid (∀ c k, paint col w w1 0 k = c → c ≠ 0 → col k = c) := fun c k h0 h1 => paint_back h0 h1
  have HQ1 : Hid (∀ k, k < w.heap.size → paint col w w1 0 k = col k) := fun k hk => paint_old hk
  generalize paint col w w1 0 = c1 at h1 hbx0 HK1 HQ1
  obtain ⟨d0, d1, d2⟩ : w1.cell? ⟨w.heap.size, 0, none⟩ = some (.int .i64 k) ∧ w1.cell? ⟨w.heap.size, 1, none⟩ = some (.int .i64 n) ∧ w1.cell? ⟨w.heap.size, 2, none⟩ = some (.slice xo p.length xc) := by
    refine ⟨?_, ?_, ?_⟩ <;> (rw [cell_of_row _ _ _ _ _ _ hbx]; rfl)
  obtain ⟨e0, e1, e2, e3, e4⟩ := h1.cells
  have HTK := fun W : World => fun hb : Below w1.heap.size w1 W => rctake_any (fun k => c1 k = 3) (fun k => c1 k = 7) rg t.r hok n (.slice xo p.length xc) p W (h1.rcv.below hb) (fun k hk => Nat.lt_of_lt_of_le ((h1.cols.2 k (by rcases hk with hk | hk <;> omega)).2) hb.size) (hr1.below hb) hpw
  have H1 := Lib.hid h1
  have HBB := Lib.hid hBB
  have HE1 := Lib.hid e1
  have HD1 := Lib.hid d1
  have HD2 := Lib.hid d2
  have hno := h1.own
  have hn1 : Hid (¬ c1 pb = 3) := by unfold Hid; omega
  have hn2 : Hid (¬ c1 w.heap.size = 3) := by unfold Hid; omega
  have HT := Lib.hid (tells_le hok n p)
  clear hba hbx hr hr1 h h1 hbx0 hBB e0 e2 e3 e4 d0 hno
  go_enter Try.func22, Try.ntmps22
  go_wp2_with fail
  try simp only [hw1]
  go_region_held3 (fun w' => w'.cell? ⟨pb, 1, none⟩ = some (.pointer (some ⟨rg, 0, none⟩)) ∧ w'.cell? ⟨w.heap.size, 1, none⟩ = some (.int .i64 n) ∧ w'.cell? ⟨w.heap.size, 2, none⟩ = some (.slice xo p.length xc))
    (first | exact ⟨e1, d1, d2⟩ | exact held_comes HE1.out HD1.out HD2.out ((Fr.of_below (bl_drew (bl_refl w1))).trans hF4 (fun k hk => .inl hk)) hn1.out hn2.out)
    (first | (go_at_call 9; refine (HTK _ (by first | assumption | exact bl_drew (bl_refl _))).mono ?_; rintro e w4 ⟨lv, av, rfl, hs4, hF4, hP4, hO4⟩))
  have hf4 : Fr (fun k => c1 k = 3) w1 w4 := (Fr.of_below (bl_drew (bl_refl w1))).trans hF4 (fun k hk => .inl hk)
  have h4 := H1.out.came hf4 hs4
  have hP5 : Pays (fun k => paint c1 w1 w4 7 k = 7) w4 lv (t.r.tells n p) := hP4.mono fun k hk => by
    rcases hk with hk | hk
    · exact H1.out.cols.keep hk (by omega)
    · exact paint_new hk.1 hk.2
  have HF4 := Lib.hid hf4
  have HK4 : Hid (∀ c k, paint c1 w1 w4 7 k = c → c ≠ 7 → c1 k = c) := fun c k h0 h1 => paint_back h0 h1
  have HQ4 : Hid (∀ k, k < w1.heap.size → paint c1 w1 w4 7 k = c1 k) := fun k hk => paint_old hk
  generalize paint c1 w1 w4 7 = c4 at h4 hP5 HK4 HQ4
  obtain ⟨ys, hl, hrl, hY⟩ := hP5
  obtain ⟨e0, e1', e2, e3, e4⟩ := h4.cells
  have hno := h4.own
  have H4 := Lib.hid h4
  have HR := Lib.hid hrl.1
  have HY := Lib.hid hY
  have HL := Lib.hid hl
  obtain ⟨lo, lc, hlv⟩ : ∃ lo lc, lv = .slice lo ys.length lc := by
    obtain ⟨⟨_, ao, cap, h, _⟩, _⟩ := hrl
    exact ⟨ao, cap, h⟩
  subst hlv
  obtain ⟨vs, v1, v2, v3, v4⟩ := h4.told
  obtain ⟨to, tc, htv⟩ := rc_form v2
  have hz4 := rc_frozen (j := 4) h4.hb
  have HM : Hid (t.told.length + (t.r.tells n p).length ≤ 1000000) := by have := HT.out; unfold Hid; omega
  subst htv
  clear hs4 hF4 hP4 hO4 hf4 h4 hrl hY hl v1 v2 v3 v4 HTK e0 e1' e2 e3 d1 d2
  go_wp2_with (at_builtin; refine wpList_rows _ rfl (.tmp 24) (.tmp 25) 29 rfl Try.underlying29 gi gz0 gz1 gz2 (d := 6) (by omega) (by omega) H4.out.cols rfl H4.out.told rfl HR.out HL.out HY.out HM.out ?_; intro l2 w5 hR5 hF5; have z5 := rc_frozen (j := 4) (hF5.get H4.out.hb (fun e => by have := H4.out.own; omega)); have c5 := hF5.cell e4 (fun e => by have := H4.out.own; omega); have HR5 := Lib.hid hR5; obtain ⟨us, u1, u2, u3, u4⟩ := hR5; obtain ⟨lo2, lc2, hl2⟩ := rc_form u2; subst hl2; have HF5 := Lib.hid hF5; clear u1 u2 u3 u4 hF5 e4)
  go_end0
  have hq := fr_cell w5 pb 4 (.slice lo2 us.length lc2)
  have hsz1 := HBA.out.size
  have hsz4 := HF4.out.size
  have hsz5 := HF5.out.size
  have hown := H1.out.own
  have hpb := H1.out.cols.2 pb (by omega)
  refine ⟨⟨_, rfl⟩, ⟨_, ⟨_, H4.out.told_set HF5.out HR5.out⟩, fun k hk => by rw [paint_old (by omega), HQ4.out k (by omega), HQ1.out k hk]⟩, ?_⟩
  refine Fr.trans (Fr.trans (Fr.trans (.of_below HBA.out) HF4.out (fun k hk => .inl (.inr (.inl (HK1.out _ k hk (by omega)))))) HF5.out (fun k hk => .inl (.inr (.inr (HK1.out _ k (HK4.out _ k hk (by omega)) (by omega)))))) hq (fun k hk => .inl (.inl (by subst hk; exact HK1.out _ _ hown (by omega))))

set_option maxRecDepth 100000 in
set_option maxHeartbeats 2000000 in
theorem begin_bad (n : Int) (h : n < 1 ∨ 63 < n) (w : World) :
    Calls Try.prog 16 #[.int .i64 n] w fun e w' => e = .returned (.pointer none) ∧ w = w' := by
  have H1 := Lib.hid (snew_bad n h w)
  have H2 := Lib.hid (rcnew_bad n h w)
  go_enter Try.func16, Try.ntmps16
  go_wp2_with fail
  refine H1.out.mono ?_
  rintro e w1 ⟨rfl, rfl⟩
  go_wp2_with fail
  refine H2.out.mono ?_
  rintro e w1 ⟨rfl, rfl⟩
  go_wp2
  go_ret
  exact ⟨rfl, rfl⟩

set_option maxRecDepth 100000 in
set_option maxHeartbeats 2000000 in
theorem begin_ok (n : Nat) (h1 : 1 ≤ n) (h2 : n ≤ 63) (w : World) :
    Calls Try.prog 16 #[.int .i64 n] w fun e w' => ∃ pb, e = .returned (.pointer (some ⟨pb, 0, none⟩)) ∧ ∃ col sg rg pv wv tv, PairAt w.heap.size col w' pb sg rg pv wv tv ⟨⟨n, 0, [], 0⟩, ⟨n, 0, [], []⟩, [], [], []⟩ ∧ Below w.heap.size w w' := by
  have H1 := Lib.hid (snew_ok n h1 h2 w)
  go_enter Try.func16, Try.ntmps16
  go_wp2_with fail
  refine H1.out.mono ?_
  rintro e w1 ⟨rfl, hs, hb⟩
  have hsz := hb.size
  have hsl := hs.1 _ rfl
  have HS := Lib.hid hs
  have HB := Lib.hid hb
  clear hs hb
  go_wp2_with fail
  refine (rcnew_ok n h1 h2 w1).mono ?_
  rintro e w2 ⟨rfl, hr, hb2⟩
  have HR := Lib.hid hr
  have HB2 := Lib.hid hb2
  have hrl : w1.heap.size < w2.heap.size := by
    obtain ⟨mb, ab, fk, hp⟩ := hr
    exact lt_of_get hp.hb
  clear hr hb2
  go_wp2
  go_ret
  have hb3 := bl_alloc (bl_refl w2) (.cells #[.pointer (some ⟨w.heap.size, 0, none⟩), .pointer (some ⟨w1.heap.size, 0, none⟩), .slice none 0 0, .slice none 0 0, .slice none 0 0] 49)
  have hbx := heap_alloc_new w2 (.cells #[.pointer (some ⟨w.heap.size, 0, none⟩), .pointer (some ⟨w1.heap.size, 0, none⟩), .slice none 0 0, .slice none 0 0, .slice none 0 0] 49)
  have hs3 := lt_of_get hbx
  obtain ⟨W, hW⟩ : ∃ W, w2.alloc (.cells #[.pointer (some ⟨w.heap.size, 0, none⟩), .pointer (some ⟨w1.heap.size, 0, none⟩), .slice none 0 0, .slice none 0 0, .slice none 0 0] 49) = W := ⟨_, rfl⟩
  rw [hW] at hb3 hbx hs3
  have hnil : ∀ (c : Nat) (col : Nat → Nat), RowsAt w.heap.size col c W (.slice none 0 0) [] := fun c col => ⟨[], rfl, ⟨rfl, .inl ⟨rfl, rfl⟩⟩, fun k hk => by simp [Value.ownBlock] at hk, fun i x p hx => by simp at hx⟩
  try rw [hW]
  refine ⟨_, rfl, fun k => if k = w.heap.size then 2 else if w1.heap.size ≤ k ∧ k < w2.heap.size then 3 else if k = w2.heap.size then 1 else 0, w.heap.size, w1.heap.size, _, _, _, ⟨⟨?_, fun k hk => ?_⟩, ?_, hbx, ?_, ?_, hnil _ _, ⟨[], ⟨rfl, .inl ⟨rfl, rfl⟩⟩, fun k hk => by simp [Value.ownBlock] at hk, fun i c hc => by simp at hc⟩, hnil _ _⟩, ?_⟩
  · omega
  · show w.heap.size ≤ k ∧ k < W.heap.size
    by_cases g1 : k = w.heap.size
    · omega
    by_cases g2 : w1.heap.size ≤ k ∧ k < w2.heap.size
    · omega
    by_cases g3 : k = w2.heap.size
    · omega
    · exact absurd (by show (if k = w.heap.size then 2 else if w1.heap.size ≤ k ∧ k < w2.heap.size then 3 else if k = w2.heap.size then 1 else 0) = 0; rw [if_neg g1, if_neg g2, if_neg g3]) hk
  · show (if w2.heap.size = w.heap.size then 2 else if w1.heap.size ≤ w2.heap.size ∧ w2.heap.size < w2.heap.size then 3 else if w2.heap.size = w2.heap.size then 1 else 0) = 1
    rw [if_neg (by omega), if_neg (by omega), if_pos rfl]
  · refine ((HS.out.below (HB2.out)).below hb3).mono (fun k hk => ?_) (fun k hk => ?_)
    · rw [if_pos hk]
    · by_cases g1 : k = w.heap.size
      · omega
      · rw [if_neg g1] at hk
        by_cases g2 : w1.heap.size ≤ k ∧ k < w2.heap.size
        · omega
        · rw [if_neg g2] at hk
          by_cases g3 : k = w2.heap.size
          · omega
          · rw [if_neg g3] at hk
            omega
  · refine (HR.out.below hb3).mono (fun k hk => ?_) (fun k hk => hk.elim) (fun k hk e => by omega)
    show (if k = w.heap.size then 2 else if w1.heap.size ≤ k ∧ k < w2.heap.size then 3 else if k = w2.heap.size then 1 else 0) = 3
    rw [if_neg (by omega), if_pos hk]
  · exact (HB.out.trans (HB2.out.mono hsz)).trans (hb3.mono (by omega))

end Go.Proofs.Ytagbaoakablfpaa
