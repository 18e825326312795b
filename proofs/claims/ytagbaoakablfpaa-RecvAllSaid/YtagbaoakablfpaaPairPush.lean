/- portagelaw08's pair.step, kind 0: a payload is pushed. Conditions: as they stand. -/
import Derived.Test.YtagbaoakablfpaaPairComes
namespace Go.Proofs.Ytagbaoakablfpaa
open Go.RowKit

theorem way_box {B : Nat} {col : Nat → Nat} {w : World} {pb sg rg : Nat} {pv wv tv : Value} {t : PSt} (h : PairAt B col w pb sg rg pv wv tv t) (k n : Int) :
    ∃ w1 c1, w.alloc (.cells #[.int .i64 k, .int .i64 n] 45) = w1 ∧ PairAt B c1 w1 pb sg rg pv wv tv t ∧ Below B w w1 ∧ w1.cell? ⟨w.heap.size, 0, none⟩ = some (.int .i64 k) ∧ w1.cell? ⟨w.heap.size, 1, none⟩ = some (.int .i64 n) ∧ c1 w.heap.size = 0 := by
  have hba := bl_alloc (bl_refl w) (.cells #[.int .i64 k, .int .i64 n] 45)
  have hbx := heap_alloc_new w (.cells #[.int .i64 k, .int .i64 n] 45)
  refine ⟨_, _, rfl, h.skip (n := 0) hba, hba.mono h.cols.1, ?_, ?_, paint_new (Nat.le_refl _) (lt_of_get hbx)⟩ <;> (rw [cell_of_row _ _ _ _ _ _ hbx]; rfl)

/-- What a step leaves. -/
structure After (B : Nat) (w : World) (pb sg rg : Nat) (t : PSt) (e : Ending) (w' : World) : Prop where
  ret : ∃ v, e = .returned v
  pair : ∃ col pv wv tv, PairAt B col w' pb sg rg pv wv tv t
  below : Below B w w'

/-- The payload that step makes when l were pushed. -/
def mark (l : Nat) : List Int := [((l % 256 : Nat) : Int), ((l / 256 % 256 : Nat) : Int)]

set_option maxRecDepth 100000 in
set_option maxHeartbeats 2000000 in
theorem step_push (B : Nat) (col : Nat → Nat) (w : World) (pb sg rg : Nat) (pv wv tv : Value) (t : PSt) (h : PairAt B col w pb sg rg pv wv tv t) (n : Int) (hm : t.pushed.length ≤ 100000) :
    Calls Try.prog 17 #[.pointer (some ⟨pb, 0, none⟩), .agg #[.int .i64 0, .int .i64 n]] w fun e w' => After B w pb sg rg { t with s := t.s.push (mark t.pushed.length), pushed := if t.s.pushE (mark t.pushed.length) = 0 then t.pushed ++ [mark t.pushed.length] else t.pushed } e w' := by
  obtain ⟨i1, gi, gz0, gz1, gz2⟩ := info_parts (infoPays)
  obtain ⟨w1, c1, hw1, h1, hBB, d0, d1, hc0⟩ := way_box h 0 n
  obtain ⟨e0, e1, e2, e3, e4⟩ := h1.cells
  have H1 := Lib.hid h1
  have HBB := Lib.hid hBB
  obtain ⟨vs, v1, v2, v3, v4⟩ := h1.pushed
  obtain ⟨po, pc, htv⟩ := rc_form v2
  rw [v1] at htv
  subst htv
  clear h h1 hBB e1 e3 e4 d1 v1 v2 v3 v4
  go_enter Try.func17, Try.ntmps17
  go_wp2_with fail
  try simp only [hw1]
  go_region_held3 (fun w' => w'.cell? ⟨pb, 2, none⟩ = some (.slice po t.pushed.length pc))
    (first | exact e2 | exact below_cell (bl_drew (bl_alloc (bl_refl _) _)) e2 | exact below_cell (bl_alloc (bl_drew (bl_refl _)) _) e2)
    (fail)
  have ha : IntKind.u8.wrap (t.pushed.length : Int) = ((t.pushed.length % 256 : Nat) : Int) := by rw [IntKind.wrap_u8]; omega
  have hb : IntKind.u8.wrap (IntKind.i64.wrap ((t.pushed.length : Int) / 256)) = ((t.pushed.length / 256 % 256 : Nat) : Int) := by
    rw [IntKind.wrap_u8, IntWalk.i64_in _ (by omega)]; omega
  obtain ⟨W2, hW2⟩ : ∃ W2, (w1.alloc (.cells #[.int .u8 ((t.pushed.length % 256 : Nat) : Int), .int .u8 ((t.pushed.length / 256 % 256 : Nat) : Int)] 5)).drew = W2 := ⟨_, rfl⟩
  simp only [ha, hb, hW2]
  have hb2 : Below w1.heap.size w1 W2 := hW2 ▸ bl_drew (bl_alloc (bl_refl w1) _)
  have hx2 : W2.heap[w1.heap.size]? = some (.cells #[.int .u8 ((t.pushed.length % 256 : Nat) : Int), .int .u8 ((t.pushed.length / 256 % 256 : Nat) : Int)] 5 (0, 0)) := hW2 ▸ heap_alloc_new w1 _
  have hr2 : Reads (Value.int .u8) W2 (.slice (some ⟨w1.heap.size, 0, none⟩) 2 2) (mark t.pushed.length) := by
    refine ⟨by simp [mark, maxLen], _, _, rfl, ⟨by simp [mark], fun h => by cases h⟩, fun i z hz => ⟨_, _, rfl, ?_⟩⟩
    rw [cell_of_row _ _ _ _ _ _ hx2]
    match i, hz with
    | 0, hz => simp [mark] at hz; subst hz; simp
    | 1, hz => simp [mark] at hz; subst hz; simp
    | n + 2, hz => simp [mark] at hz
  have hwf : ∀ n ∈ mark t.pushed.length, (Lit.int .u8 n).wf = true := by
    intro n hn
    simp only [mark, List.mem_cons, List.not_mem_nil, or_false] at hn
    exact Go.WalkArith.wf_u8 (by omega)
  have h2 := H1.out.skip (n := 7) hb2
  have hc7 : paint c1 w1 W2 7 w1.heap.size = 7 := paint_new (Nat.le_refl _) (lt_of_get hx2)
  have HB2 : Hid (Below B w W2) := HBB.out.trans (hb2.mono H1.out.cols.1)
  clear hW2 hb2 hx2 e2 d0 hw1 hc0
  generalize paint c1 w1 W2 7 = c2 at h2 hc7
  obtain ⟨e0, e1, e2, e3, e4⟩ := h2.cells
  have HP := spush_any _ sg t.s _ _ W2 h2.snd hr2 hwf
  have HM : Hid (Byt (fun k => c2 k = 7) W2 (.slice (some ⟨w1.heap.size, 0, none⟩) 2 2) (mark t.pushed.length)) := ⟨⟨hr2, fun k hk => by simp [Value.ownBlock] at hk; subst hk; exact hc7⟩, hwf⟩
  have H2 := Lib.hid h2
  clear h2 hr2 hwf hc7 e1 e2 e3 e4
  go_wp2_with fail
  refine HP.mono ?_
  rintro e W3 ⟨rfl, hs3, hF3⟩
  have hsg : c2 sg = 2 := H2.out.snd.2.1
  have hf3 : Fr (fun k => c2 k = 2) W2 W3 := hF3.mono fun k hk => .inl (by subst hk; exact hsg)
  have h3 := H2.out.sent (n := 2) hf3 hs3 (fun k hk => hk.elim .inl (fun h => .inr ⟨rfl, h⟩))
  have HM3 : Hid (Byt (fun k => paint c2 W2 W3 2 k = 7) W3 (.slice (some ⟨w1.heap.size, 0, none⟩) 2 2) (mark t.pushed.length)) := (HM.out.fr hf3 (fun k hk e => by omega)).mono fun k hk => H2.out.cols.keep hk (by omega)
  have hb3 := H2.out.cols.bl (by omega) hf3
  have HB3 : Hid (Below B w W3) := HB2.out.trans hb3
  generalize paint c2 W2 W3 2 = c3 at h3 HM3
  obtain ⟨_, e1, e2, e3, e4⟩ := h3.cells
  have H3 := Lib.hid h3
  have hz := rc_frozen (j := 2) h3.hb
  clear hs3 hF3 hsg hf3 h3 hb3 e0 e1 e3 e4 HP HM
  by_cases hE : t.s.pushE (mark t.pushed.length) = 0
  · simp only [hE]
    have hba := bl_alloc (bl_refl W3) (.cells #[.slice (some ⟨w1.heap.size, 0, none⟩) 2 2] 32)
    have HR4 : Hid (Reads id (W3.alloc (.cells #[.slice (some ⟨w1.heap.size, 0, none⟩) 2 2] 32)) (.slice (some ⟨W3.heap.size, 0, none⟩) 1 1) [.slice (some ⟨w1.heap.size, 0, none⟩) 2 2]) := reads_one id W3 _ _
    have h4 := H3.out.skip (n := 0) hba
    have HM4 := (HM3.out.below hba).mono (G := fun k => paint c3 W3 (W3.alloc (.cells #[.slice (some ⟨w1.heap.size, 0, none⟩) 2 2] 32)) 0 k = 7) fun k hk => H3.out.cols.keep hk (by omega)
    have HB4 : Hid (Below B w (W3.alloc (.cells #[.slice (some ⟨w1.heap.size, 0, none⟩) 2 2] 32))) := HB3.out.trans (hba.mono H3.out.cols.1)
    generalize paint c3 W3 (W3.alloc (.cells #[.slice (some ⟨w1.heap.size, 0, none⟩) 2 2] 32)) 0 = c4 at h4 HM4
    have HY4 : Hid (∀ (i : Nat) (y : Value) (p : List Int), ([.slice (some ⟨w1.heap.size, 0, none⟩) 2 2] : List Value)[i]? = some y → [mark t.pushed.length][i]? = some p → Byt (fun k => c4 k = 7) (W3.alloc (.cells #[.slice (some ⟨w1.heap.size, 0, none⟩) 2 2] 32)) y p) := by
      intro i y p hy hp
      match i, hy, hp with
      | 0, hy, hp => cases hy; cases hp; exact HM4
      | i + 1, hy, hp => simp at hy
    obtain ⟨_, _, g2, _, _⟩ := h4.cells
    have H4 := Lib.hid h4
    have HQ : Hid (t.pushed.length + 1 ≤ 1000000) := by unfold Hid; omega
    clear hba h4 HM4 HM3
    go_wp2_with (at_builtin; refine wpList_rows _ rfl (.tmp 42) (.tmp 44) 29 rfl Try.underlying29 gi gz0 gz1 gz2 (d := 4) (by omega) (by omega) H4.out.cols rfl H4.out.pushed (qs := [mark t.pushed.length]) rfl HR4.out rfl HY4.out HQ.out ?_; intro l2 w5 hR5 hF5; have z5 := rc_frozen (j := 2) (hF5.get H4.out.hb (fun e => by have := H4.out.own; omega)); have c5 := hF5.cell g2 (fun e => by have := H4.out.own; omega); have HR5 := Lib.hid hR5; obtain ⟨us, u1, u2, u3, u4⟩ := hR5; obtain ⟨lo2, lc2, hl2⟩ := rc_form u2; subst hl2; have HF5 := Lib.hid hF5; clear u1 u2 u3 u4 hF5 g2)
    go_end0
    have hq := fr_cell w5 pb 2 (.slice lo2 us.length lc2)
    have hb5 := H4.out.cols.bl (by omega) HF5.out
    have hpb := H4.out.cols.2 pb (by have := H4.out.own; omega)
    have hsz5 := HF5.out.size
    refine ⟨⟨_, rfl⟩, ⟨_, _, _, _, H4.out.pushed_set HF5.out HR5.out⟩, ?_⟩
    exact (HB4.out.trans hb5).trans (fr_bl hq (fun k hk => by omega) (by omega))
  · go_wp2
    go_end0
    exact ⟨⟨_, rfl⟩, ⟨_, _, _, _, H3.out⟩, HB3.out⟩

end Go.Proofs.Ytagbaoakablfpaa
