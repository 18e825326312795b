/- portagelaw08's pair.step, kind 1: a payload goes out. Conditions: as they stand. -/
import Derived.Test.YtagbaoakablfpaaPairPush
namespace Go.Proofs.Ytagbaoakablfpaa
open Go.RowKit

theorem infoAct08 : (Try.prog.info? 34).map (fun i => (i.zero, i.size, i.bytes)) = some (some (.agg #[.int .i64 0, .int .i64 0, .slice none 0 0]), 3, 40) := by kernel_rfl

theorem rd_lt {α : Type} {f : α → Value} {w : World} {v : Value} {xs : List α} (h : Reads f w v xs) (hne : xs ≠ []) : ∀ k, v.ownBlock = some k → k < w.heap.size := by
  intro k hk
  obtain ⟨_, ao, cap, rfl, _, hc⟩ := h
  obtain ⟨x, hx⟩ := get_some (xs := xs) (k := 0) (List.length_pos_iff.2 hne)
  obtain ⟨b, o, rfl, hcell⟩ := hc 0 x hx
  have := cell_lt hcell
  simp [Value.ownBlock] at hk
  omega
theorem sendP_ne {s : Snd} (hok : s.Ok) (hc : s.can = true) : s.sendP ≠ [] := by
  unfold Snd.sendP
  rw [if_pos hc]
  simp only [Snd.can, Bool.and_eq_true, decide_eq_true_eq] at hc
  rw [List.getD_eq_getElem?_getD, List.getElem?_eq_getElem hc.1, Option.getD_some]
  intro e
  have := (hok.pay _ (List.getElem_mem hc.1)).1
  rw [e] at this
  simp at this

set_option maxRecDepth 100000 in
set_option maxHeartbeats 2000000 in
theorem step_send (B : Nat) (col : Nat → Nat) (w : World) (pb sg rg : Nat) (pv wv tv : Value) (t : PSt) (h : PairAt B col w pb sg rg pv wv tv t) (hok : t.s.Ok) (n : Int) (hm : t.way.length ≤ 100000) :
    Calls Try.prog 17 #[.pointer (some ⟨pb, 0, none⟩), .agg #[.int .i64 1, .int .i64 n]] w fun e w' => After B w pb sg rg { t with s := t.s.send, way := if t.s.can then t.way ++ [((t.s.sendN : Int), t.s.sendP)] else t.way } e w' := by
  obtain ⟨i1, gi, gz0, gz1, gz2⟩ := info_parts (infoAct08)
  obtain ⟨w1, c1, hw1, h1, hBB, d0, d1, hc0⟩ := way_box h 1 n
  obtain ⟨e0, e1, e2, e3, e4⟩ := h1.cells
  have H1 := Lib.hid h1
  have HBB := Lib.hid hBB
  obtain ⟨vs, v2, v3, v4⟩ := h1.way
  obtain ⟨po, pc, htv⟩ := rc_form v2
  subst htv
  have HS := ssend_any _ sg t.s hok w1 h1.snd
  clear h h1 hBB e1 e2 e3 e4 d1 v2 v3 v4
  go_enter Try.func17, Try.ntmps17
  go_wp2_with fail
  try simp only [hw1]
  go_wp2_with fail
  refine HS.mono ?_
  rintro e W3 ⟨u, rfl, hu3, hs3, hF3⟩
  obtain ⟨uo, uc, rfl⟩ : ∃ uo uc, u = .slice uo t.s.sendP.length uc := by
    obtain ⟨⟨⟨_, ao, cap, h, _⟩, _⟩, _⟩ := hu3
    exact ⟨ao, cap, h⟩
  have hsg : c1 sg = 2 := H1.out.snd.2.1
  have hf3 : Fr (fun k => c1 k = 2) w1 W3 := hF3.mono fun k hk => .inl (by subst hk; exact hsg)
  have h3 := H1.out.sent (n := 7) hf3 hs3 (fun k hk => .inl hk)
  have HM3 : Hid (t.s.can = true → Byt (fun k => paint c1 w1 W3 7 k = 7) W3 (.slice uo t.s.sendP.length uc) t.s.sendP) := fun hc => ⟨⟨hu3.1.1, fun k hk => paint_new (hu3.1.2 k hk) (rd_lt hu3.1.1 (sendP_ne hok hc) k hk)⟩, hu3.2⟩
  have hb3 := H1.out.cols.bl (by omega) hf3
  have HB3 : Hid (Below B w W3) := HBB.out.trans hb3
  generalize paint c1 w1 W3 7 = c3 at h3 HM3
  obtain ⟨_, e1, e2, e3, e4⟩ := h3.cells
  have H3 := Lib.hid h3
  have hz := rc_frozen (j := 3) h3.hb
  clear hs3 hF3 hsg hf3 h3 hb3 e0 e1 e2 e4 HS hu3
  by_cases hE : t.s.can = true
  · simp only [hE]
    have hba := bl_alloc (bl_refl W3) (.cells #[.int .i64 0, .int .i64 (t.s.sendN : Int), .slice uo t.s.sendP.length uc] 34)
    have hbx := heap_alloc_new W3 (.cells #[.int .i64 0, .int .i64 (t.s.sendN : Int), .slice uo t.s.sendP.length uc] 34)
    have h4 := H3.out.skip (n := 0) hba
    have HM4 := ((HM3.out hE).below hba).mono (G := fun k => paint c3 W3 (W3.alloc (.cells #[.int .i64 0, .int .i64 (t.s.sendN : Int), .slice uo t.s.sendP.length uc] 34)) 0 k = 7) fun k hk => H3.out.cols.keep hk (by omega)
    have HB4 : Hid (Below B w (W3.alloc (.cells #[.int .i64 0, .int .i64 (t.s.sendN : Int), .slice uo t.s.sendP.length uc] 34))) := HB3.out.trans (hba.mono H3.out.cols.1)
    generalize paint c3 W3 (W3.alloc (.cells #[.int .i64 0, .int .i64 (t.s.sendN : Int), .slice uo t.s.sendP.length uc] 34)) 0 = c4 at h4 HM4
    obtain ⟨_, _, _, g3, _⟩ := h4.cells
    have H4 := Lib.hid h4
    have HM4 := Lib.hid HM4
    have HX4 := Lib.hid hbx
    have HQ : Hid (t.way.length ≤ 1000000) := by unfold Hid; omega
    clear hba h4 HM3 hbx
    go_wp2_with (at_builtin; go_loud (refine wpList_way _ rfl (.tmp 64) (.tmp 68) 22 rfl Try.underlying22 gi gz0 rfl gz1 gz2 (by omega) H4.out.cols rfl H4.out.way rfl HX4.out HM4.out HQ.out ?_; intro l2 w5 hR5 hF5; have z5 := rc_frozen (j := 3) (hF5.get H4.out.hb (fun e => by have := H4.out.own; omega)); have c5 := hF5.cell g3 (fun e => by have := H4.out.own; omega); have HR5 := Lib.hid hR5; obtain ⟨us, u2, u3, u4⟩ := hR5; obtain ⟨lo2, lc2, hl2⟩ := rc_form u2; subst hl2; have HF5 := Lib.hid hF5; clear u2 u3 u4 hF5 g3))
    go_end0
    have hq := fr_cell w5 pb 3 (.slice lo2 (t.way.length + 1) lc2)
    have hR5' := HR5.out
    rw [show (t.way ++ [((t.s.sendN : Int), t.s.sendP)]).length = t.way.length + 1 by simp] at hR5'
    have hb5 := H4.out.cols.bl (by omega) HF5.out
    have hpb := H4.out.cols.2 pb (by have := H4.out.own; omega)
    have hsz5 := HF5.out.size
    refine ⟨⟨_, rfl⟩, ⟨_, _, _, _, H4.out.way_set HF5.out hR5'⟩, ?_⟩
    exact (HB4.out.trans hb5).trans (fr_bl hq (fun k hk => by omega) (by omega))
  · simp only [hE]
    go_wp2
    go_end0
    exact ⟨⟨_, rfl⟩, ⟨_, _, _, _, H3.out⟩, HB3.out⟩

end Go.Proofs.Ytagbaoakablfpaa
