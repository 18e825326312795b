/- portagelaw08's pair.step, kind 2: a sent payload comes. Conditions: as they stand. -/
import Derived.Test.YtagbaoakablfpaaPairSend
namespace Go.Proofs.Ytagbaoakablfpaa
open Go.RowKit

theorem WayAt.at_ {B : Nat} {col : Nat → Nat} {w : World} {v : Value} {l : List (Int × List Int)} (h : WayAt B col w v l) {i : Nat} {c : Int × List Int} (hc : l[i]? = some c) :
    ∃ g cap x, v = .slice (some ⟨g, 0, none⟩) l.length cap ∧ col g = 5 ∧ w.cell? ⟨g, i * 3, none⟩ = some (.int .i64 0) ∧ w.cell? ⟨g, i * 3 + 1, none⟩ = some (.int .i64 c.1) ∧ w.cell? ⟨g, i * 3 + 2, none⟩ = some x ∧ Byt (fun k => col k = 7) w x c.2 := by
  obtain ⟨cs, h2, h3, h4⟩ := h
  obtain ⟨x, g0, g1, g2, g3⟩ := h4 i c hc
  have hi : i < l.length := (List.getElem?_eq_some_iff.1 hc).1
  obtain ⟨g, cap, hv⟩ : ∃ g cap, v = .slice (some ⟨g, 0, none⟩) l.length cap := by
    rcases h2.2 with ⟨_, h0⟩ | ⟨g, cap, cur, hv, _⟩
    · omega
    · exact ⟨g, cap, hv⟩
  subst hv
  refine ⟨g, cap, x, rfl, h3 g rfl, ?_, ?_, ?_, g3⟩
  · have := h2.cells (g := g) rfl _ _ g0; rw [Addr.add_lit] at this; simpa using this
  · have := h2.cells (g := g) rfl _ _ g1; rw [Addr.add_lit] at this; simpa using this
  · have := h2.cells (g := g) rfl _ _ g2; rw [Addr.add_lit] at this; simpa using this
def uN (n : Int) : Nat := (IntKind.u64.wrap n).toNat
/-- A payload comes. -/
def PSt.come (t : PSt) (n : Int) (p : List Int) : PSt := { t with r := t.r.take n p, told := t.told ++ t.r.tells n p }
def PSt.old (t : PSt) (n : Int) : Nat := (t.way.length - 63) + uN n % (t.way.length - (t.way.length - 63))

theorem u64_ge (n : Int) : 0 ≤ IntKind.u64.wrap n := by rw [IntKind.wrap_u64]; omega

theorem rem_u (n : Int) (d : Nat) : (IntKind.u64.wrap n).tmod (d : Int) = ((uN n % d : Nat) : Int) := by
  have h0 := u64_ge n
  rw [Int.tmod_eq_emod_of_nonneg h0]
  unfold uN
  rw [Int.natCast_emod, Int.toNat_of_nonneg h0]

set_option maxRecDepth 100000 in
set_option maxHeartbeats 2000000 in
theorem step_come (B : Nat) (col : Nat → Nat) (w : World) (pb sg rg : Nat) (pv wv tv : Value) (t : PSt) (h : PairAt B col w pb sg rg pv wv tv t) (hok : t.r.Ok) (n : Int) (hm : t.told.length ≤ 100000) (hm2 : t.way.length ≤ 100000) (c : Int × List Int) (hc : t.way[t.old n]? = some c) :
    Calls Try.prog 17 #[.pointer (some ⟨pb, 0, none⟩), .agg #[.int .i64 2, .int .i64 n]] w fun e w' => After B w pb sg rg (t.come c.1 c.2) e w' := by
  obtain ⟨w1, c1, hw1, h1, hBB, d0, d1, hc0⟩ := way_box h 2 n
  obtain ⟨e0, e1, e2, e3, e4⟩ := h1.cells
  have hlen : t.old n < t.way.length := (List.getElem?_eq_some_iff.1 hc).1
  obtain ⟨g, cap, x, rfl, hg5, k0, k1, k2, hbx⟩ := h1.way.at_ hc
  obtain ⟨xo, xc, rfl⟩ : ∃ xo xc, x = .slice xo c.2.length xc := by
    obtain ⟨⟨⟨_, ao, cap, h, _⟩, _⟩, _⟩ := hbx
    exact ⟨ao, cap, h⟩
  have HTK := fun W : World => fun hb : Below w1.heap.size w1 W => comes_any B _ W pb sg rg _ _ _ t (h1.skip (n := 0) hb) hok 0 c.1 _ c.2 (hbx.1.1.below hb) hbx.2 hm
  have H1 := Lib.hid h1
  have HBB := Lib.hid hBB
  have hpb : c1 pb = 1 := h1.own
  have HKeep : Hid (∀ (W W' : World) (c4 : Nat → Nat) (tv4 : Value), Below w1.heap.size w1 W → PairAt B c4 W' pb sg rg pv (.slice (some ⟨g, 0, none⟩) t.way.length cap) tv4 (t.come c.1 c.2) → Fr (fun k => paint c1 w1 W 0 k = 1 ∨ paint c1 w1 W 0 k = 3 ∨ paint c1 w1 W 0 k = 6) W W' →
      W'.cell? ⟨pb, 3, none⟩ = some (.slice (some ⟨g, 0, none⟩) t.way.length cap) ∧ W'.cell? ⟨w.heap.size, 1, none⟩ = some (.int .i64 n) ∧ W'.cell? ⟨g, t.old n * 3, none⟩ = some (.int .i64 0) ∧ W'.cell? ⟨g, t.old n * 3 + 1, none⟩ = some (.int .i64 c.1) ∧ W'.cell? ⟨g, t.old n * 3 + 2, none⟩ = some (.slice xo c.2.length xc)) := by
    intro W W' c4 tv4 hb hp hf
    have hn : ∀ k, c1 k = 0 ∨ c1 k = 5 → k < w1.heap.size → ¬ (paint c1 w1 W 0 k = 1 ∨ paint c1 w1 W 0 k = 3 ∨ paint c1 w1 W 0 k = 6) := fun k hk hl => by rw [paint_old hl]; omega
    have hg : g < w1.heap.size := cell_lt k0
    have hx := cell_lt d1
    exact ⟨hp.cells.2.2.2.1, hf.cell (below_cell hb d1) (hn _ (.inl hc0) hx), hf.cell (below_cell hb k0) (hn _ (.inr hg5) hg), hf.cell (below_cell hb k1) (hn _ (.inr hg5) hg), hf.cell (below_cell hb k2) (hn _ (.inr hg5) hg)⟩
  clear h h1 hBB e0 e1 e2 e4 hbx
  obtain ⟨q, hq⟩ : ∃ q : Nat, q = uN n % (t.way.length - (t.way.length - 63)) := ⟨_, rfl⟩
  by_cases hgt : (63 : Int) < (t.way.length : Int)
  · obtain ⟨o, ho⟩ : ∃ o : Nat, o = t.way.length - 63 := ⟨_, rfl⟩
    obtain ⟨d, hd⟩ : ∃ d : Nat, d = t.way.length - (t.way.length - 63) := ⟨_, rfl⟩
    obtain ⟨i, hi⟩ : ∃ i : Nat, i = t.old n := ⟨_, rfl⟩
    have hq1 := rem_u n (t.way.length - (t.way.length - 63))
    rw [← hq, ← hd] at hq1
    have hdw : IntKind.u64.wrap (d : Int) = (d : Int) := by rw [IntKind.wrap_u64]; omega
    have hq2 : q < d := by rw [hq, ← hd]; exact Nat.mod_lt _ (by omega)
    have ho2 : (t.way.length : Int) - 63 = (o : Int) := by omega
    have hd2 : (t.way.length : Int) - (o : Int) = (d : Int) := by omega
    have hd0 : (d = 0) = False := by simp; omega
    have hi2 : (o : Int) + (q : Int) = (i : Int) := by unfold PSt.old at hi; omega
    have hiL : (i : Int) < (t.way.length : Int) := by omega
    have hdi : IntKind.i64.wrap (d : Int) = (d : Int) := IntWalk.i64_in _ (by omega)
    have hqi : IntKind.i64.wrap (q : Int) = (q : Int) := IntWalk.i64_in _ (by omega)
    have hii : IntKind.i64.wrap (i : Int) = (i : Int) := IntWalk.i64_in _ (by omega)
    rw [← hi] at k0 k1 k2 HKeep
    clear hq hd hi ho hlen hc
    go_enter Try.func17, Try.ntmps17
    go_wp2_with fail
    try simp only [hw1]
    go_region_held3 (fun w' => w'.cell? ⟨pb, 3, none⟩ = some (.slice (some ⟨g, 0, none⟩) t.way.length cap) ∧ w'.cell? ⟨w.heap.size, 1, none⟩ = some (.int .i64 n) ∧ w'.cell? ⟨g, i * 3, none⟩ = some (.int .i64 0) ∧ w'.cell? ⟨g, i * 3 + 1, none⟩ = some (.int .i64 c.1) ∧ w'.cell? ⟨g, i * 3 + 2, none⟩ = some (.slice xo c.2.length xc))
      (first | exact ⟨e3, d1, k0, k1, k2⟩ | exact HKeep.out _ _ _ _ (bl_drew (bl_refl _)) (by assumption) (by assumption))
      (first | (go_at_call 22; refine (HTK _ (by first | assumption | exact bl_drew (bl_refl _))).mono ?_; rintro e w4 ⟨⟨rv, rfl⟩, ⟨c4, tv4, hs4, _⟩, hF4⟩))
    have hf4 := hF4.mono (G := fun k => c1 k = 1 ∨ c1 k = 3 ∨ c1 k = 6) (fun k hk => .inl (by
      rcases hk with hk | hk | hk
      · exact .inl (paint_back hk (by omega))
      · exact .inr (.inl (paint_back hk (by omega)))
      · exact .inr (.inr (paint_back hk (by omega)))))
    have hb4 : Below B w w4 := (HBB.out.trans ((bl_drew (bl_refl w1)).mono H1.out.cols.1)).trans (fr_bl hf4 (fun k hk => (H1.out.cols.2 k (by omega)).1) H1.out.cols.1)
    clear hF4 hf4
    go_wp2
    go_end0
    exact ⟨⟨_, rfl⟩, ⟨_, _, _, _, hs4⟩, hb4⟩
  · have hi : t.old n = q := by unfold PSt.old; omega
    have hq1 := rem_u n t.way.length
    rw [show uN n % t.way.length = q by rw [hq, show t.way.length - (t.way.length - 63) = t.way.length by omega]] at hq1
    have hlw : IntKind.u64.wrap (t.way.length : Int) = (t.way.length : Int) := by rw [IntKind.wrap_u64]; omega
    have hli : IntKind.i64.wrap (t.way.length : Int) = (t.way.length : Int) := IntWalk.i64_in _ (by omega)
    have hl0 : (t.way.length = 0) = False := by simp; intro e; rw [e] at hlen; simp at hlen
    have hl1 : (t.way = []) = False := by simp; intro e; rw [e] at hlen; simp at hlen
    have hqL : (q : Int) < (t.way.length : Int) := by omega
    have hqi : IntKind.i64.wrap (q : Int) = (q : Int) := IntWalk.i64_in _ (by omega)
    rw [hi] at k0 k1 k2 HKeep
    clear hq hi hlen hc
    go_enter Try.func17, Try.ntmps17
    go_wp2_with fail
    try simp only [hw1]
    go_region_held3 (fun w' => w'.cell? ⟨pb, 3, none⟩ = some (.slice (some ⟨g, 0, none⟩) t.way.length cap) ∧ w'.cell? ⟨w.heap.size, 1, none⟩ = some (.int .i64 n) ∧ w'.cell? ⟨g, q * 3, none⟩ = some (.int .i64 0) ∧ w'.cell? ⟨g, q * 3 + 1, none⟩ = some (.int .i64 c.1) ∧ w'.cell? ⟨g, q * 3 + 2, none⟩ = some (.slice xo c.2.length xc))
      (first | exact ⟨e3, d1, k0, k1, k2⟩ | exact HKeep.out _ _ _ _ (bl_drew (bl_refl _)) (by assumption) (by assumption))
      (first | (go_at_call 22; refine (HTK _ (by first | assumption | exact bl_drew (bl_refl _))).mono ?_; rintro e w4 ⟨⟨rv, rfl⟩, ⟨c4, tv4, hs4, _⟩, hF4⟩))
    have hf4 := hF4.mono (G := fun k => c1 k = 1 ∨ c1 k = 3 ∨ c1 k = 6) (fun k hk => .inl (by
      rcases hk with hk | hk | hk
      · exact .inl (paint_back hk (by omega))
      · exact .inr (.inl (paint_back hk (by omega)))
      · exact .inr (.inr (paint_back hk (by omega)))))
    have hb4 : Below B w w4 := (HBB.out.trans ((bl_drew (bl_refl w1)).mono H1.out.cols.1)).trans (fr_bl hf4 (fun k hk => (H1.out.cols.2 k (by omega)).1) H1.out.cols.1)
    clear hF4 hf4
    go_wp2
    go_end0
    exact ⟨⟨_, rfl⟩, ⟨_, _, _, _, hs4⟩, hb4⟩

end Go.Proofs.Ytagbaoakablfpaa
