/- portageref08.Take: what it needs. portageref08.Take where it takes. Conditions: as they stand. -/
import Derived.Test.YthmdibagcbbgoaaGreatM37
namespace Go.Proofs.YthmdibagcbbgoaaGreat
open Go.RowKit

theorem run_to2 {P : Program} {t e : TypeId} {i : TypeInfo} (ht : P.underlying t = some (.slice e)) (hi : P.info? e = some i) (W : World) (ao : Option Addr) (n cap k : Nat) (h : k ≤ cap) :
    (Instr.sliceAt t (.slice ao n cap) none (some (.int .i64 k)) none).run P W = .ok (.slice ao k cap) W := by
  have he : P.elem t = e := by simp [Program.elem, ht]
  have ht' : P.underlying t = some (.slice (P.elem t)) := by rw [he, ht]
  rw [run_sliceAt_slice W t _ _ _ _ ht', run_slice_h W t ao n cap ht' .i64 k (by omega) (by omega)]
  simp [sizeOf, typeInfo, he, hi, sliced, Addr.add]
theorem run_from2 {P : Program} {t e : TypeId} {i : TypeInfo} (ht : P.underlying t = some (.slice e)) (hi : P.info? e = some i) {s : Nat} (hs : i.size = s) (W : World) (ao : Option Addr) (n cap k : Nat) (h : k ≤ n) :
    (Instr.sliceAt t (.slice ao n cap) (some (.int .i64 k)) none none).run P W = .ok (.slice (if cap = k then ao else ao.map (·.add (k * s))) (n - k) (cap - k)) W := by
  have he : P.elem t = e := by simp [Program.elem, ht]
  have ht' : P.underlying t = some (.slice (P.elem t)) := by rw [he, ht]
  rw [run_sliceAt_slice W t _ _ _ _ ht', run_slice_l W t ao n cap ht' .i64 k (by omega) (by omega)]
  simp [sizeOf, typeInfo, he, hi, hs, sliced]
def lenV : Value → Nat
  | .slice _ n _ => n
  | _ => 0

theorem ElsX.at_ {α : Type} {K : Kind9 α} {F G : Nat → Prop} {w : World} {l : List α} {ao : Option Addr} {n cap : Nat} (h : ElsX K F G w (.slice ao n cap) l) {i : Nat} {c : α} (hc : l[i]? = some c) :
    ∃ b o x, ao = some ⟨b, o, none⟩ ∧ F b ∧ (∀ (j : Nat) (y : Value), (K.cells c x)[j]? = some y → w.cell? ⟨b, o + (i * K.size + j), none⟩ = some y) ∧ Byt G w x (K.pay c) := by
  obtain ⟨cs, ⟨h1, h2, ao', cap', hv, h3, h4, h5⟩, h6⟩ := h
  cases hv
  obtain ⟨x, x1, x2⟩ := h6 i c hc
  have hp := K.pos
  obtain ⟨y0, hy0⟩ : ∃ y0, (K.cells c x)[0]? = some y0 := ⟨_, Array.getElem?_eq_getElem (by rw [K.fits]; exact hp)⟩
  obtain ⟨b, o, rfl, _⟩ := h5 _ _ (x1 0 y0 hy0)
  refine ⟨b, o, x, rfl, h4 b o none rfl, fun j y hy => ?_, x2⟩
  obtain ⟨b', o', e, hcell⟩ := h5 _ _ (x1 j y hy)
  simp only [Option.some.injEq, Addr.mk.injEq, and_true] at e
  obtain ⟨rfl, rfl⟩ := e
  exact hcell
theorem OwnEls.base {α : Type} {K : Kind9 α} {F : Nat → Prop} {w : World} {v : Value} {l : List α} {b b' : Nat} {e : TypeId} (h : OwnEls b e K F w v l) (hb : b' ≤ b) : OwnEls b' e K F w v l := by
  obtain ⟨cs, h1, h2⟩ := h
  exact ⟨cs, own_mono8 h1 hb, h2⟩
/-- What is kept, what is told, between two rounds. -/
structure DrB (W0 : World) (B : Nat) (F : Nat → Prop) (G : List (List Int) × Rcv) (lv tv : Value) (wr : World) (rn : Rcv) (T : List (List Int)) : Prop where
  kept : OwnEls B 128 kKept F wr lv rn.kept
  told : OwnEls B 44 kPay F wr tv T
  eq : G = (T ++ (rn.drain rn.kept.length).1, (rn.drain rn.kept.length).2)
  ok : rn.Ok
  ne : ∀ k, lv.ownBlock = some k → tv.ownBlock ≠ some k
  nl : ∀ k, lv.ownBlock = some k → ¬ F k
  nt : ∀ k, tv.ownBlock = some k → ¬ F k
  bl : Below W0.heap.size W0 wr
  bb : W0.heap.size ≤ B
  big : ∀ k, F k → k < wr.heap.size
  bw : B ≤ wr.heap.size
  lim : T.length + rn.kept.length ≤ 64
/-- One payload is told: what append leaves, one behind the other. -/
structure DrN (W0 : World) (B : Nat) (F : Nat → Prop) (G : List (List Int) × Rcv) (j : Nat) (rn : Rcv) (T : List (List Int)) (pay : List Int) (lv tv : Value) (wr : World) (x q : Value) : Prop where
  ex : ∃ tv' V2 lv1 V4 lv2 V5,
    (Builtin.append_ #[29, 29] 29 #[tv, .slice (some ⟨wr.heap.size, 0, none⟩) 1 1]).run Tryz.prog (wr.alloc (.cells #[x] 44)) = .ok tv' V2 ∧ (∃ o c, tv' = .slice o (T.length + 1) c) ∧
    (Builtin.append_ #[32, 32] 32 #[.slice (some ⟨V2.heap.size, 0, none⟩) 0 0, .slice (match lv with | .slice ao _ _ => ao | _ => none) j (match lv with | .slice _ _ c => c | _ => 0)]).run Tryz.prog (V2.alloc (.cells #[] 128)) = .ok lv1 V4 ∧ (∃ o c, lv1 = .slice o j c) ∧
    (Builtin.append_ #[32, 32] 32 #[lv1, q]).run Tryz.prog V4 = .ok lv2 V5 ∧ (∃ o c, lv2 = .slice o rn.next.kept.length c) ∧
    DrB W0 B F G lv2 tv' V5 rn.next (T ++ [pay])
theorem DrB.step {W0 : World} {B : Nat} {F : Nat → Prop} {G : List (List Int) × Rcv} {lo : Option Addr} {lc : Nat} {tv : Value} {wr : World} {rn : Rcv} {T : List (List Int)} (h : DrB W0 B F G (.slice lo rn.kept.length lc) tv wr rn T) {j : Nat} {pay : List Int} (hp : pos rn.kept rn.waits = some (j, pay)) {x : Value} (hx : Byt F wr x pay) :
    DrN W0 B F G j rn T pay (.slice lo rn.kept.length lc) tv wr x (.slice (if lc = j + 1 then lo else lo.map (·.add ((j + 1) * 2))) (rn.kept.length - (j + 1)) (lc - (j + 1))) := by
  obtain ⟨i1, gi, gz0, gz1, gz2⟩ := info_parts infoK8
  obtain ⟨i2, ji, jz0, jz1, jz2⟩ := info_parts infoBytes
  have hj := pos_lt hp
  have hlim := h.lim
  have hml : rn.kept.length ≤ maxLen := by unfold maxLen; omega
  obtain ⟨xo, xc, rfl⟩ : ∃ xo xc, x = .slice xo pay.length xc := by
    obtain ⟨⟨⟨_, ao, cap, e, _⟩, _⟩, _⟩ := hx
    exact ⟨ao, cap, e⟩
  have hb1 := bl_alloc (bl_refl wr) (.cells #[.slice xo pay.length xc] 44)
  have hg1 := heap_alloc_new wr (.cells #[.slice xo pay.length xc] 44)
  obtain ⟨tv', V2, hrun1, hO1, hG1, hN1⟩ := run_append_els (P := Tryz.prog) (K := kPay) (m := [pay]) _ B 29 29 44 i2 _ 24 Tryz.underlying29 ji jz0 jz1 jz2 rfl
    (h.told.below hb1) (elsX_one (K := kPay) (c := pay) hg1 (hx.below hb1)) h.nt (by simp [maxLen]; omega) (by simp; omega) (Nat.le_trans h.bw hb1.size)
  have hf1 : Fr (fun k => tv.ownBlock = some k) wr V2 := (Fr.of_below (F := fun k => tv.ownBlock = some k) hb1).grown hG1 fun k hk => .inl hk
  have hK2 := h.kept.fr hf1 (fun k hk e => h.ne k hk e) fun k hk e => h.nt k e hk
  have hb2 := bl_alloc (bl_refl V2) (.cells #[] 128)
  have hs2 : wr.heap.size ≤ V2.heap.size := hf1.size
  have hX2 := (hK2.elsX hml).below hb2
  obtain ⟨lv1, V4, hrun2, hO2, hG2, hN2⟩ := run_append_els (P := Tryz.prog) (K := kKept) (F := F) _ V2.heap.size 32 32 128 i1 _ 32 Tryz.underlying32 gi gz0 gz1 gz2 rfl
    (ownEls_empty kKept F V2 (base := V2.heap.size) 128 (Nat.le_refl _)) (hX2.to (i := j) (by omega)) (fun k hk g => by cases hk; have := h.big _ g; exact absurd this (by show ¬ V2.heap.size < wr.heap.size; omega)) (by rw [List.length_take]; simp [maxLen]; omega) (by rw [List.length_take]; simp; omega) hb2.size
  rw [List.nil_append] at hO2
  have hb4 : Below V2.heap.size V2 V4 := bl_grown hb2 hG2 fun k hk => by cases hk; exact Nat.le_refl _
  have hX4 := (hK2.elsX hml).below hb4
  have hl1 : (rn.kept.take j).length = j := by rw [List.length_take]; omega
  obtain ⟨lv2, V5, hrun3, hO3, hG3, hN3⟩ := run_append_els (P := Tryz.prog) (K := kKept) (F := F) V4 V2.heap.size 32 32 128 i1 _ 32 Tryz.underlying32 gi gz0 gz1 gz2 rfl
    hO2 (hX4.from_ (i := j + 1) (by omega)) (fun k hk g => by have h1 := (hO2.lt k hk).1; have := h.big _ g; omega) (by rw [hl1, List.length_drop]; simp [maxLen]; omega) (by rw [hl1, List.length_drop]; omega) hb4.size
  have hb5 : Below V2.heap.size V2 V5 := bl_grown hb4 hG3 fun k hk => (hO2.lt k hk).1
  have hnx : rn.next.kept = rn.kept.take j ++ rn.kept.drop (j + 1) := by
    show dropK rn.kept rn.waits = _
    rw [dropK_some hp, List.eraseIdx_eq_take_drop_succ]
  have hlv2 : ∀ k, lv2.ownBlock = some k → V2.heap.size ≤ k := fun k hk => by
    rcases hN3 k hk with h1 | h1
    · exact (hO2.lt k h1).1
    · have := hb4.size; omega
  have htv : ∀ k, tv'.ownBlock = some k → k < V2.heap.size ∧ ¬ F k := fun k hk => ⟨(hO1.lt k hk).2, fun g => by
    rcases hN1 k hk with h1 | h1
    · exact h.nt k h1 g
    · have := h.big k g
      have := hb1.size
      omega⟩
  obtain ⟨o1, c1, e1⟩ := hO1.form
  obtain ⟨o2, c2, e2⟩ := hO2.form
  obtain ⟨o3, c3, e3⟩ := hO3.form
  refine ⟨⟨tv', V2, lv1, V4, lv2, V5, hrun1, ⟨o1, c1, by rw [e1, List.length_append]; rfl⟩, hrun2, ⟨o2, c2, by rw [e2, hl1]⟩, hrun3, ⟨o3, c3, by rw [e3, hnx]⟩, ?_⟩⟩
  refine ⟨?_, hO1.below hb5, ?_, h.ok.next, fun k hk e => ?_, fun k hk g => ?_, fun k hk => (htv k hk).2, ?_, h.bb, fun k hk => ?_, ?_, ?_⟩
  · rw [hnx]
    exact hO3.base (Nat.le_trans h.bw hs2)
  · rw [h.eq, drain_some hp, List.append_assoc]
    rfl
  · have h1 := hlv2 k hk
    have h2 := (htv k e).1
    omega
  · have h1 := hlv2 k hk
    have h2 := h.big k g
    omega
  · exact bl_fr (bl_fr h.bl hf1 (fun k hk => by have := (h.told.lt k hk).1; have := h.bb; omega)) (F := fun _ => False) (.of_below hb5) fun k hk => hk.elim
  · exact Nat.lt_of_lt_of_le (h.big k hk) (Nat.le_trans hs2 hb5.size)
  · exact Nat.le_trans h.bw (Nat.le_trans hs2 hb5.size)
  · rw [List.length_append, hnx, List.length_append, hl1, List.length_drop]
    simp
    omega

end Go.Proofs.YthmdibagcbbgoaaGreat

namespace Go.Proofs.YthmdibagcbbgoaaGreat
open Go.RowKit

theorem rcv_boxes (w : World) (r : Rcv) (rl ra : Value) : ∃ W, (w.alloc (.cells #[.int .i64 r.size, .int .i64 r.waits, rl, ra] 35)).alloc (.cells #[.int .i64 0, .int .i64 0, .slice none 0 0, .slice none 0 0] 35) = W ∧ Below w.heap.size w W ∧ W.heap[w.heap.size]? = some (.cells #[.int .i64 r.size, .int .i64 r.waits, rl, ra] 35 (0, 0)) ∧ W.heap[w.heap.size + 1]? = some (.cells #[.int .i64 0, .int .i64 0, .slice none 0 0, .slice none 0 0] 35 (0, 0)) :=
  ⟨_, rfl, bl_alloc (bl_alloc (bl_refl w) _) _, heap_alloc2_old w _ _, heap_alloc2_new w _ _⟩

set_option maxRecDepth 100000 in
set_option maxHeartbeats 4000000 in
theorem r8take_ok (C : Nat → Prop) (r : Rcv) (rl ra : Value) (A : List Int) (ns : Int) (v : Value) (p : List Int) (w : World) (hlim : ∀ k, C k → k < w.heap.size) (hk : Els kKept (Live C w) w rl r.kept) (hA : Rd (Live C w) (Value.int .i64) w ra A) (hv : Reads (Value.int .u8) w v p) (hwf : ∀ n ∈ p, (Lit.int .u8 n).wf = true) (hok : r.Ok) (hc : r.chk ns p.length = 0) :
    Calls Tryz.prog 92 #[refR r rl ra, .int .i64 ns, v] w fun e w' => ∃ rl' ra' tv av, e = .returned (.tuple #[refR (r.gone ns p).2 rl' ra', tv, av, .int .i64 0]) ∧ Els kKept (Live C w') w' rl' (r.gone ns p).2.kept ∧ Rd (Live C w') (Value.int .i64) w' ra' (r.gone ns p).2.missing ∧
      Pays (Live C w') w' tv (r.gone ns p).1 ∧ Rd (Live C w') (Value.int .i64) w' av ((r.gone ns p).2.missing.filter fun n => !hasN A n) ∧ Below w.heap.size w w' := by
  obtain ⟨i1, gi, gz0, gz1, gz2⟩ := info_parts infoK8
  obtain ⟨i2, ji, jz0, jz1, jz2⟩ := info_parts infoByte'
  obtain ⟨i3, li, lz0, lz1, lz2⟩ := info_parts infoInt
  obtain ⟨ao, cap, rfl, _, _⟩ := hk.form
  obtain ⟨qo, qn, qc, rfl⟩ : ∃ o n c, ra = .slice o n c := by
    obtain ⟨⟨_, o, c, e, _⟩, _⟩ := hA
    exact ⟨_, _, _, e⟩
  obtain ⟨vo, vc, rfl⟩ : ∃ o c, v = .slice o p.length c := by
    obtain ⟨_, o, c, e, _⟩ := hv
    exact ⟨_, _, e⟩
  obtain ⟨hP, hp1, hp2, hpos⟩ := hok.put hc p
  have hlen := hP.len
  have hs2 : (r.with_ ns p).size ≤ 63 := hok.size2
  have hkl : (r.with_ ns p).kept.length = r.kept.length + 1 := by show (r.kept ++ [(ns, p)]).length = _; simp
  obtain ⟨W0, hW0, hb0, hx0, hz0⟩ := rcv_boxes w r (.slice ao r.kept.length cap) (.slice qo qn qc)
  have HCK := r8check_any _ r (.slice ao r.kept.length cap) (.slice qo qn qc) ns (.slice vo p.length vc) p W0 (hk.below hb0) ⟨_, _, _, rfl⟩ (hv.below hb0)
  rw [hc] at HCK
  unfold refR at HCK ⊢
  obtain ⟨a0, a1, a2, a3⟩ := rc_cells hx0
  have HX0 := Lib.hid hx0
  have HZ0 := Lib.hid hz0
  have HB0 := Lib.hid hb0
  have HLIM := Lib.hid hlim
  have HA := Lib.hid hA
  have HSZ : Hid ((r.gone ns p).2.size = r.size) := (drain_ok (r.with_ ns p).kept.length _ hP).2.2.1
  have HGN : Hid (r.gone ns p = ([] ++ ((r.with_ ns p).drain (r.with_ ns p).kept.length).1, ((r.with_ ns p).drain (r.with_ ns p).kept.length).2)) := rfl
  clear hx0 hz0 hlim hA
  go_enter Tryz.func92, Tryz.ntmps92
  go_wp2_with (simp only [hW0])
  refine HCK.mono ?_
  rintro e W1 ⟨rfl, hb1⟩
  have hx1 := bl_get hb1 HX0.out
  obtain ⟨d0, d1, d2, d3⟩ := rc_cells hx1
  have hb01 := bl_trans HB0.out hb1
  obtain ⟨F, hF⟩ : ∃ F, Live C w = F := ⟨_, rfl⟩
  have hFw : ∀ k, F k → k < w.heap.size := fun k hk => by rw [← hF] at hk; exact hk.1
  rw [hF] at hk
  have hw1 := hb01.size
  -- the kept ones are copied
  have hba := bl_alloc (bl_refl W1) (.cells #[] 128)
  have d2' := below_cell hba d2
  obtain ⟨v2, W2, hrun2, hO2, hG2, hN2⟩ := run_append_els (P := Tryz.prog) (K := kKept) (F := F) _ W1.heap.size 32 32 128 i1 _ 32 Tryz.underlying32 gi gz0 gz1 gz2 rfl
    (ownEls_empty kKept F W1 (base := W1.heap.size) 128 (Nat.le_refl _)) ((ElsX.below hk hb01).below hba) (fun k hk g => by cases hk; have := hFw _ g; exact absurd this (by show ¬ W1.heap.size < w.heap.size; omega)) (by simp [maxLen]; omega) (by simp; omega) hba.size
  rw [List.nil_append] at hO2
  obtain ⟨o2, c2, rfl⟩ := hO2.form
  have hb2 : Below W1.heap.size W1 W2 := bl_grown hba hG2 fun k hk => by cases hk; exact Nat.le_refl _
  -- the payload is copied
  have hbc := bl_alloc (bl_refl W2) (.cells #[] 5)
  obtain ⟨v3, W3, hrun3, hO3, hG3, hN3⟩ := run_append_r (P := Tryz.prog) (W2.alloc (.cells #[] 5)) W2.heap.size 44 44 5 i2 _ 1 Tryz.underlying44 ji jz0 jz1 jz2 rfl (.slice (some ⟨W2.heap.size, 0, none⟩) 0 0) 0 [] (owns_empty W2 5 (Nat.le_refl _)) (Value.int .u8) (.slice vo p.length vc) p
    (((hv.below hb01).below hb2).below hbc) (fun _ _ => rfl) (by simp [maxLen]; omega) (by simp; omega) hbc.size
  simp only [Nat.zero_add, List.nil_append] at hO3
  have hb3 : Below W2.heap.size W2 W3 := bl_grown hbc hG3 fun k hk => by cases hk; exact Nat.le_refl _
  obtain ⟨o3, c3, hv3⟩ := rc_form hO3
  have hy3 : Byt (fun k => W2.heap.size ≤ k ∧ k < W3.heap.size) W3 v3 p := ⟨Rd.of_owns hO3 (by simp [maxLen]; omega), hwf⟩
  subst hv3
  -- it is put behind them
  obtain ⟨W4, hW4⟩ : ∃ W4, W3.alloc (.cells #[.int .i64 ns, .slice o3 p.length c3] 128) = W4 := ⟨_, rfl⟩
  have hg4 : W4.heap[W3.heap.size]? = some (.cells (kKept.cells (ns, p) (.slice o3 p.length c3)) 128 (0, 0)) := hW4 ▸ heap_alloc_new W3 _
  have hb4 : Below W3.heap.size W3 W4 := hW4 ▸ bl_alloc (bl_refl W3) _
  have hb24 := bl_trans hb3 hb4
  obtain ⟨F1, hF1⟩ : ∃ F1 : Nat → Prop, F1 = fun k => F k ∨ (W2.heap.size ≤ k ∧ k < W3.heap.size) := ⟨_, rfl⟩
  have hs3 := hb3.size
  have hs4 := hb4.size
  have hs2' := hb2.size
  have hF1b : ∀ k, F1 k → k < w.heap.size ∨ (W2.heap.size ≤ k ∧ k < W3.heap.size) := fun k hk => by
    rw [hF1] at hk
    rcases hk with hk | hk
    · exact .inl (hFw k hk)
    · exact .inr hk
  obtain ⟨v5, W5, hrun5, hO5, hG5, hN5⟩ := run_append_els (P := Tryz.prog) (K := kKept) (F := F1) (m := [(ns, p)]) W4 W1.heap.size 32 32 128 i1 _ 32 Tryz.underlying32 gi gz0 gz1 gz2 rfl
    ((hO2.mono (G := F1) fun k hk => by rw [hF1]; exact .inl hk).below hb24) (elsX_one (K := kKept) (c := (ns, p)) hg4 ((hy3.below hb4).mono fun k hk => by rw [hF1]; exact .inr hk)) (fun k hk g => by
      have h1 := hO2.lt k hk
      rcases hF1b k g with g | g <;> omega) (by simp [maxLen]; omega) (by simp; omega) (by omega)
  obtain ⟨o5, c5, hv5⟩ := hO5.form
  have hb5 : Below W1.heap.size W1 W5 := bl_grown (bl_trans hb2 hb24) hG5 fun k hk => (hO2.lt k hk).1
  have hs5 : W4.heap.size ≤ W5.heap.size := hG5.size
  have hn5 : ∀ k, v5.ownBlock = some k → (W1.heap.size ≤ k ∧ k < W2.heap.size) ∨ (W4.heap.size ≤ k ∧ k < W5.heap.size) := fun k hk => by
    rcases hN5 k hk with h1 | h1
    · exact .inl (hO2.lt k h1)
    · exact .inr ⟨h1, (hO5.lt k hk).2⟩
  have hx5 := bl_get hb5 hx1
  obtain ⟨g0, g1, g2, g3⟩ := rc_cells hx5
  -- nothing is told yet
  obtain ⟨W6, hW6⟩ : ∃ W6, W5.alloc (.cells #[] 44) = W6 := ⟨_, rfl⟩
  have hb6 : Below W5.heap.size W5 W6 := hW6 ▸ bl_alloc (bl_refl W5) _
  have hE6 : OwnEls W1.heap.size 44 kPay F1 W6 (.slice (some ⟨W5.heap.size, 0, none⟩) 0 0) [] := hW6 ▸ ownEls_empty kPay F1 W5 (base := W1.heap.size) 44 hb5.size
  have hl6 : W5.heap.size < W6.heap.size := by rw [← hW6, World.size_alloc]; omega
  have hD6 : DrB W0 W1.heap.size F1 (r.gone ns p) v5 (.slice (some ⟨W5.heap.size, 0, none⟩) 0 0) W6 (r.with_ ns p) [] := by
    refine ⟨hO5.below hb6, hE6, HGN.out, hP, fun k hk e => ?_, fun k hk g => ?_, fun k hk g => ?_, bl_trans (bl_trans hb1 hb5) hb6, hb1.size, fun k hk => ?_, ?_, ?_⟩
    · have e' : W5.heap.size = k := by simpa [Value.ownBlock] using e
      rcases hn5 _ hk with h1 | h1 <;> omega
    · rcases hn5 k hk with h1 | h1 <;> rcases hF1b k g with g | g <;> omega
    · have e' : W5.heap.size = k := by simpa [Value.ownBlock] using hk
      rcases hF1b _ g with g | g <;> omega
    · rcases hF1b k hk with g | g <;> omega
    · omega
    · show 0 + (r.with_ ns p).kept.length ≤ 64
      omega
  rw [show (r.kept ++ [(ns, p)]).length = r.kept.length + 1 by simp] at hv5
  subst hv5
  have HR2 := Lib.hid hrun2
  have HR3 := Lib.hid hrun3
  have HR5 := Lib.hid hrun5
  have HD6 := Lib.hid hD6
  have HF1 : Hid (∀ k, F1 k → (k < w.heap.size ∧ ¬ C k) ∨ (W0.heap.size ≤ k)) := fun k hk => by
    rw [hF1] at hk
    rcases hk with hk | hk
    · rw [← hF] at hk; exact .inl hk
    · exact .inr (by have := hb1.size; omega)
  clear hx1 hb1 hb01 hFw hk hw1 hba hrun2 hO2 hG2 hN2 hb2 hbc hrun3 hO3 hG3 hN3 hb3 hy3 hg4 hb4 hb24 hF1b hrun5 hO5 hG5 hN5 hb5 hs5 hn5 hx5 hb6 hE6 hl6 hD6 hs3 hs4 hs2' HCK hF hF1 hP hp1 hp2 hpos hv hwf hlen hs2 hkl
  go_wp2_with (at_builtin; first | refine wpList_append_run rfl (.tmp 29) (.tmp 31) 32 rfl rfl rfl HR2.out ?_ | refine wpList_append_run rfl (.tmp 35) (.tmp 36) 44 rfl rfl rfl HR3.out ?_ | refine wpList_append_run rfl (.tmp 33) (.tmp 39) 32 rfl rfl rfl HR5.out ?_)
  go_loopw [10, 11, 12] (fun lv kv tv wr => ∃ (rn : Rcv) (T : List (List Int)), kv = .int .i64 rn.waits ∧ Hid (DrB W0 W1.heap.size F1 (r.gone ns p) lv tv wr rn T)) (fun lv _ _ _ => lenV lv)
  case atStart => exact ⟨r.with_ ns p, [], rfl, HD6⟩
  case round =>
    clear HD6 HR2 HR3 HR5
    obtain ⟨rn, T, rfl, HD⟩ := hrel
    obtain ⟨lo, lc, rfl⟩ := HD.out.kept.form
    obtain ⟨to, tc, rfl⟩ := HD.out.told.form
    have hlim := HD.out.lim
    have hml : rn.kept.length ≤ maxLen := by unfold maxLen; omega
    have hEl := HD.out.kept.els hml
    obtain ⟨_, _, hlv, hlc, _⟩ := hEl.form
    simp only [Value.slice.injEq, true_and] at hlv
    obtain ⟨rfl, rfl⟩ := hlv
    have HPL := r8place_any _ _ rn.kept rn.waits wr hEl
    cases hp : pos rn.kept rn.waits with
    | none =>
      obtain ⟨wq, hwq⟩ : ∃ wq, wq = wr := ⟨_, rfl⟩
      subst hwq
      have hpl : placeN rn.kept rn.waits = -1 := by unfold placeN; rw [hp]
      rw [hpl] at HPL
      have hG : r.gone ns p = (T, rn) := by rw [HD.out.eq, drain_none hp]; simp
      have hG1 : (r.gone ns p).1 = T := by rw [hG]
      have hG2 : (r.gone ns p).2 = rn := by rw [hG]
      have hsz : (rn.size : Int) = (r.size : Int) := by rw [← hG2, HSZ.out]
      have HGE : Hid ((r.gone ns p).1 = T ∧ (r.gone ns p).2 = rn) := ⟨hG1, hG2⟩
      have hx := bl_get HD.out.bl HX0.out
      obtain ⟨e0, e1, e2, e3⟩ := rc_cells hx
      have HX := Lib.hid hx
      -- the receiver behind it
      obtain ⟨Wb, hWb⟩ : ∃ Wb, wq.alloc (.cells #[.int .i64 r.size, .int .i64 rn.waits, .slice lo rn.kept.length lc, .slice none 0 0] 35) = Wb := ⟨_, rfl⟩
      have hbb : Below wq.heap.size wq Wb := hWb ▸ bl_alloc (bl_refl wq) _
      have hxb : Wb.heap[wq.heap.size]? = some (.cells #[.int .i64 r.size, .int .i64 rn.waits, .slice lo rn.kept.length lc, .slice none 0 0] 35 (0, 0)) := hWb ▸ heap_alloc_new wq _
      have HM := r8missing_any _ rn (.slice lo rn.kept.length lc) (.slice none 0 0) Wb (hEl.below hbb) (by omega) ⟨_, _, _, rfl⟩
      unfold refR at HM
      rw [hsz] at HM
      have HBB := Lib.hid hbb
      have HXB := Lib.hid hxb
      have HSI := Lib.hid hsz
      have HML := Lib.hid (rmissing_le' rn)
      obtain ⟨M, hM⟩ : ∃ M, rn.missing = M := ⟨_, rfl⟩
      rw [hM] at HM HML
      have HMM := Lib.hid hM
      have HWB := Lib.hid hWb
      clear hbb hxb hx hp hpl hG hG1 hG2 hml hlim hsz hM hEl e1 e2 hWb
      go_wp2_with fail
      refine HPL.mono ?_
      rintro e w2 ⟨rfl, rfl⟩
      go_wp2_with fail
      have hWb := HWB.out
      simp only [hWb]
      refine HM.mono ?_
      rintro e Wm ⟨u, rfl, hu, hbm⟩
      obtain ⟨uo, uc, rfl⟩ := rc_form hu
      have hxm := bl_get hbm HXB.out
      have hx0m := bl_get (bl_trans (bl_trans HD.out.bl HBB.out) hbm) HX0.out
      have HZM := Lib.hid (bl_get (bl_trans (bl_trans HD.out.bl HBB.out) hbm) HZ0.out)
      have HXM := Lib.hid hxm
      have HX0M := Lib.hid hx0m
      have HU := Lib.hid hu
      have HBM := Lib.hid hbm
      have hE := owns_empty Wm (base := Wm.heap.size) 3 (Nat.le_refl _)
      have hBe := bl_alloc (bl_refl Wm) (.cells #[] 3)
      have HMX : Hid (M.length ≤ 128) := HML
      have HRA : Hid (Reads (Value.int .i64) Wm (.slice qo qn qc) A) := ((((HA.out.1.below HB0.out).below HD.out.bl).below HBB.out).below hbm)
      have HZB : Hid (w.heap.size + 1 < W0.heap.size ∧ W0.heap.size ≤ wq.heap.size ∧ wq.heap.size < Wb.heap.size ∧ Wb.heap.size ≤ Wm.heap.size ∧ W0.heap.size ≤ W1.heap.size ∧ W1.heap.size ≤ wq.heap.size) := ⟨lt_of_get HZ0.out, HD.out.bl.size, lt_of_get HXB.out, hbm.size, HD.out.bb, HD.out.bw⟩
      clear hu hbm hxm hx0m HM e0 e3
      go_wp2_with fail
      go_loopw [17, 18] (fun av iv w2 => ∃ k : Nat, k ≤ M.length ∧ iv = .int .i64 k ∧ w2.ownsRow Wm.heap.size 3 1 av ((M.take k).filter fun n => !hasN A n).length (((M.take k).filter fun n => !hasN A n).map (Value.int .i64)) ∧ Hid (Below Wm.heap.size Wm w2)) (fun _ iv _ => 129 - (intOf iv).toNat)
      case atStart => exact ⟨0, by omega, rfl, by simpa using hE, hBe⟩
      case round =>
        clear hE hBe
        obtain ⟨k, hk, rfl, hown, HB⟩ := hrel
        obtain ⟨h0, h1, h2, h3⟩ := rc_cells (bl_get HB.out HX0M.out)
        have hfl : ((M.take k).filter fun n => !hasN A n).length ≤ 128 := by
          have h1 := List.length_filter_le (fun n => !hasN A n) (M.take k)
          rw [List.length_take] at h1
          have := HMX.out
          omega
        have hMX := HMX.out
        by_cases hlt : k < M.length
        · obtain ⟨n, hn⟩ := get_some hlt
          obtain ⟨g, rfl, hcell, hgl⟩ : ∃ g, uo = some ⟨g, 0, none⟩ ∧ Wm.cell? ⟨g, k, none⟩ = some (.int .i64 n) ∧ g < Wm.heap.size := by
            have hu := HU.out
            rcases hu.2 with ⟨e, h0⟩ | ⟨g, c', cur, e, _, hg, _⟩
            · omega
            · simp only [Value.slice.injEq] at e
              obtain ⟨rfl, _, rfl⟩ := e
              have := hu.cells (g := g) rfl k (.int .i64 n) (by rw [List.getElem?_map, hn]; rfl)
              rw [Addr.add_lit, Nat.zero_add] at this
              exact ⟨g, rfl, this, lt_of_get hg⟩
          have cn := below_cell HB.out hcell
          have f0 : (0 : Int) ≤ (k : Int) := by omega
          have f1 : (k : Int) < (M.length : Int) := by omega
          have hts : M.take (k + 1) = M.take k ++ [n] := by rw [List.take_add_one, hn]; rfl
          have HH := fun W : World => fun hb : Below wr.heap.size wr W => rhas_any (.slice qo qn qc) A n W ((HRA.out.below HB.out).below hb)
          have HTS := Lib.hid hts
          clear hcell hgl hn hts
          cases hh : hasN A n with
          | true =>
            rw [hh] at HH
            have hs : Hid (((M.take (k + 1)).filter fun n => !hasN A n) = (M.take k).filter fun n => !hasN A n) := by unfold Hid; rw [HTS.out, List.filter_append, List.filter_cons_of_neg (by simp [hh])]; simp
            clear hh HTS
            go_wp2_with fail
            go_region_held3 (fun w' => w'.cell? ⟨w.heap.size, 3, none⟩ = some (.slice qo qn qc) ∧ w'.cell? ⟨g, k, none⟩ = some (.int .i64 n))
              (first | exact ⟨below_cell (bl_drew (bl_refl _)) h3, below_cell (bl_drew (bl_refl _)) cn⟩ | exact ⟨h3, cn⟩)
              (first | (go_at_call 101; refine (HH _ (bl_drew (bl_refl _))).mono ?_; rintro e w4 ⟨rfl, rfl⟩))
            go_wp2
            go_roundw
            case rel => exact ⟨k + 1, by omega, by go_num, by rw [hs.out]; exact own_bl8 hown (bl_drew (bl_refl _)), bl_drew HB.out⟩
            case measure => simp [intOf]; omega
          | false =>
            rw [hh] at HH
            have hs : Hid (((M.take (k + 1)).filter fun n => !hasN A n) = ((M.take k).filter fun n => !hasN A n) ++ [n]) := by unfold Hid; rw [HTS.out, List.filter_append, List.filter_cons_of_pos (by simp [hh])]; simp
            have hown2 := own_bl8 hown (bl_drew (bl_refl wr))
            have hba := bl_alloc (bl_drew (bl_refl wr)) (.cells #[.int .i64 n] 3)
            obtain ⟨av', V, hrun, hO, hG, hN⟩ := run_append_r (P := Tryz.prog) (wr.drew.alloc (.cells #[.int .i64 n] 3)) Wm.heap.size 33 33 3 i3 _ 8 Tryz.underlying33 li lz0 lz1 lz2 rfl _ _ _ (hown2.alloc _) (Value.int .i64) (.slice (some ⟨wr.drew.heap.size, 0, none⟩) 1 1) [n] (reads_one _ _ _ _) (fun _ _ => rfl) (by simp only [maxLen, List.length_singleton]; omega) (by simp only [List.length_singleton]; omega) (Nat.le_trans HB.out.size hba.size)
            obtain ⟨xo, xc, rfl⟩ := rc_form hown
            have hbv := bl_grown (bl_trans HB.out hba) hG (fun k hk => (hown.lt k hk).1)
            have R := Lib.hid hrun
            have HO : Hid (V.ownsRow Wm.heap.size 3 1 av' ((M.take (k + 1)).filter fun n => !hasN A n).length (((M.take (k + 1)).filter fun n => !hasN A n).map (Value.int .i64))) := by
              unfold Hid
              rw [hs.out, List.length_append, List.map_append]
              exact hO
            have HBV := Lib.hid hbv
            obtain ⟨yo, yc, rfl⟩ := rc_form hO
            clear hh HTS hO hG hN hba hown2 hown hrun hs hbv
            go_wp2_with fail
            go_region_held3 (fun w' => w'.cell? ⟨w.heap.size, 3, none⟩ = some (.slice qo qn qc) ∧ w'.cell? ⟨g, k, none⟩ = some (.int .i64 n))
              (first | exact ⟨below_cell (bl_drew (bl_refl _)) h3, below_cell (bl_drew (bl_refl _)) cn⟩ | exact ⟨h3, cn⟩)
              (first | (go_at_call 101; refine (HH _ (bl_drew (bl_refl _))).mono ?_; rintro e w4 ⟨rfl, rfl⟩))
            go_wp2_with (at_builtin; refine wpList_append_run rfl (.tmp 94) (.tmp 99) 33 rfl rfl rfl R.out ?_)
            go_roundw
            case rel => exact ⟨k + 1, by omega, by go_num, HO.out, HBV.out⟩
            case measure => simp [intOf]; omega
        · have hke : k = M.length := by omega
          subst hke
          rw [List.take_length] at hown
          obtain ⟨xo, xc, rfl⟩ := rc_form hown
          have hml9 : (M.filter fun n => !hasN A n).length ≤ maxLen := by
            have := List.length_filter_le (fun n => !hasN A n) M
            unfold maxLen
            omega
          have hRA := Rd.of_owns (f := Value.int .i64) hown hml9
          have hZB := HZB.out
          -- out.Asked = missing
          have hxo := bl_get HB.out HXM.out
          obtain ⟨v0, v1, v2, v3⟩ := rc_cells hxo
          have y3 := rc_frozen (j := 3) hxo
          have hxz := bl_get HB.out HZM.out
          obtain ⟨V, hV⟩ : ∃ V, wr.setCell ⟨wq.heap.size, 3, none⟩ (.slice uo M.length uc) = V := ⟨_, rfl⟩
          have hfV : Fr (fun k => k = wq.heap.size) wr V := hV ▸ fr_cell wr wq.heap.size 3 _
          have hxV : V.heap[wq.heap.size]? = some (.cells #[.int .i64 r.size, .int .i64 rn.waits, .slice lo rn.kept.length lc, .slice uo M.length uc] 35 (0, 0)) := hV ▸ rc_set wr wq.heap.size 3 _ _ _ hxo
          obtain ⟨t0, t1, t2, t3⟩ := rc_cells hxV
          have hzV := hfV.get hxz (by omega)
          obtain ⟨s0, s1, s2, s3⟩ := rc_cells hzV
          have z0 := rc_frozen (j := 0) hzV
          have z1 := rc_frozen (j := 1) hzV
          have z2 := rc_frozen (j := 2) hzV
          have z3 := rc_frozen (j := 3) hzV
          -- the result's box
          have hrow := set_four V (w.heap.size + 1) _ _ _ _ (.int .i64 r.size) (.int .i64 rn.waits) (.slice lo rn.kept.length lc) (.slice uo M.length uc) _ hzV
          have hfZ := fr_four V (w.heap.size + 1) (.int .i64 r.size) (.int .i64 rn.waits) (.slice lo rn.kept.length lc) (.slice uo M.length uc)
          obtain ⟨V9, hV9⟩ : ∃ V9, (((V.setCell ⟨w.heap.size + 1, 0, none⟩ (.int .i64 r.size)).setCell ⟨w.heap.size + 1, 1, none⟩ (.int .i64 rn.waits)).setCell ⟨w.heap.size + 1, 2, none⟩ (.slice lo rn.kept.length lc)).setCell ⟨w.heap.size + 1, 3, none⟩ (.slice uo M.length uc) = V9 := ⟨_, rfl⟩
          rw [hV9] at hrow hfZ
          obtain ⟨n0, n1, n2, n3⟩ := rc_cells hrow
          have hbq : Below wq.heap.size wq V := bl_fr (bl_trans (bl_trans HBB.out HBM.out) HB.out) hfV fun k hk => by omega
          have hFq : Fr (fun k => k = w.heap.size + 1) wq V9 := (Fr.of_below hbq).trans hfZ fun k hk => .inl hk
          have hFm : Fr (fun k => k = w.heap.size + 1 ∨ k = wq.heap.size) Wm V9 := ((Fr.of_below (F := fun k => k = w.heap.size + 1 ∨ k = wq.heap.size) HB.out).trans hfV fun k hk => .inl (.inr hk)).trans hfZ fun k hk => .inl (.inl hk)
          have hFr : Fr (fun k => k = w.heap.size + 1 ∨ k = wq.heap.size) wr V9 := (hfV.mono fun k hk => .inl (.inr hk)).trans hfZ fun k hk => .inl (.inl hk)
          have hbl : Below w.heap.size w V9 := bl_fr (bl_trans (bl_trans HB0.out HD.out.bl) hbq) hfZ fun k hk => by omega
          have hlive : ∀ k, (F1 k ∨ (W1.heap.size ≤ k ∧ k < wq.heap.size)) → ¬ k = w.heap.size + 1 ∧ Live C V9 k := fun k hk => by
            have hs := hFq.size
            rcases hk with hk | hk
            · have hb := HD.out.big k hk
              rcases HF1.out k hk with g | g
              · exact ⟨by omega, by omega, g.2⟩
              · exact ⟨by omega, by omega, fun gc => by have := HLIM.out k gc; omega⟩
            · exact ⟨by omega, by omega, fun gc => by have := HLIM.out k gc; omega⟩
          have hlim := HD.out.lim
          have hK := ((HD.out.kept.els (by unfold maxLen; omega)).fr hFq fun k hk => (hlive k hk).1).mono fun k hk => (hlive k hk).2
          have hT := ((els_pays (HD.out.told.els (by unfold maxLen; omega))).fr hFq fun k hk => (hlive k hk).1).mono fun k hk => (hlive k hk).2
          have hsm := hFm.size
          have hM9 : Rd (Live C V9) (Value.int .i64) V9 (.slice uo M.length uc) M := ((Rd.of_owns (f := Value.int .i64) HU.out (by unfold maxLen; omega)).fr hFm fun k hk g => by omega).mono fun k hk => ⟨by omega, fun gc => by have := HLIM.out k gc; omega⟩
          have hsr := hFr.size
          have hA9 : Rd (Live C V9) (Value.int .i64) V9 (.slice xo (M.filter fun n => !hasN A n).length xc) (M.filter fun n => !hasN A n) := (hRA.fr hFr fun k hk g => by omega).mono fun k hk => ⟨by omega, fun gc => by have := HLIM.out k gc; omega⟩
          have HFIN : Hid (Els kKept (Live C V9) V9 (.slice lo rn.kept.length lc) rn.kept ∧ Rd (Live C V9) (Value.int .i64) V9 (.slice uo M.length uc) M ∧ Pays (Live C V9) V9 (.slice to T.length tc) T ∧ Rd (Live C V9) (Value.int .i64) V9 (.slice xo (M.filter fun n => !hasN A n).length xc) (M.filter fun n => !hasN A n) ∧ Below w.heap.size w V9) := ⟨hK, hM9, hT, hA9, hbl⟩
          have HV9 := Lib.hid hV9
          clear hRA hZB hxo hxz hfV hxV hzV hfZ hrow hbq hFq hFm hFr hbl hlive hlim hK hT hsm hsr hM9 hA9 hown hml9 h0 h1 h2 h3 hV9
          go_wp2_with fail
          have hV9 := HV9.out
          simp only [hV9]
          refine bodyPost_ret (by simp [results, Tryz.results92, go_sem, n0, n1, n2, n3]; try rfl) rfl ?_
          refine ⟨.slice lo rn.kept.length lc, .slice uo M.length uc, .slice to T.length tc, .slice xo (M.filter fun n => !hasN A n).length xc, ?_, ?_, ?_, ?_, ?_, HFIN.out.2.2.2.2⟩
          · rw [HGE.out.2, HSI.out]
          · rw [HGE.out.2]; exact HFIN.out.1
          · rw [HGE.out.2, HMM.out]; exact HFIN.out.2.1
          · rw [HGE.out.1]; exact HFIN.out.2.2.1
          · rw [HGE.out.2, HMM.out]; exact HFIN.out.2.2.2.1
    | some y =>
      obtain ⟨j, pay⟩ := y
      have hpl : placeN rn.kept rn.waits = (j : Int) := by unfold placeN; rw [hp]
      rw [hpl] at HPL
      have hj := pos_lt hp
      have hgj : rn.kept[j]? = some ((rn.waits : Int), pay) := pos_some hp
      obtain ⟨b, o, x, rfl, _, hcell, hx⟩ := (HD.out.kept.elsX hml).at_ hgj
      have hc1 : wr.cell? ⟨b, o + (j * 2 + 1), none⟩ = some x := hcell 1 _ rfl
      rw [← Nat.add_assoc] at hc1
      obtain ⟨xo, xc, rfl⟩ : ∃ xo xc, x = .slice xo pay.length xc := by
        obtain ⟨⟨⟨_, ao, cap, e, _⟩, _⟩, _⟩ := hx
        exact ⟨ao, cap, e⟩
      obtain ⟨tv', V2, lv1, V4, lv2, V5, hr1, ⟨p1, q1, rfl⟩, hr2, ⟨p2, q2, rfl⟩, hr3, ⟨p3, q3, rfl⟩, hD⟩ := (HD.out.step hp hx).ex
      obtain ⟨m, hm⟩ : ∃ m, j + 1 = m := ⟨_, rfl⟩
      obtain ⟨fo, hfo⟩ : ∃ fo, (if lc = m then (some ⟨b, o, none⟩ : Option Addr) else (some ⟨b, o, none⟩ : Option Addr).map (·.add (m * 2))) = fo := ⟨_, rfl⟩
      have hto : ∀ W, (Instr.sliceAt 32 (.slice (some ⟨b, o, none⟩) rn.kept.length lc) none (some (.int .i64 j)) none).run Tryz.prog W = .ok (.slice (some ⟨b, o, none⟩) j lc) W := fun W => run_to2 Tryz.underlying32 gi W _ _ _ _ (by omega)
      have hfrom : ∀ W, (Instr.sliceAt 32 (.slice (some ⟨b, o, none⟩) rn.kept.length lc) (some (.int .i64 m)) none none).run Tryz.prog W = .ok (.slice fo (rn.kept.length - m) (lc - m)) W := fun W => by
        rw [← hfo]
        exact run_from2 Tryz.underlying32 gi gz1 W _ _ _ _ (by omega)
      rw [hm, hfo] at hr3
      have R1 := Lib.hid hr1
      have R2 : Hid ((Builtin.append_ #[32, 32] 32 #[.slice (some ⟨V2.heap.size, 0, none⟩) 0 0, .slice (some ⟨b, o, none⟩) j lc]).run Tryz.prog (V2.alloc (.cells #[] 128)) = .ok (.slice p2 j q2) V4) := hr2
      have R3 := Lib.hid hr3
      have HD' := Lib.hid hD
      have f0 : (0 : Int) ≤ (j : Int) := by omega
      have f1 : (j : Int) < (rn.kept.length : Int) := by omega
      have f2 : IntKind.i64.wrap ((j : Int) + 1) = (m : Int) := by rw [IntWalk.i64_in _ (by omega)]; omega
      have HW : Hid (((rn.waits : Int) + 1) % 128 = (rn.next.waits : Int)) := by unfold Hid; show _ = (((rn.waits + 1) % 128 : Nat) : Int); omega
      have HLT : Hid (rn.next.kept.length < rn.kept.length) := by
        unfold Hid
        have := dropK_len hp
        show (dropK rn.kept rn.waits).length < _
        omega
      clear hcell hgj hr1 hr2 hr3 hD hfo hx hp hpl hEl hml hlim hm
      go_wp2_with fail
      refine HPL.mono ?_
      rintro e w2 ⟨rfl, rfl⟩
      go_wp2_with fail
      refine HPL.mono ?_
      rintro e w2 ⟨rfl, rfl⟩
      go_wp2_with (at_builtin; first | refine wpList_append_run rfl (.tmp 51) (.tmp 57) 29 rfl rfl rfl R1.out ?_ | refine wpList_append_run rfl (.tmp 59) (.tmp 62) 32 rfl rfl rfl R2.out ?_ | refine wpList_append_run rfl (.tmp 64) (.tmp 68) 32 rfl rfl rfl R3.out ?_)
      refine (rnext_any _ _).mono ?_
      rintro e w2 ⟨rfl, rfl⟩
      rw [HW.out]
      go_wp2
      go_roundw
      case rel => exact ⟨rn.next, T ++ [pay], rfl, by simpa using HD'⟩
      case measure => simp [lenV]; exact HLT.out

end Go.Proofs.YthmdibagcbbgoaaGreat
