/- recv.Take. recv: Take at anything, Forget, the nil receiver. One byte in new memory. No program in sight. string(b) of whatever reads as bytes: its text. Conditions: as they stand. -/
import Derived.Deep.RegionHeld3
import Derived.Deep.DrawnRows
import Derived.WalkMore
import Derived.Test.YthmdibagcbbgoaaGreatM05
import Derived.Test.YthmdibagcbbgoaaGreatM01
import Derived.WalkKit
import Derived.Test.YthmdibagcbbgoaaGreatM00
import Derived.OpenShut
import Derived.Laws.BytesArg
import Derived.Test.YthmdibagcbbgoaaGreatProg
namespace Go.Proofs.YthmdibagcbbgoaaGreat
open Go.RowKit

theorem infoBytes8 : (Tryz.prog.info? 44).map (fun i => (i.zero, i.size, i.bytes)) = some (some (.slice none 0 0), 1, 24) := by kernel_rfl
def rest8 (w : World) (a : Nat) : Nat := match w.heap[a]? with
  | some (.cells cs _ _) => (match cs[2]? with
    | some (Value.map (some mb)) => (match w.heap[mb]? with
      | some (.map es _) => es.size
      | _ => 0)
    | _ => 0)
  | _ => 0
theorem rest8_at {C D : Nat → Prop} {w : World} {a mb ab : Nat} {fk : List (Int × Value)} {r : Rcv} (h : RcP C D w a mb ab fk r) : rest8 w a = r.kept.length := by
  obtain ⟨es, clock, hmb, hE⟩ := h.hM
  have hal : fk.length = r.kept.length := by simpa using congrArg List.length h.keys
  have h2 := hE.len
  unfold rest8
  rw [h.hb]
  simp [hmb]
  simp only [Array.length_toList] at h2
  omega

theorem wrap_one : wrap64 (0 + 1) = 1 := by unfold wrap64; omega
set_option maxRecDepth 100000 in
set_option maxHeartbeats 1000000 in
theorem rctake_ok (C D : Nat → Prop) (a : Nat) (r : Rcv) (ns : Int) (ao : Option Addr) (cap : Nat) (p : List Int) (w : World) (hs : RcvAt C D w a r) (hC : ∀ k, C k ∨ D k → k < w.heap.size) (hr : Reads (Value.int .u8) w (.slice ao p.length cap) p) (hpw : ∀ n ∈ p, (Lit.int .u8 n).wf = true) (hE : r.chk ns p.length = 0) (hpl : p.length ≤ 121) (hkl : r.kept.length ≤ 200) (hnew : pos r.kept ns = none) :
    Calls Tryz.prog 96 #[.pointer (some ⟨a, 0, none⟩), .int .i64 ns, .slice ao p.length cap] w fun e w' => ∃ tv av, e = .returned (.tuple #[tv, av, .int .i64 0]) ∧
      RcvAt C (fun k => D k ∨ (w.heap.size ≤ k ∧ k < w'.heap.size)) w' a (r.took ns p) ∧ Fr C w w' ∧ Pays (fun k => D k ∨ (w.heap.size ≤ k ∧ k < w'.heap.size)) w' tv (r.gone ns p).1 ∧
      w'.ownsRow w.heap.size 3 1 av (r.asks ns p).length ((r.asks ns p).map (Value.int .i64)) := by
  have hCw := Lib.hid hC
  have HCHK := Lib.hid (rccheck_any C D a r ns ao p.length cap w hs)
  obtain ⟨mb, ab, fk, HP⟩ := hs
  have HP0 := Lib.hid HP
  obtain ⟨es, clock, hmb, hE1⟩ := HP.hM
  have hpn := HP.pos_none hnew
  have hnm := (ne_map HP.hb hmb)
  obtain ⟨c0, c1, c2, c3⟩ := rc_cells HP.hb
  clear HP
  obtain ⟨i0, hi, hz0, hz1, hz2⟩ := info_parts (infoByte8)
  obtain ⟨i1, gi, gz0, gz1, gz2⟩ := info_parts (infoBytes8)
  obtain ⟨i2, ji, jz0, jz1, jz2⟩ := info_parts (infoInt)
  have hup := fun (W : World) (hW : W.heap[mb]? = some (.map es clock)) (v : Value) => run_update_new (P := Tryz.prog) (w := W) (t := 87) Tryz.underlying87 Tryz.underlying3 hW hE1 hpn v
  go_enter Tryz.func96, Tryz.ntmps96
  go_wp2_with fail
  go_step3
  go_wp2_with fail
  refine HCHK.out.mono ?_
  rintro e w' ⟨rfl, kk, rfl⟩
  rw [hE]
  have HB1 := Lib.hid (bl_drewN (bl_refl w) kk)
  have hmb1 : (w.drewN kk).heap[mb]? = some (.map es clock) := hmb
  have c2' : (w.drewN kk).cell? ⟨a, 2, none⟩ = some (.map (some mb)) := c2
  have hr1 := hr.below HB1.out
  generalize w.drewN kk = W at HB1 hmb1 c2' hr1 ⊢
  have P1 : 0 + p.length ≤ maxLen := by unfold maxLen; omega
  have P2 : (0 + p.length) * 1 ≤ 140737488355328 := by omega
  clear c0 c1 c2 c3 hmb hr hnew
  go_wp2_with fail
  go_region_held3 (fun w' => w'.cell? ⟨a, 2, none⟩ = some (.map (some mb)))
    (first | (exact below_cell (by first | assumption | exact bl_refl _ | exact bl_drew (bl_refl _) | exact bl_alloc (bl_drew (bl_refl _)) _) c2') | (exact cell_put (below_cell (by first | assumption | exact bl_drew (by assumption)) c2') hnm))
    (first
      | (refine step_of_wp (by rfl) (wp_append_r _ (.tmp 28) (.tmp 29) _ rfl W.heap.size 5 i0 (.int .u8 0) 1 Tryz.underlying44 hi hz0 hz1 hz2 (by rfl) _ _ _ (by rfl) (owns_empty W.drew 5 (Nat.le_refl _)) (Value.int .u8) _ p (by rfl) (hr1.below (bl_alloc (bl_drew (bl_refl _)) _)) (by intros; rfl) P1 P2 (by simp) ?_); intro u W2 hO2 hg2; have hB2 : Below W.heap.size W W2 := bl_grown (bl_alloc (bl_drew (bl_refl _)) _) hg2 (by intro k hk; cases hk; exact Nat.le_refl _); have hmb2 : W2.heap[mb]? = some (.map es clock) := bl_get hB2 hmb1))
  have hbu : Byt (fun k => D k ∨ (W.heap.size ≤ k ∧ k < W2.heap.size)) W2 u p := by
    have h0 : W2.ownsRow W.heap.size 5 1 u p.length (p.map (Value.int .u8)) := by simpa using hO2
    exact ⟨(Rd.of_owns h0 (by unfold maxLen; omega)).mono fun k hk => .inr hk, hpw⟩
  have hWs := HB1.out.size
  have hW2s := hB2.size
  have hDC : ∀ k, (D k ∨ (W.heap.size ≤ k ∧ k < W2.heap.size)) → ¬ C k := by
    intro k hk hc
    rcases hk with hk | hk
    · exact HP0.out.dis k hk hc
    · have := hC k (.inl hc); omega
  have hq := fr_put W2 mb (.map (es.push ⟨.int .i64 ns, u, clock⟩) (clock + 1))
  have HP3 := Lib.hid (((HP0.out.below HB1.out).below hB2).put hq (MapIs.push hmb2 hE1 hpn u) (hbu.fr hq fun k hk e => hDC k hk (e ▸ HP0.out.cm)) (fun k hk => .inl hk) hDC)
  have HF3 := Lib.hid ((Fr.of_below (F := C) (HB1.out.trans (hB2.mono hWs))).trans hq (fun k hk => .inl (hk ▸ HP0.out.cm)))
  have hsz : (W2.putObj mb (.map (es.push ⟨.int .i64 ns, u, clock⟩) (clock + 1))).heap.size = W2.heap.size := by simp
  obtain ⟨fk3, hfk3⟩ : ∃ fk3, fk ++ [(ns, u)] = fk3 := ⟨_, rfl⟩
  obtain ⟨r3, hr3⟩ : ∃ r3 : Rcv, { r with kept := r.kept ++ [(ns, p)] } = r3 := ⟨_, rfl⟩
  rw [hfk3, hr3] at HP3
  generalize W2.putObj mb (.map (es.push ⟨.int .i64 ns, u, clock⟩) (clock + 1)) = W3 at HP3 HF3 hsz ⊢
  have hrk : r3.kept.length ≤ 201 := by rw [← hr3]; simp; omega
  have hC3 : Hid (∀ k, C k ∨ D k → k < W.heap.size) := fun k hk => by have := hC k hk; omega
  have HC3 : Hid (∀ k, C k → k < W3.heap.size) := fun k hk => by have := hC k (.inl hk); omega
  have HD3 : Hid (∀ k, (D k ∨ (W.heap.size ≤ k ∧ k < W2.heap.size)) → k < W3.heap.size) := fun k hk => by
    rcases hk with hk | hk
    · have := hC k (.inr hk); omega
    · omega
  have HDC := Lib.hid hDC
  have HSZ := Lib.hid (And.intro hWs (And.intro hW2s hsz))
  clear hC hDC hWs hW2s hsz hq hbu hfk3 hr1 hmb1 c2' hup hE1 hpn hO2 hg2 hB2 hmb2 HCHK P1 P2
  obtain ⟨D3, hD3⟩ : ∃ D3 : Nat → Prop, (fun k => D k ∨ (W.heap.size ≤ k ∧ k < W2.heap.size)) = D3 := ⟨_, rfl⟩
  have HD3' : Hid (∀ k, D3 k → k < W3.heap.size) := by rw [← hD3]; exact HD3
  have HDC' : Hid (∀ k, D3 k → ¬ C k) := by rw [← hD3]; exact HDC
  rw [hD3] at HP3
  clear HD3 HDC
  have HIST : Hid (([] : List (List Int)).length + r3.kept.length ≤ 201) := by simpa [Hid] using hrk
  obtain ⟨T, hT⟩ : ∃ T, (r3.drain r3.kept.length).1 = T := ⟨_, rfl⟩
  obtain ⟨R, hR⟩ : ∃ R, (r3.drain r3.kept.length).2 = R := ⟨_, rfl⟩
  clear hrk
  go_wp2_with fail
  go_step3
  go_wp2_with fail
  go_loopw [10] (fun tv wr => ∃ (fk' : List (Int × Value)) (r' : Rcv) (told : List (List Int)) (vs : List Value), Hid (RcP C D3 wr a mb ab fk' r') ∧ Hid (Fr C W3 wr) ∧
      Hid (told ++ (r'.drain r'.kept.length).1 = T ∧ (r'.drain r'.kept.length).2 = R ∧ told.length + r'.kept.length ≤ 201) ∧ Hid (vs.length = told.length) ∧ wr.ownsRow W3.heap.size 44 1 tv vs.length vs ∧
      Hid (∀ (i : Nat) (x : Value) (q : List Int), vs[i]? = some x → told[i]? = some q → Byt D3 wr x q)) (fun _ wr => rest8 wr a)
  case atStart => exact ⟨fk3, r3, [], [], HP3, Fr.refl _ _, ⟨hT, hR, HIST⟩, rfl, ⟨rfl, .inl ⟨rfl, rfl⟩⟩, fun i x q hx => by simp at hx⟩
  case round =>
    obtain ⟨fk', r', told, vs, HP', HF', HI', HL', hO, HB'⟩ := hrel
    obtain ⟨es1, clock1, hmb1, hE1⟩ := HP'.out.hM
    obtain ⟨es2, clock2, hab1, hE2⟩ := HP'.out.hA
    obtain ⟨c0, c1, c2, c3⟩ := rc_cells HP'.out.hb
    cases hp : pos r'.kept r'.waits with
    | none =>
      have hpn := HP'.out.pos_none hp
      have hlk : ∀ W : World, W.heap[mb]? = some (.map es1 clock1) → (Instr.lookup 87 (.map (some mb)) (.int .i64 r'.waits) true).run Tryz.prog W = .ok (.tuple #[.slice none 0 0, .bool false]) W := fun W hW => by
        rw [run_lookup_map (P := Tryz.prog) (w := W) Tryz.underlying87 Tryz.underlying3 (zero_bytes W) hW hE1 r'.waits true, hpn]; rfl
      obtain ⟨to, tc, rfl⟩ := rc_form hO
      have hl0 := hlk wr hmb1
      go_wp2_with fail
      go_quiet (fail)
      obtain ⟨i1', i2', i3'⟩ := HI'.out
      have HI5 : Hid (told.length + r'.kept.length ≤ 201) := i3'
      rw [drain_none hp] at i1' i2'
      have hT1 : told = T := by simpa using i1'
      have hR1 : r' = R := i2'
      subst hT1 hR1
      have HB4 := Lib.hid (bl_drewN (bl_refl wr) nq)
      have HP4 := Lib.hid (HP'.out.below HB4.out)
      have HO4 := Lib.hid (own_bl8 hO HB4.out)
      have HW4 : Hid (∀ (i : Nat) (z : Value) (b : List Int), vs[i]? = some z → told[i]? = some b → Byt D3 (wr.drewN nq) z b) := fun i z b hz hb => (HB'.out i z b hz hb).below HB4.out
      have HF4 := Lib.hid (HF'.out.then_below HB4.out)
      generalize wr.drewN nq = W4 at HB4 HP4 HO4 HW4 HF4 ⊢
      clear c0 c1 c2 c3 hl0 hlk hmb1 hab1 hO HB' HP' HF' HI' HB4 hE2
      have HMS := Lib.hid (rcmissing_any C D3 a r' W4 ⟨mb, ab, fk', HP4.out⟩ (by omega))
      go_wp2_with fail
      refine HMS.out.mono ?_
      rintro e w9 ⟨u9, rfl, hu9, hb9⟩
      have HMl : Hid (r'.missing.length ≤ 128) := rmissing_le' r'
      obtain ⟨ms, hms⟩ : ∃ ms, r'.missing = ms := ⟨_, rfl⟩
      have hru := Reads.of_owns (f := Value.int .i64) (xs := r'.missing) hu9 (by have := HMl.out; unfold maxLen; omega)
      obtain ⟨uo, uc, rfl⟩ := rc_form hu9
      rw [hms] at HMl hu9 hru HMS ⊢
      have HP9 := Lib.hid (HP4.out.below hb9)
      have HO9 := Lib.hid (own_bl8 HO4.out hb9)
      have HW9 : Hid (∀ (i : Nat) (z : Value) (b : List Int), vs[i]? = some z → told[i]? = some b → Byt D3 w9 z b) := fun i z b hz hb => (HW4.out i z b hz hb).below hb9
      have HF9 := Lib.hid (HF4.out.then_below hb9)
      have hWm : W3.heap.size ≤ W4.heap.size := HF4.out.size
      have HRU : Hid (∀ (k : Nat) (x : Int), ms[k]? = some x → ∃ g off, uo = some ⟨g, off, none⟩ ∧ W3.heap.size ≤ g ∧ g < w9.heap.size ∧ w9.cell? ⟨g, off + k, none⟩ = some (.int .i64 x)) := fun k x hx => by
        obtain ⟨_, uo', uc', hv, _, hc⟩ := hru
        cases hv
        obtain ⟨g, off, hg, hcell⟩ := hc k x hx
        subst hg
        have := hu9.lt g rfl
        exact ⟨g, off, rfl, by omega, this.2, hcell⟩
      have HS9 := Lib.hid (And.intro hb9.size hWm)
      clear hu9 hru hb9 HP4 HO4 HW4 HF4 hWm HMS
      go_wp2_with fail
      go_loopw [13, 76] (fun av iv wr => ∃ (k : Nat) (A : List (Int × Int)) (al : List Int), iv = .int .i64 k ∧ Hid (k ≤ ms.length) ∧ Hid (askAll r'.asked (ms.take k) = (A, al)) ∧ Hid (al.length ≤ k) ∧ Hid (RcP C D3 wr a mb ab fk' { r' with asked := A }) ∧ Hid (Fr C w9 wr) ∧ wr.ownsRow w9.heap.size 3 1 av al.length (al.map (Value.int .i64)))
        (fun _ iv _ => ms.length - (intOf iv).toNat)
      case atStart => exact ⟨0, r'.asked, [], rfl, Nat.zero_le _, rfl, Nat.le_refl _, HP9.out, Fr.refl _ _, ⟨rfl, .inl ⟨rfl, rfl⟩⟩⟩
      case round =>
        obtain ⟨k, A, al, rfl, HK, HA, HAL, HPa, HFa, hOa⟩ := hrel
        obtain ⟨lo, lc, rfl⟩ := rc_form hOa
        obtain ⟨es2, clock2, hab, hE2⟩ := HPa.out.hA
        obtain ⟨c0, c1, c2, c3⟩ := rc_cells HPa.out.hb
        by_cases hkl : k < ms.length
        · obtain ⟨x, hx⟩ := get_some (xs := ms) (k := k) hkl
          obtain ⟨g, off, rfl, hg1, hg2, hcell⟩ := HRU.out k x hx
          have hcr := HFa.out.cell hcell (fun hc => by have := HC3.out g hc; omega)
          have hlk := run_count (P := Tryz.prog) (w := wr) (t := 88) Tryz.underlying88 Tryz.underlying3 (zero_int wr) hab hE2 x
          have q1 : (k : Int) < (ms.length : Int) := by omega
          have q2 : (0 : Int) ≤ (k : Int) := by omega
          have HT := Lib.hid (take_snoc' hx)
          have q3 : (k : Int) < 128 := by have := HMl.out; omega
          by_cases hg0 : getC A x = 0
          · have g0 : (getC A x == 0) = true := by simpa using hg0
            have A1 : al.length + 1 ≤ maxLen := by have := HAL.out; have := HMl.out; unfold maxLen; omega
            have A2 : (al.length + 1) * 8 ≤ 140737488355328 := by have := HAL.out; have := HMl.out; omega
            have HO := Lib.hid (hOa.alloc (.cells #[.int .i64 x] 3))
            have HBE : Hid (w9.heap.size ≤ (wr.alloc (.cells #[.int .i64 x] 3)).heap.size) := Nat.le_trans HFa.out.size (bl_alloc (bl_refl wr) _).size
            have HAB0 := Lib.hid hab
            go_wp2_with (at_builtin; refine wpList_append_r _ rfl (.tmp 87) (.tmp 89) 33 rfl w9.heap.size 3 i2 (.int .i64 0) 8 Tryz.underlying33 ji jz0 jz1 jz2 rfl _ _ _ rfl HO.out (Value.int .i64) _ [x] rfl (reads_one (Value.int .i64) _ _ _) (by simp [Value.oneCell']) A1 A2 HBE.out ?_; intro l2 WW hOW hgW _; have hgF : Fr (fun k => w9.heap.size ≤ k) wr WW := ((Fr.of_below (bl_alloc (bl_refl wr) _)).grown hgW (fun k hk => .inl (HO.out.lt k hk).1)); have hcd : ∀ k, C k ∨ D3 k → ¬ w9.heap.size ≤ k := (fun k hk hge => by have := HF9.out.size; rcases hk with hk | hk; (have := HC3.out k hk; omega); (have := HD3'.out k hk; omega)); have HPW := Lib.hid (HPa.out.fr hgF hcd); have HFW := Lib.hid (HFa.out.trans hgF (fun k hk => .inr hk)); have HAB := Lib.hid (hgF.get HAB0.out (hcd _ (.inl HPa.out.cb))); have hlw := run_count (P := Tryz.prog) (w := WW) (t := 88) Tryz.underlying88 Tryz.underlying3 (zero_int WW) HAB.out hE2 x; have hupw := run_update8 (P := Tryz.prog) (w := WW) (t := 88) Tryz.underlying88 Tryz.underlying3 HAB.out hE2 x (.int .i64 1); have HOW := Lib.hid hOW; clear hOW hgF hcd hab hlk c0 c1 c2 c3; obtain ⟨c0, c1, c2, c3⟩ := rc_cells HPW.out.hb)
            have hqf := fr_put WW ab (chgO es2 clock2 (cnts A) x (.int .i64 1))
            have hmm := MapIs.chg HAB.out hE2 x (.int .i64 1)
            rw [← cnts_chg] at hmm
            generalize WW.putObj ab (chgO es2 clock2 (cnts A) x (.int .i64 1)) = W10 at hqf hmm ⊢
            refine ⟨⟨k + 1, chgK A x 1, al ++ [x], ?_, ?_, ?_, ?_, HPW.out.ask hqf hmm, HFW.out.trans hqf (fun i hi => .inl (hi ▸ HPa.out.cb)), ?_⟩, ?_⟩
            · rfl
            · unfold Hid; omega
            · unfold Hid; rw [HT.out, askAll_snoc, HA.out]; simp only [askOne]; rw [if_pos hg0, hg0, wrap_one]
            · unfold Hid; have := HAL.out; rw [List.length_append, List.length_singleton]; omega
            · exact own_fr8 (by simpa using HOW.out) hqf (fun i hi e => by have := (HOW.out.lt i hi).1; have := HC3.out ab HPa.out.cb; have := HF9.out.size; omega)
            · simp only [intOf]; have := HK.out; omega
          · have g0 : (getC A x == 0) = false := by simpa using hg0
            have HPW := HPa
            have HFW := HFa
            have HAB := Lib.hid hab
            have HOW := Lib.hid hOa
            have hup := run_update8 (P := Tryz.prog) (w := wr) (t := 88) Tryz.underlying88 Tryz.underlying3 hab hE2 x (.int .i64 (wrap64 (getC A x + 1)))
            go_wp2_with fail
            have hqf := fr_put wr ab (chgO es2 clock2 (cnts A) x (.int .i64 (wrap64 (getC A x + 1))))
            have hmm := MapIs.chg HAB.out hE2 x (.int .i64 (wrap64 (getC A x + 1)))
            rw [← cnts_chg] at hmm
            generalize wr.putObj ab (chgO es2 clock2 (cnts A) x (.int .i64 (wrap64 (getC A x + 1)))) = W10 at hqf hmm ⊢
            refine ⟨⟨k + 1, chgK A x (wrap64 (getC A x + 1)), al, ?_, ?_, ?_, ?_, HPW.out.ask hqf hmm, HFW.out.trans hqf (fun i hi => .inl (hi ▸ HPa.out.cb)), ?_⟩, ?_⟩
            · rfl
            · unfold Hid; omega
            · unfold Hid; rw [HT.out, askAll_snoc, HA.out]; simp only [askOne]; rw [if_neg hg0]
            · unfold Hid; have := HAL.out; omega
            · exact own_fr8 HOW.out hqf (fun i hi e => by have := (HOW.out.lt i hi).1; have := HC3.out ab HPa.out.cb; have := HF9.out.size; omega)
            · simp only [intOf]; have := HK.out; omega
        · have hk : k = ms.length := by have := HK.out; omega
          subst hk
          have q1 : ¬ ((ms.length : Nat) : Int) < (ms.length : Int) := by omega
          have HOa := Lib.hid hOa
          clear c0 c1 c2 c3 hE2 hab hOa
          go_wp2_with fail
          go_ret3
          have hgone : r.gone ns p = (told, r') := by
            unfold Rcv.gone Rcv.with_
            rw [hr3]
            exact Prod.ext hT hR
          have hA2 := HA.out
          rw [List.take_length] at hA2
          have htook : r.took ns p = { r' with asked := A } := by
            unfold Rcv.took
            rw [hgone]
            show { r' with asked := (askAll r'.asked r'.missing).1 } = _
            rw [hms, hA2]
          have hasks : r.asks ns p = al := by
            unfold Rcv.asks
            rw [hgone]
            show (askAll r'.asked r'.missing).2 = _
            rw [hms, hA2]
          rw [htook, hasks, hgone]
          obtain ⟨z1, z2, z3⟩ := HSZ.out
          have z4 := HF9.out.size
          have z5 := HFa.out.size
          have hDD : ∀ k, D3 k → D k ∨ (w.heap.size ≤ k ∧ k < wr.heap.size) := by
            intro k hk
            rw [← hD3] at hk
            rcases hk with hk | hk
            · exact .inl hk
            · exact .inr ⟨by omega, by omega⟩
          have hHC : ∀ k, (D k ∨ (w.heap.size ≤ k ∧ k < wr.heap.size)) → ¬ C k := by
            intro k hk hc
            rcases hk with hk | hk
            · exact HP0.out.dis k hk hc
            · have := hCw.out k (.inl hc); omega
          have hOt : wr.ownsRow W3.heap.size 44 1 (.slice to vs.length tc) vs.length (vs.map id) := by
            rw [List.map_id]
            exact own_fr8 HO9.out HFa.out fun k hk hc => by have := (HO9.out.lt k hk).1; have := HC3.out k hc; omega
          have h5 := HI5.out
          refine ⟨_, _, rfl, ⟨mb, ab, fk', HPa.out.mono (fun _ h => h) hDD hHC⟩, (HF3.out.trans HF9.out (fun k hk => .inl hk)).trans HFa.out (fun k hk => .inl hk), ?_, ownsRow_mono HOa.out (by omega)⟩
          refine ⟨vs, HL'.out, (Rd.of_owns hOt (by have := HL'.out; unfold maxLen; omega)).mono (fun k hk => .inr ⟨by omega, hk.2⟩), fun i z b hz hb => ((HW9.out i z b hz hb).fr HFa.out HDC'.out).mono hDD⟩
    | some y =>
      obtain ⟨j, q⟩ := y
      obtain ⟨x, hpx, hbx⟩ := HP'.out.pos_some hp
      obtain ⟨xo, xc, hxe⟩ : ∃ xo xc, x = .slice xo q.length xc := by
        obtain ⟨_, xo, xc, h, _⟩ := hbx.1.1
        exact ⟨xo, xc, h⟩
      subst hxe
      have hlk : ∀ W : World, W.heap[mb]? = some (.map es1 clock1) → (Instr.lookup 87 (.map (some mb)) (.int .i64 r'.waits) true).run Tryz.prog W = .ok (.tuple #[.slice xo q.length xc, .bool true]) W := fun W hW => by
        rw [run_lookup_map (P := Tryz.prog) (w := W) Tryz.underlying87 Tryz.underlying3 (zero_bytes W) hW hE1 r'.waits true, hpx]; rfl
      obtain ⟨to, tc, rfl⟩ := rc_form hO
      have hl0 := hlk wr hmb1
      go_wp2_with fail
      go_quiet (fail)
      have c2' : (wr.drewN nq).cell? ⟨a, 2, none⟩ = some (.map (some mb)) := c2
      have hl := hlk (wr.drewN nq) hmb1
      have HB4 := Lib.hid (bl_drewN (bl_refl wr) nq)
      have HP4 := Lib.hid (HP'.out.below HB4.out)
      have hO4 := own_bl8 hO HB4.out
      have hmb4 := bl_get HB4.out hmb1
      have hab4 := bl_get HB4.out hab1
      generalize wr.drewN nq = W4 at HB4 HP4 hO4 hmb4 hab4 ⊢
      clear c0 c1 c2 c3 c2' hl hl0 hlk hmb1 hab1 hO
      have HO := Lib.hid (hO4.alloc (.cells #[.slice xo q.length xc] 44))
      have A1 : vs.length + 1 ≤ maxLen := by have := HI'.out.2.2; have := HL'.out; unfold maxLen; omega
      have A2 : (vs.length + 1) * 24 ≤ 140737488355328 := by have := HI'.out.2.2; have := HL'.out; omega
      have HBE : Hid (W3.heap.size ≤ (W4.alloc (.cells #[.slice xo q.length xc] 44)).heap.size) := Nat.le_trans (Nat.le_trans HF'.out.size HB4.out.size) (bl_alloc (bl_refl W4) _).size
      clear hO4
      go_wp2_with (at_builtin; refine wpList_append_r _ rfl (.tmp 45) (.tmp 47) 29 rfl W3.heap.size 44 i1 (.slice none 0 0) 24 Tryz.underlying29 gi gz0 gz1 gz2 rfl _ _ _ rfl HO.out id _ [.slice xo q.length xc] rfl (reads_one id _ _ _) (by simp [Value.oneCell']) A1 A2 HBE.out ?_; intro l2 W5 hO5 hg5 _)
      have hgF : Fr (fun k => W3.heap.size ≤ k) W4 W5 := (Fr.of_below (bl_alloc (bl_refl W4) _)).grown hg5 (fun k hk => .inl (HO.out.lt k hk).1)
      have hcd : ∀ k, C k ∨ D3 k → ¬ W3.heap.size ≤ k := fun k hk => by
        rcases hk with hk | hk
        · have := HC3.out k hk; omega
        · have := HD3'.out k hk; omega
      have HP5 := Lib.hid (HP4.out.fr hgF hcd)
      have hmb5 := hgF.get hmb4 (hcd _ (.inl HP4.out.cm))
      have hab5 := hgF.get hab4 (hcd _ (.inl HP4.out.cb))
      have HB5 : Hid (∀ (i : Nat) (z : Value) (b : List Int), (vs ++ [Value.slice xo q.length xc])[i]? = some z → (told ++ [q])[i]? = some b → Byt D3 W5 z b) := fun i z b hz hb => by
        have hl := HL'.out
        by_cases hi : i < vs.length
        · rw [List.getElem?_append_left hi] at hz
          rw [List.getElem?_append_left (by omega)] at hb
          exact ((HB'.out i z b hz hb).below HB4.out).fr hgF fun k hk => hcd k (.inr hk)
        · have hi2 := (List.getElem?_eq_some_iff.1 hz).1
          simp at hi2
          obtain rfl : i = vs.length := by omega
          rw [hl] at hb
          simp at hz hb
          subst hz hb
          exact (hbx.below HB4.out).fr hgF fun k hk => hcd k (.inr hk)
      have HF5 := Lib.hid ((HF'.out.then_below HB4.out).trans hgF (fun k hk => .inr hk))
      have HO5 := Lib.hid hO5
      have HS4 := Lib.hid (And.intro HB4.out.size hgF.size)
      clear hgF hmb4 hab4 hg5 hO5 A1 A2 HBE HO HP4 HB4
      obtain ⟨c0, c1, c2, c3⟩ := rc_cells HP5.out.hb
      go_region_held3 (fun w' => w'.cell? ⟨a, 1, none⟩ = some (.int .i64 r'.waits) ∧ w'.cell? ⟨a, 2, none⟩ = some (.map (some mb)))
        (first | exact ⟨c1, c2⟩ | exact ⟨cell_put c1 hnm, cell_put c2 hnm⟩)
        (first | (refine step_of_wp (by rfl) (wp_delete (.tmp 52) (.tmp 56) (r'.waits : Int) rfl Tryz.underlying87 Tryz.underlying3 (by first | exact hmb5) hE1 rfl rfl ?_)))
      have hq6 : Fr C W5 (W5.drew.putObj mb (dropO es1 clock1 fk' r'.waits)) := (Fr.of_below (bl_drew (bl_refl W5))).trans (fr_put _ _ _) (fun k hk => .inl (hk ▸ HP5.out.cm))
      have hm6 : MapIs (W5.drew.putObj mb (dropO es1 clock1 fk' r'.waits)) mb (dropK fk' r'.waits) := MapIs.drop (w := W5.drew) hmb5 hE1 _
      have hab6 : (W5.drew.putObj mb (dropO es1 clock1 fk' r'.waits)).heap[ab]? = some (.map es2 clock2) := (fr_put W5.drew mb _).get hab5 (fun e => HP5.out.ne e.symm)
      have hb6 := (fr_put W5.drew mb (dropO es1 clock1 fk' r'.waits)).get HP5.out.hb hnm
      generalize W5.drew.putObj mb (dropO es1 clock1 fk' r'.waits) = W6 at hq6 hm6 hab6 hb6 ⊢
      clear c0 c1 c2 c3
      have HQ6 := Lib.hid hq6
      have HM6 := Lib.hid hm6
      have hna : a ≠ ab := ne_map hb6 hab6
      obtain ⟨c0, c1, c2, c3⟩ := rc_cells hb6
      have HB6 := Lib.hid hb6
      clear hq6 hm6 hb6 hmb5 hab5
      go_wp2_with fail
      go_region_held3 (fun w' => w'.cell? ⟨a, 1, none⟩ = some (.int .i64 r'.waits) ∧ w'.cell? ⟨a, 3, none⟩ = some (.map (some ab)))
        (first | exact ⟨c1, c3⟩ | exact ⟨cell_put c1 hna, cell_put c3 hna⟩)
        (first | (refine step_of_wp (by rfl) (wp_delete (.tmp 60) (.tmp 64) (r'.waits : Int) rfl Tryz.underlying88 Tryz.underlying3 (by first | exact hab6) hE2 rfl rfl ?_)))
      have hq7 : Fr C W6 (W6.drew.putObj ab (dropO es2 clock2 (cnts r'.asked) r'.waits)) := (Fr.of_below (bl_drew (bl_refl W6))).trans (fr_put _ _ _) (fun k hk => .inl (hk ▸ HP5.out.cb))
      have hm7 : MapIs (W6.drew.putObj ab (dropO es2 clock2 (cnts r'.asked) r'.waits)) ab (dropK (cnts r'.asked) r'.waits) := MapIs.drop (w := W6.drew) hab6 hE2 _
      have hM7 : MapIs (W6.drew.putObj ab (dropO es2 clock2 (cnts r'.asked) r'.waits)) mb (dropK fk' r'.waits) := (HM6.out.below (bl_drew (bl_refl W6))).fr (fr_put W6.drew ab _) HP5.out.ne
      have hb7 := (fr_put W6.drew ab (dropO es2 clock2 (cnts r'.asked) r'.waits)).get HB6.out hna
      generalize W6.drew.putObj ab (dropO es2 clock2 (cnts r'.asked) r'.waits) = W7 at hq7 hm7 hM7 hb7 ⊢
      clear c0 c1 c2 c3 hab6
      obtain ⟨c0, c1, c2, c3⟩ := rc_cells hb7
      have z1 := rc_frozen (j := 1) hb7
      have HQ7 := Lib.hid hq7
      have HM7 := Lib.hid hm7
      have HMM7 := Lib.hid hM7
      have HB7 := Lib.hid hb7
      clear hq7 hm7 hM7 hb7
      have HN := next_any (r'.waits : Int) W7
      go_wp2_with fail
      refine HN.mono ?_
      rintro e w' ⟨rfl, rfl⟩
      go_wp2_with fail
      have hq8 := fr_cell W7 a 1 (.int .i64 (((r'.waits : Int) + 1) % 128))
      have hb8 := rc_set W7 a 1 _ _ (.int .i64 (((r'.waits : Int) + 1) % 128)) HB7.out
      generalize W7.setCell ⟨a, 1, none⟩ (.int .i64 (((r'.waits : Int) + 1) % 128)) = W8 at hq8 hb8 ⊢
      have hq58 : Fr C W5 W8 := ((HQ6.out.trans HQ7.out (fun k hk => .inl hk)).trans hq8 (fun k hk => .inl (hk ▸ HP5.out.ca)))
      have hb8' : W8.heap[a]? = some (.cells #[.int .i64 r'.size, .int .i64 (((r'.waits + 1) % 128 : Nat) : Int), .map (some mb), .map (some ab)] 90 (0, 0)) := by
        rw [hb8]
        simp
      have hP8 := HP5.out.next hq58 hb8' (HMM7.out.fr hq8 (fun e => hnm e.symm)) (HM7.out.fr hq8 (fun e => hna e.symm))
      have hlen := dropK_len hp
      have hd := drain_some hp
      obtain ⟨i1', i2', i3'⟩ := HI'.out
      have hl := HL'.out
      refine ⟨⟨dropK fk' r'.waits, r'.next, told ++ [q], vs ++ [.slice xo q.length xc], hP8, HF5.out.trans hq58 (fun k hk => .inl hk), ⟨?_, ?_, ?_⟩, ?_, ?_, ?_⟩, ?_⟩
      · rw [← i1', hd, List.append_assoc]; rfl
      · rw [← i2', hd]
      · rw [List.length_append, List.length_singleton]
        show told.length + 1 + (dropK r'.kept r'.waits).length ≤ 201
        omega
      · show (vs ++ [_]).length = (told ++ [q]).length
        simp [hl]
      · have h0 := own_fr8 HO5.out hq58 (fun k hk hc => by have h1 := (HO5.out.lt k hk).1; have h2 := HC3.out k hc; omega)
        simpa using h0
      · exact fun i z b hz hb => (HB5.out i z b hz hb).fr hq58 HDC'.out
      · rw [rest8_at hP8, rest8_at HP'.out]
        show (dropK r'.kept r'.waits).length < r'.kept.length
        omega

end Go.Proofs.YthmdibagcbbgoaaGreat

namespace Go.Proofs.YthmdibagcbbgoaaGreat
open Go.RowKit

set_option maxRecDepth 100000 in
set_option maxHeartbeats 1000000 in
theorem rctake_bad (C D : Nat → Prop) (a : Nat) (r : Rcv) (ns : Int) (ao : Option Addr) (n cap : Nat) (w : World) (hs : RcvAt C D w a r) (hE : r.chk ns n ≠ 0) :
    Calls Tryz.prog 96 #[.pointer (some ⟨a, 0, none⟩), .int .i64 ns, .slice ao n cap] w fun e w' => e = .returned (.tuple #[.slice none 0 0, .slice none 0 0, .int .i64 (r.chk ns n)]) ∧ ∃ k, w' = w.drewN k := by
  have HCHK := Lib.hid (rccheck_any C D a r ns ao n cap w hs)
  obtain ⟨E, hEE⟩ : ∃ E, r.chk ns n = E := ⟨_, rfl⟩
  rw [hEE] at HCHK hE ⊢
  have g0 : (E == 0) = false := by simpa using hE
  clear hEE hs
  go_enter Tryz.func96, Tryz.ntmps96
  go_wp2_with fail
  go_step3
  go_wp2_with fail
  refine HCHK.out.mono ?_
  rintro e w' ⟨rfl, kk, rfl⟩
  go_wp2_with fail
  try rw [Exit.noGoto_ret]
  go_ret3
  exact ⟨rfl, kk, rfl⟩

set_option maxRecDepth 100000 in
set_option maxHeartbeats 1000000 in
theorem rctake_nil (ns : Int) (ao : Option Addr) (n cap : Nat) (w : World) :
    Calls Tryz.prog 96 #[.pointer none, .int .i64 ns, .slice ao n cap] w fun e w' => e = .returned (.tuple #[.slice none 0 0, .slice none 0 0, .int .i64 7]) ∧ w = w' := by
  have HCHK := Lib.hid (rccheck_nil ns (.slice ao n cap) w)
  go_enter Tryz.func96, Tryz.ntmps96
  go_wp2_with fail
  go_step3
  go_wp2_with fail
  refine HCHK.out.mono ?_
  rintro e w' ⟨rfl, rfl⟩
  go_wp2_with fail
  try rw [Exit.noGoto_ret]
  go_ret3
  exact ⟨rfl, rfl⟩

theorem rcforget_nil (w : World) : Calls Tryz.prog 95 #[.pointer none] w fun e w' => (∃ v, e = .returned v) ∧ w = w' := by
  go_enter Tryz.func95, Tryz.ntmps95
  go_wp2
  go_end0
  exact ⟨⟨_, rfl⟩, rfl⟩
theorem rcreset_nil (w : World) : Calls Tryz.prog 38 #[.pointer none] w fun e w' => (∃ v, e = .returned v) ∧ w = w' := by
  go_enter Tryz.func38, Tryz.ntmps38
  go_wp2
  go_end0
  exact ⟨⟨_, rfl⟩, rfl⟩
theorem rcwaits_nil (w : World) : Calls Tryz.prog 52 #[.pointer none] w fun e w' => e = .returned (.int .i64 0) ∧ w = w' := by
  go_enter Tryz.func52, Tryz.ntmps52
  go_wp2
  go_ret
  exact ⟨rfl, rfl⟩
set_option maxRecDepth 100000 in
theorem rckept_nil (w : World) : Calls Tryz.prog 109 #[.pointer none] w fun e w' => e = .returned (.slice none 0 0) ∧ w = w' := by
  go_enter Tryz.func109, Tryz.ntmps109
  go_wp2
  go_ret
  exact ⟨rfl, rfl⟩
set_option maxRecDepth 100000 in
theorem rcmissing_nil (w : World) : Calls Tryz.prog 105 #[.pointer none] w fun e w' => e = .returned (.slice none 0 0) ∧ w = w' := by
  have H := Lib.hid (rckept_nil w)
  go_enter Tryz.func105, Tryz.ntmps105
  go_wp2_with fail
  refine H.out.mono ?_
  rintro e w' ⟨rfl, rfl⟩
  go_wp2
  go_ret
  exact ⟨rfl, rfl⟩

set_option maxRecDepth 100000 in
set_option maxHeartbeats 1000000 in
theorem rcforget_any (C D : Nat → Prop) (a : Nat) (r : Rcv) (w : World) (hs : RcvAt C D w a r) (hC : ∀ k, C k → k < w.heap.size) (hD : ∀ k, D k → k < w.heap.size) :
    Calls Tryz.prog 95 #[.pointer (some ⟨a, 0, none⟩)] w fun e w' => (∃ v, e = .returned v) ∧ RcvAt (fun k => C k ∨ (w.heap.size ≤ k ∧ k < w'.heap.size)) D w' a { r with asked := [] } ∧ Fr C w w' := by
  obtain ⟨mb, ab, fk, HP⟩ := hs
  have hmk : ∀ (t : TypeId) (W : World), (Instr.makeMap t none).run Tryz.prog W = .ok (.map (some W.heap.size)) (W.alloc (.map #[] 0)) := fun t W => run_makeMap t W
  have hB := bl_alloc (bl_refl w) (.map #[] 0)
  have m1 := MapIs.made w
  have hP1 := HP.below hB
  have hb2 := hP1.hb
  have hsz : (w.alloc (.map #[] 0)).heap.size = w.heap.size + 1 := by simp
  obtain ⟨c0, c1, c2, c3⟩ := rc_cells hb2
  have z3 := rc_frozen (j := 3) hb2
  obtain ⟨W0, hW0⟩ : ∃ W0, w.alloc (.map #[] 0) = W0 := ⟨_, rfl⟩
  rw [hW0] at hB m1 hP1 hb2 hsz c0 c1 c2 c3 z3
  have HF := Lib.hid (fr_cell W0 a 3 (.map (some w.heap.size)))
  have HB2 := Lib.hid (rc_set _ a 3 _ _ (.map (some w.heap.size)) hb2)
  have HM1 := Lib.hid m1
  have HP1 := Lib.hid hP1
  have HB := Lib.hid hB
  have HSZ := Lib.hid hsz
  have HC := Lib.hid hC
  have HD := Lib.hid hD
  clear m1 hB hb2 hsz HP hP1 hC hD
  go_enter Tryz.func95, Tryz.ntmps95
  go_wp2
  go_end0
  have hs := HF.out.size
  have hz := HSZ.out
  have ha := HC.out a HP1.out.ca
  have hm := HC.out mb HP1.out.cm
  have hna : w.heap.size ≠ a := by omega
  obtain ⟨es, clock, hmb, hE⟩ := HP1.out.hM
  have hb8 := HB2.out
  refine ⟨⟨_, rfl⟩, ⟨mb, w.heap.size, fk, .inl HP1.out.ca, .inl HP1.out.cm, .inr ⟨Nat.le_refl _, by omega⟩, by omega, ?_, HP1.out.hM.fr HF.out (fun e => ne_map HP1.out.hb hmb e.symm), HM1.out.fr HF.out hna, HP1.out.keys, fun i x p hx hp => (HP1.out.rows i x p hx hp).fr HF.out (fun k hk e => HP1.out.dis k hk (e ▸ HP1.out.ca)), fun k hk hc => ?_⟩, (Fr.of_below HB.out).trans HF.out (fun _ h => .inl (h ▸ HP1.out.ca))⟩
  · rw [hb8]; simp
  · rcases hc with hc | hc
    · exact HP1.out.dis k hk hc
    · have := HD.out k hk; omega

end Go.Proofs.YthmdibagcbbgoaaGreat

namespace Go.Proofs.YthmdibagcbbgoaaGreat
open Go.RowKit

theorem reads_mark' (w : World) (x : Int) (e : TypeId) (fr : Nat × Nat) : Reads (Value.int .u8) (w.alloc (.cells #[.int .u8 x] e fr)) (.slice (some ⟨w.heap.size, 0, none⟩) 1 1) [x] := by
  refine ⟨by simp [maxLen], _, _, rfl, ⟨by simp, fun h => by cases h⟩, fun i z hz => ⟨_, _, rfl, ?_⟩⟩
  rw [World.cell?_alloc_mark]
  match i, hz with
  | 0, hz => simp at hz; subst hz; simp
  | n + 1, hz => simp at hz
theorem wf_one {x : Int} (h : (Lit.int .u8 x).wf = true) : ∀ n ∈ [x], (Lit.int .u8 n).wf = true := by simpa using h
theorem str_one : strOfNums [97] = ⟨#[97]⟩ := by decide +kernel

end Go.Proofs.YthmdibagcbbgoaaGreat

namespace Go.Proofs.YthmdibagcbbgoaaGreat
open Go.RowKit

theorem conv_reads {w : World} {v : Value} {xs : List Int} (h : Reads (Value.int .u8) w v xs) : (convert 44 9 v).run Tryz.prog w = .ok (.string (strOfNums xs)) w := by
  obtain ⟨_, ao, cap, rfl, _, hc⟩ := h
  cases xs with
  | nil =>
    cases ao with
    | none => exact run_convert_bytes_nil w 44 5 Tryz.underlying44 Tryz.underlying5 _ _ _ Tryz.underlying9
    | some a =>
      rw [run_convert_bytes_string w 44 9 5 _ _ _ Tryz.underlying44 Tryz.underlying5 Tryz.underlying9]
      have := run_bytesToString (P := Tryz.prog) w a 0 cap [] (by simpa using run_loadCells_list (P := Tryz.prog) w a [] (fun j v hj => by simp at hj))
      exact this
  | cons x xs =>
    obtain ⟨b, o, rfl, _⟩ := hc 0 x rfl
    refine run_convert_bytes_arg w 44 5 Tryz.underlying44 Tryz.underlying5 b o _ cap (x :: xs) rfl (fun i hi => ?_) _ Tryz.underlying9
    obtain ⟨y, hy⟩ := get_some hi
    obtain ⟨b', o', ha, hcell⟩ := hc i y hy
    cases ha
    rw [hcell, List.getD_eq_getElem?_getD, hy]
    rfl

theorem str_inj {xs ys : List Int} (hx : ∀ n ∈ xs, (Lit.int .u8 n).wf = true) (hy : ∀ n ∈ ys, (Lit.int .u8 n).wf = true) (h : strOfNums xs = strOfNums ys) : xs = ys := by
  have h2 : xs.map (fun n => UInt8.ofNat n.toNat) = ys.map (fun n => UInt8.ofNat n.toNat) := by rw [← strOfNums_data, ← strOfNums_data, h]
  clear h
  induction xs generalizing ys with
  | nil => cases ys with
    | nil => rfl
    | cons y ys => simp at h2
  | cons x xs ih =>
    cases ys with
    | nil => simp at h2
    | cons y ys =>
      simp only [List.map_cons, List.cons.injEq] at h2
      have bx := bounds_u8 (hx x (by simp))
      have bby := bounds_u8 (hy y (by simp))
      have h3 : (UInt8.ofNat x.toNat).toNat = (UInt8.ofNat y.toNat).toNat := by rw [h2.1]
      rw [UInt8.toNat_ofNat', UInt8.toNat_ofNat'] at h3
      rw [ih (fun n hn => hx n (by simp [hn])) (fun n hn => hy n (by simp [hn])) h2.2]
      have : x = y := by omega
      rw [this]

end Go.Proofs.YthmdibagcbbgoaaGreat
