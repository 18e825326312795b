/- The contract of portageref05.Get at any bytes. Conditions: no more bytes than an argument can have. -/
import Derived.WalkKit
import Derived.Lib.Hide
import Derived.RegionTactic
import Derived.Test.YtcglpdbnggekdaaCtlGuess2
namespace Go.Proofs.Ytcglpdbnggekdaa
open Go.RowKit

theorem guess_any (v : Value) (p : List Int) (k : Nat) (hk : 1 ≤ k ∧ k ≤ 7) (hlen : 3 ≤ p.length) (hw : Hid (∀ n ∈ p, (Lit.int .u8 n).wf = true)) (w : World) (hr : Reads (Value.int .u8) w v p) (hle : p.length ≤ 140737488351232) :
    Calls Try.prog 27 #[v, .int .i64 k] w fun e w' => ∃ (ao : Option Addr) (cap : Nat), e = .returned ((Ctl.guess p k).val ao cap) ∧ Rd (fun i => w.heap.size ≤ i) (Value.int .u8) w' (.slice ao (Ctl.guess p k).data.length cap) (Ctl.guess p k).data ∧ Below w.heap.size w w' := by
  obtain ⟨x1, hx1⟩ := get_some (xs := p) (k := 1) (by omega)
  obtain ⟨x2, hx2⟩ := get_some (xs := p) (k := 2) (by omega)
  have b1 := wf_bd (hw.out x1 (List.mem_of_getElem? hx1))
  have b2 := wf_bd (hw.out x2 (List.mem_of_getElem? hx2))
  have d1 : p.getD 1 0 = x1 := by rw [List.getD_eq_getElem?_getD, hx1]; rfl
  have d2 : p.getD 2 0 = x2 := by rw [List.getD_eq_getElem?_getD, hx2]; rfl
  by_cases h4 : (k : Int) ≤ 4
  · by_cases h1 : (k : Int) = 1
    · have hg : Ctl.guess p k = ⟨1, x1 / 2, x2 / 2, x2 % 2 == 1, (getV p 3 2 : Nat), (getV p 5 2 : Nat), p.drop 7⟩ := by
        simp only [Ctl.guess, h1, d1, d2]; rfl
      rw [hg, h1]
      exact guess_1 v p x1 hx1 b1 x2 hx2 b2 hlen hw w hr hle
    · have hg : Ctl.guess p k = ⟨k, 0, x2 / 2, x2 % 2 == 1, (getV p 3 2 : Nat), (getV p 5 2 : Nat), p.drop 7⟩ := by
        simp only [Ctl.guess, if_neg h1, if_pos h4, d2]
      rw [hg]
      exact guess_2 v p k (by omega) (by rw [beq_eq_false_iff_ne]; exact h1) x2 hx2 b2 hlen hw w hr hle
  · have h1 : ¬ (k : Int) = 1 := by omega
    have hg : Ctl.guess p k = ⟨k, 0, 0, x1 / 16 % 2 == 1, (getV p 2 2 : Nat), (getV p 4 2 : Nat), p.drop 6⟩ := by
      simp only [Ctl.guess, if_neg h1, if_neg h4, d1]
    rw [hg]
    exact guess_3 v p k (by omega) (by rw [beq_eq_false_iff_ne]; exact h1) x1 hx1 b1 hlen hw w hr hle

theorem guess_wf {p : List Int} (hw : ∀ n ∈ p, (Lit.int .u8 n).wf = true) (k : Int) : ∀ n ∈ (Ctl.guess p k).data, (Lit.int .u8 n).wf = true := fun n hn => hw n (List.mem_of_mem_drop hn)

set_option maxRecDepth 100000 in
set_option maxHeartbeats 1000000 in
theorem rget_any5 (v : Value) (p : List Int) (hw : Hid (∀ n ∈ p, (Lit.int .u8 n).wf = true)) (w : World) (hr : Reads (Value.int .u8) w v p) (hle : p.length ≤ 140737488351232) :
    Calls Try.prog 15 #[v] w fun e w' => ∃ (ao : Option Addr) (cap : Nat), e = .returned (.tuple #[(getC p).val ao cap, .int .i64 (getErr p)]) ∧ Rd (fun i => w.heap.size ≤ i) (Value.int .u8) w' (.slice ao (getC p).data.length cap) (getC p).data ∧ Below w.heap.size w w' := by
  obtain ⟨ao, cap, hv⟩ : ∃ ao cap, v = .slice ao p.length cap := by
    obtain ⟨_, ao, cap, hv, _, _⟩ := hr
    exact ⟨ao, cap, hv⟩
  subst hv
  by_cases h3 : p.length < 3
  · have hn : ¬ GetOk p := fun h => by have := h.1; omega
    rw [getC_bad hn, getErr_bad hn]
    have hn := Lib.hid hn
    clear hr
    go_enter Try.func15, Try.ntmps15
    go_wp2
    go_returns
    exact ⟨none, 0, rfl, ⟨Reads.nil _ _, fun k hk => by simp [Value.ownBlock] at hk⟩, bl_alloc (bl_refl w) _⟩
  · have hr0 := hr
    go_enter Try.func15, Try.ntmps15
    go_wp2
    have hbx := heap_alloc_new w (.cells #[.int .i64 0, .int .i64 0, .int .i64 0, .bool false, .int .i64 0, .int .i64 0, .slice none 0 0] 24)
    have hB := bl_alloc (bl_refl w) (.cells #[.int .i64 0, .int .i64 0, .int .i64 0, .bool false, .int .i64 0, .int .i64 0, .slice none 0 0] 24)
    have hsz : w.heap.size < (w.alloc (.cells #[.int .i64 0, .int .i64 0, .int .i64 0, .bool false, .int .i64 0, .int .i64 0, .slice none 0 0] 24)).heap.size := by simp
    generalize w.alloc (.cells #[.int .i64 0, .int .i64 0, .int .i64 0, .bool false, .int .i64 0, .int .i64 0, .slice none 0 0] 24) = W0 at hbx hB hsz ⊢
    go_loopw [4] (fun kk wr => ∃ i : Nat, (1 ≤ i ∧ i ≤ 8) ∧ kk = .int .i64 i ∧ Hid (∀ j : Int, 1 ≤ j → j < i → ¬ Hit p j) ∧ wr.heap[w.heap.size]? = some (.cells #[.int .i64 0, .int .i64 0, .int .i64 0, .bool false, .int .i64 0, .int .i64 0, .slice none 0 0] 24) ∧ Below w.heap.size w wr ∧ w.heap.size < wr.heap.size)
      (fun kk _ => 8 - (intOf kk).toNat)
    case atStart => exact ⟨1, by omega, rfl, fun j h1 h2 => by omega, hbx, hB, hsz⟩
    case round =>
      clear hbx hB hsz
      obtain ⟨i, hi, rfl, hno, hbx, hB, hsz⟩ := hrel
      by_cases hlt : i ≤ 7
      · obtain ⟨c, hc⟩ : ∃ c : Ctl, Hid (Ctl.guess p i = c) := ⟨_, rfl⟩
        have hcw := Lib.hid (guess_wf hw.out i)
        have hcl : (Ctl.guess p i).data.length ≤ p.length := by simp [Ctl.guess, List.length_drop]
        rw [hc.out] at hcw hcl
        go_wp2_with fail
        refine (guess_any _ p i (by omega) (by omega) hw _ (hr0.below hB) hle).mono ?_
        rintro e W1 ⟨ao1, cap1, rfl, hd, hb⟩
        rw [hc.out] at hd ⊢
        obtain ⟨k, ns, nr, pp, me, peer, ds⟩ := c
        simp only [Ctl.val] at hd hcl ⊢
        have hd := hd.mono (G := fun i => w.heap.size < i) (fun j hj => by omega)
        have hbx := bl_get hb hbx
        have hB := bl_trans hB hb
        have hsz := Nat.lt_of_lt_of_le hsz hb.size
        clear hb
        go_wp2_with fail
        have hbc := heap_alloc_new W1 (.cells #[.int .i64 k, .int .i64 ns, .int .i64 nr, .bool pp, .int .i64 me, .int .i64 peer, .slice ao1 ds.length cap1] 24)
        have hb := bl_alloc (bl_refl W1) (.cells #[.int .i64 k, .int .i64 ns, .int .i64 nr, .bool pp, .int .i64 me, .int .i64 peer, .slice ao1 ds.length cap1] 24)
        have hd := hd.below hb
        have hbx := bl_get hb hbx
        have hB := bl_trans hB hb
        have hsz2 := Nat.lt_of_lt_of_le hsz hb.size
        clear hb
        generalize hg : W1.heap.size = g at hbc hsz ⊢
        generalize W1.alloc (.cells #[.int .i64 k, .int .i64 ns, .int .i64 nr, .bool pp, .int .i64 me, .int .i64 peer, .slice ao1 ds.length cap1] 24) = W2 at hbc hd hbx hB hsz2 ⊢
        refine (rput_any ⟨k, ns, nr, pp, me, peer, ds⟩ ao1 cap1 _ hd.1).mono ?_
        rintro e W3 ⟨u, rfl, hu, hb⟩
        have hd := hd.below hb
        have hbx := bl_get hb hbx
        have hbc := bl_get hb hbc
        have hB := bl_trans hB hb
        have hsz3 := Nat.lt_of_lt_of_le hsz2 hb.size
        clear hb hg hsz2
        obtain ⟨d0, d1, d2, d3, d4, d5, d6⟩ := cells_of7 hbc
        by_cases hz : (Ctl.mk k ns nr pp me peer ds).chk = 0
        · rw [hz]
          rw [Ctl.out_ok hz] at hu
          have hwb := bytes_wf hz hcw.out
          have hbl := (show (Ctl.mk k ns nr pp me peer ds).bytes.length ≤ 128 by
            by_cases hk : k ≤ 4
            · obtain ⟨s1, hb, _⟩ := bytes_four hz hk
              rw [hb]
              have := (chk_zero (show chkN k ns nr me peer ds.length = 0 from hz)).2.2.2
              simp; omega
            · obtain ⟨s1, hb, _⟩ := bytes_three hz hk
              rw [hb]
              have := (chk_zero (show chkN k ns nr me peer ds.length = 0 from hz)).2.2.2
              simp; omega)
          have hE := str_eq hwb hw.out
          have hhit : Hid (Hit p i ↔ (Ctl.mk k ns nr pp me peer ds).bytes = p) := by
            show Hit p i ↔ _
            unfold Hit
            rw [hc.out]
            exact ⟨fun h => h.2, fun h => ⟨hz, h⟩⟩
          generalize (Ctl.mk k ns nr pp me peer ds).bytes = L at hu hE hbl hhit
          clear hwb hz
          have hu := Reads.of_owns hu (by unfold maxLen; omega)
          obtain ⟨ao3, cap3, hu1⟩ : ∃ ao3 cap3, u = .slice ao3 L.length cap3 := by
            obtain ⟨_, ao3, cap3, h, _⟩ := hu
            exact ⟨ao3, cap3, h⟩
          subst hu1
          have v1 := conv_reads hu
          have v2 := conv_reads (hr0.below hB)
          by_cases hp : L = p
          · have hh := hhit.out.2 hp
            obtain ⟨hok, hget⟩ := hit_get hh
            rw [hc.out] at hget
            rw [decide_eq_true hp] at hE
            have hfin := Lib.hid (And.intro (getErr_ok hok) hget)
            clear hp hh hok hget hhit hno
            go_wp2_with (refine wpList_store_row rfl 24 _ _ rfl _ #[.int .i64 k, .int .i64 ns, .int .i64 nr, .bool pp, .int .i64 me, .int .i64 peer, .slice ao1 ds.length cap1] rfl rfl 24 _ hbx infoCtl rfl (one7 _ _ _ _ _ _ _ rfl rfl rfl rfl rfl rfl rfl) ?_)
            have hF : Fr (fun j => j = w.heap.size) W3 (W3.setRow w.heap.size #[.int .i64 k, .int .i64 ns, .int .i64 nr, .bool pp, .int .i64 me, .int .i64 peer, .slice ao1 ds.length cap1]) := fr_row _ _ _
            have hrow := setRow_heap W3 w.heap.size _ #[.int .i64 k, .int .i64 ns, .int .i64 nr, .bool pp, .int .i64 me, .int .i64 peer, .slice ao1 ds.length cap1] _ _ hbx
            have hd := hd.fr hF (by intro j hj; omega)
            have hB := bl_fr hB hF (by intro j hj; omega)
            generalize W3.setRow w.heap.size #[.int .i64 k, .int .i64 ns, .int .i64 nr, .bool pp, .int .i64 me, .int .i64 peer, .slice ao1 ds.length cap1] = W4 at hrow hd hB ⊢
            obtain ⟨e0, e1, e2, e3, e4, e5, e6⟩ := cells_of7 hrow
            try simp only [Exit.inBlock, Exit.then]
            refine bodyPost_ret (by simp [results, Try.results15, go_sem, e0, e1, e2, e3, e4, e5, e6]; try rfl) rfl ?_
            rw [hfin.out.1, hfin.out.2]
            exact ⟨ao1, cap1, rfl, hd.mono (fun j hj => by omega), hB⟩
          · rw [decide_eq_false hp] at hE
            have hno2 : Hid (∀ j : Int, 1 ≤ j → j < ((i + 1 : Nat) : Int) → ¬ Hit p j) := fun j h1 h2 hj => by
              by_cases hji : j = i
              · subst hji; exact hp (hhit.out.1 hj)
              · exact hno.out j h1 (by omega) hj
            clear hp hhit hno
            go_wp2
            go_roundw
            case rel => exact ⟨i + 1, by omega, by go_num, hno2, hbx, hB, hsz3⟩
            case measure => simp [intOf]; omega
        · obtain ⟨E, hE⟩ : ∃ E : Int, Hid ((Ctl.mk k ns nr pp me peer ds).chk = E) := ⟨_, rfl⟩
          rw [hE.out] at hz ⊢
          have hE0 : (E == 0) = false := by rw [beq_eq_false_iff_ne]; exact hz
          have hno2 : Hid (∀ j : Int, 1 ≤ j → j < ((i + 1 : Nat) : Int) → ¬ Hit p j) := fun j h1 h2 hj => by
            by_cases hji : j = i
            · subst hji
              have := hj.1
              rw [hc.out, hE.out] at this
              exact hz this
            · exact hno.out j h1 (by omega) hj
          clear hz hno hu
          go_wp2
          go_roundw
          case rel => exact ⟨i + 1, by omega, by go_num, hno2, hbx, hB, hsz3⟩
          case measure => simp [intOf]; omega
      · have hn : ¬ GetOk p := fun h => by
          obtain ⟨k, hk, hh⟩ := get_hit hw.out h
          exact hno.out k hk.1 (by omega) hh
        have hfin := Lib.hid (And.intro (getErr_bad hn) (getC_bad hn))
        clear hn hno
        go_wp2_with (refine wpList_store_row rfl 24 _ _ rfl _ #[.int .i64 0, .int .i64 0, .int .i64 0, .bool false, .int .i64 0, .int .i64 0, .slice none 0 0] rfl rfl 24 _ hbx infoCtl rfl (one7 _ _ _ _ _ _ _ rfl rfl rfl rfl rfl rfl rfl) ?_)
        have hF : Fr (fun j => j = w.heap.size) wr (wr.setRow w.heap.size #[.int .i64 0, .int .i64 0, .int .i64 0, .bool false, .int .i64 0, .int .i64 0, .slice none 0 0]) := fr_row _ _ _
        have hrow := setRow_heap wr w.heap.size _ #[.int .i64 0, .int .i64 0, .int .i64 0, .bool false, .int .i64 0, .int .i64 0, .slice none 0 0] _ _ hbx
        have hB := bl_fr hB hF (by intro j hj; omega)
        generalize wr.setRow w.heap.size #[.int .i64 0, .int .i64 0, .int .i64 0, .bool false, .int .i64 0, .int .i64 0, .slice none 0 0] = W4 at hrow hB ⊢
        obtain ⟨e0, e1, e2, e3, e4, e5, e6⟩ := cells_of7 hrow
        try simp only [Exit.inBlock, Exit.then]
        refine bodyPost_ret (by simp [results, Try.results15, go_sem, e0, e1, e2, e3, e4, e5, e6]; try rfl) rfl ?_
        rw [hfin.out.1, hfin.out.2]
        exact ⟨none, 0, rfl, ⟨Reads.nil _ _, fun k hk => by simp [Value.ownBlock] at hk⟩, hB⟩

end Go.Proofs.Ytcglpdbnggekdaa
