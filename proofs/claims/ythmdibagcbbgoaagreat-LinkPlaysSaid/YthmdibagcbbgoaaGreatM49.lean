/- portagelaw09.LinkPlays: any calls of both ends. Conditions: as they stand. -/
import Derived.Deep.Cut
import Derived.Deep.CutRange
import Derived.Handy
import Derived.Test.YthmdibagcbbgoaaGreatM45
import Derived.Test.YthmdibagcbbgoaaGreatM46
import Derived.Test.YthmdibagcbbgoaaGreatM48
import Derived.Test.YthmdibagcbbgoaaGreatM30
import Derived.Test.YthmdibagcbbgoaaGreatM32
import Derived.Test.YthmdibagcbbgoaaGreatM07
namespace Go.Proofs.YthmdibagcbbgoaaGreat
open Go.RowKit

theorem St.of9 {a0 a1 a2 a3 : Int} (h : setOk a0 a1 a2 a3) : ∃ a : St, a.Ok ∧ a0 = a.me ∧ a1 = a.size ∧ a2 = a.timer ∧ a3 = a.tries := by
  unfold setOk at h
  exact ⟨⟨a0.toNat, a1.toNat, a2.toNat, a3.toNat⟩, ⟨by simp only; omega, by simp only; omega, by simp only; omega, by simp only; omega, by simp only; omega, by simp only; omega, by simp only; omega⟩, by simp only; omega, by simp only; omega, by simp only; omega, by simp only; omega⟩
/-- Between two rounds. -/
structure Playing (w : World) (b7 a sg rg i : Nat) (wr : World) : Prop where
  ex : ∃ sl rl ra ov iv t, Beside w.heap.size (fun k => k = b7) wr a sg rg sl rl ra ov iv t ∧ PlOk (128 * i) t ∧ t.out.length ≤ 10 ∧ t.inn.length ≤ 10 ∧ wr.heap[b7]? = some (.cells (t.ref sl rl ra ov iv) 38 (0, 0))
  bl : Below w.heap.size w wr
  ge : w.heap.size ≤ b7
/-- Behind the call. -/
structure Met9 (w : World) (b7 a sg rg : Nat) (T : Lk) (k : Nat) (wx : World) : Prop where
  ex : ∃ sl rl ra ov iv, Beside w.heap.size (fun j => j = b7 ∨ j = k) wx a sg rg sl rl ra ov iv T ∧ wx.heap[k]? = some (.cells (T.ref sl rl ra ov iv) 38 (0, 0)) ∧ ∃ cs, cs.size = 20 ∧ wx.heap[b7]? = some (.cells cs 38 (0, 0))
  ne : k ≠ b7
  ge : w.heap.size ≤ k
  bl : Below w.heap.size w wx

set_option maxRecDepth 100000 in
set_option maxHeartbeats 4000000 in
theorem lplays_bad (a0 a1 a2 a3 : Int) (v : Value) (h : ¬ setOk a0 a1 a2 a3) (w : World) :
    Calls Tryz.prog 3 #[.agg #[.int .i64 a0, .int .i64 a1, .int .i64 a2, .int .i64 a3], v] w fun e w' => e = .returned (.bool true) ∧ Below w.heap.size w w' := by
  obtain ⟨w1, hw1, hb1, hz1, d0, d1, d2, d3⟩ := set_box w a0 a1 a2 a3
  have HB := lnew_bad a0 a1 a2 a3 h w1
  have HR := r9new_bad a0 a1 a2 a3 h w1
  have H1 := Lib.hid hb1
  clear h hb1 hz1
  go_enter Tryz.func3, Tryz.ntmps3
  go_wp2_with fail
  try simp only [hw1]
  go_wp2_with fail
  refine HB.mono ?_
  rintro e w2 ⟨rfl, rfl⟩
  go_wp2_with fail
  refine HR.mono ?_
  rintro e w3 ⟨rfl, hb3⟩
  obtain ⟨W4, hW4⟩ : ∃ W, w3.alloc (.cells #[.int .i64 0, .int .i64 0, .bool false, .int .i64 0, .int .i64 0, .int .i64 0, .int .i64 0, .int .i64 0, .bool false, .bool false, .int .i64 0, .int .i64 0, .slice none 0 0, .int .i64 0, .int .i64 0, .int .i64 0, .slice none 0 0, .slice none 0 0, .slice none 0 0, .slice none 0 0] 38) = W := ⟨_, rfl⟩
  have n4 : ∃ cs, cs.size = 20 ∧ W4.heap[w3.heap.size]? = some (.cells cs 38 (0, 0)) := ⟨_, rfl, by rw [← hW4]; exact heap_alloc_new _ _⟩
  have bW4 : Below w3.heap.size w3 W4 := by rw [← hW4]; exact bl_alloc (bl_refl w3) _
  obtain ⟨cs4, hcs4, hz4⟩ := n4
  go_wp2_with (with_reducible show wpList _ _ _ (⟨_, .store 38 (.tmp 7) (.tmp 37), _, _, _, none⟩ :: _) _ _; refine RowKit.Hid.out ?_)
  refine Lib.hid ?_
  refine wpList_store_row rfl 38 (.tmp 7) (.tmp 37) rfl _ _ rfl rfl _ _ hz4 infoL9 hcs4 (by kernel_rfl) ?_
  have n5 := setRow_heap W4 w3.heap.size _ #[.int .i64 0, .int .i64 0, .bool false, .int .i64 0, .int .i64 0, .int .i64 0, .int .i64 0, .int .i64 0, .bool false, .bool false, .int .i64 0, .int .i64 0, .slice none 0 0, .int .i64 0, .int .i64 0, .int .i64 0, .slice none 0 0, .slice none 0 0, .slice none 0 0, .slice none 0 0] _ _ hz4
  have fW5 := fr_row W4 w3.heap.size #[.int .i64 0, .int .i64 0, .bool false, .int .i64 0, .int .i64 0, .int .i64 0, .int .i64 0, .int .i64 0, .bool false, .bool false, .int .i64 0, .int .i64 0, .slice none 0 0, .int .i64 0, .int .i64 0, .int .i64 0, .slice none 0 0, .slice none 0 0, .slice none 0 0, .slice none 0 0]
  obtain ⟨W5, hW5⟩ : ∃ V, W4.setRow w3.heap.size #[.int .i64 0, .int .i64 0, .bool false, .int .i64 0, .int .i64 0, .int .i64 0, .int .i64 0, .int .i64 0, .bool false, .bool false, .int .i64 0, .int .i64 0, .slice none 0 0, .int .i64 0, .int .i64 0, .int .i64 0, .slice none 0 0, .slice none 0 0, .slice none 0 0, .slice none 0 0] = V := ⟨_, rfl⟩
  rw [hW5] at n5 fW5 ⊢
  have H5 : Hid (Below w.heap.size w W5) := H1.out.trans ((hb3.mono H1.out.size).trans ((bW4.mono (Nat.le_trans H1.out.size hb3.size)).trans (fr_bl fW5 (fun k hk => by rw [hk]; exact Nat.le_trans H1.out.size hb3.size) (Nat.le_trans (Nat.le_trans H1.out.size hb3.size) bW4.size))))
  clear hb3 bW4 fW5 H1 HB HR
  go_wp2_with fail
  refine (awake9_any _).mono ?_
  rintro e w6 ⟨rfl, hb6⟩
  have H6 := bl_trans H5.out hb6
  clear hb6
  go_wp2
  go_ret
  exact ⟨rfl, H6⟩

set_option maxRecDepth 100000 in
set_option maxHeartbeats 8000000 in
theorem lplays_ok (s : St) (hs : s.Ok) (v : Value) (l : List ActL) (w : World) (hl : Acts9 w.heap.size w v l) :
    Calls Tryz.prog 3 #[.agg #[.int .i64 s.me, .int .i64 s.size, .int .i64 s.timer, .int .i64 s.tries], v] w fun e w' => e = .returned (.bool true) ∧ Below w.heap.size w w' := by
  obtain ⟨hm, ao, cap, rfl, hlc, hcs⟩ := hl
  have HCS := Lib.hid hcs
  simp only [maxLen] at hm
  obtain ⟨w1, hw1, hb1, hz1, d0, d1, d2, d3⟩ := set_box w s.me s.size s.timer s.tries
  have HB := lnew_ok s.me s.size s.timer s.tries hs.me hs.timer1 hs.timer2 hs.tries1 hs.tries2 hs.size1 hs.size2 w.heap.size w1 hb1.size
  have hsk : setOk s.me s.size s.timer s.tries := by
    have h1 := hs.me
    have h2 := hs.timer1
    have h3 := hs.timer2
    have h4 := hs.tries1
    have h5 := hs.tries2
    have h6 := hs.size1
    have h7 := hs.size2
    unfold setOk
    omega
  have HSK := Lib.hid hsk
  have H1 := Lib.hid hb1
  clear hcs hb1 hz1 hs hsk
  go_enter Tryz.func3, Tryz.ntmps3
  go_wp2_with fail
  try simp only [hw1]
  go_wp2_with fail
  refine HB.mono ?_
  rintro e w2 ⟨a, sg, rg, col, po, pi, rfl, hp, _, hb2⟩
  replace d0 := below_cell hb2 d0
  replace d1 := below_cell hb2 d1
  replace d2 := below_cell hb2 d2
  replace d3 := below_cell hb2 d3
  have HR := r9new_at (Turns col) s.me s.size s.timer s.tries HSK.out w2 (turns_lt hp)
  have HP := Lib.hid hp
  have H2 : Hid (Below w.heap.size w w2) := H1.out.trans (hb2.mono H1.out.size)
  clear hp hb2 HB H1
  go_wp2_with fail
  refine HR.mono ?_
  rintro e w3 ⟨⟨sl, rl, ra, ov, iv, rfl, hr3⟩, hb3⟩
  obtain ⟨t0, ht0⟩ : ∃ t0, Lk.new s.me s.size s.timer s.tries = t0 := ⟨_, rfl⟩
  have ok0 := newd_ok s.me s.size s.timer s.tries HSK.out
  have lo0 : (Lk.new s.me s.size s.timer s.tries).out.length ≤ 10 ∧ (Lk.new s.me s.size s.timer s.tries).inn.length ≤ 10 := ⟨by show (1 : Nat) ≤ _; omega, by show (0 : Nat) ≤ _; omega⟩
  have hB3 := Beside.start HP.out hb3 hr3
  rw [ht0] at hr3 ok0 lo0 hB3 ⊢
  have H3 : Hid (Below w.heap.size w w3) := H2.out.trans (hb3.mono H2.out.size)
  have hB4 := hB3.box (.cells #[.int .i64 0, .int .i64 0, .bool false, .int .i64 0, .int .i64 0, .int .i64 0, .int .i64 0, .int .i64 0, .bool false, .bool false, .int .i64 0, .int .i64 0, .slice none 0 0, .int .i64 0, .int .i64 0, .int .i64 0, .slice none 0 0, .slice none 0 0, .slice none 0 0, .slice none 0 0] 38)
  clear HR HP H2 hb3 hB3 d0 d1 d2 d3
  obtain ⟨W4, hW4⟩ : ∃ W, w3.alloc (.cells #[.int .i64 0, .int .i64 0, .bool false, .int .i64 0, .int .i64 0, .int .i64 0, .int .i64 0, .int .i64 0, .bool false, .bool false, .int .i64 0, .int .i64 0, .slice none 0 0, .int .i64 0, .int .i64 0, .int .i64 0, .slice none 0 0, .slice none 0 0, .slice none 0 0, .slice none 0 0] 38) = W := ⟨_, rfl⟩
  have n4 : ∃ cs, cs.size = 20 ∧ W4.heap[w3.heap.size]? = some (.cells cs 38 (0, 0)) := ⟨_, rfl, by rw [← hW4]; exact heap_alloc_new _ _⟩
  have bW4 : Below w3.heap.size w3 W4 := by rw [← hW4]; exact bl_alloc (bl_refl w3) _
  rw [hW4] at hB4
  obtain ⟨cs4, hcs4, hz4⟩ := n4
  go_wp2_with (with_reducible show wpList _ _ _ (⟨_, .store 38 (.tmp 7) (.tmp 37), _, _, _, none⟩ :: _) _ _; refine RowKit.Hid.out ?_)
  refine Lib.hid ?_
  refine wpList_store_row rfl 38 (.tmp 7) (.tmp 37) rfl _ _ rfl rfl _ _ hz4 infoL9 hcs4 hr3.one ?_
  have hB5 := hB4.row (k := w3.heap.size) (.inr rfl) (t0.ref sl rl ra ov iv)
  have n5 := setRow_heap W4 w3.heap.size _ (t0.ref sl rl ra ov iv) _ _ hz4
  have fW5 := fr_row W4 w3.heap.size (t0.ref sl rl ra ov iv)
  obtain ⟨W5, hW5⟩ : ∃ V, W4.setRow w3.heap.size (t0.ref sl rl ra ov iv) = V := ⟨_, rfl⟩
  rw [hW5] at n5 fW5 hB5 ⊢
  have H5 : Hid (Below w.heap.size w W5) := H3.out.trans ((bW4.mono H3.out.size).trans (fr_bl fW5 (fun k hk => by rw [hk]; exact H3.out.size) (Nat.le_trans H3.out.size bW4.size)))
  obtain ⟨b7, hb7⟩ : ∃ b7, w3.heap.size = b7 := ⟨_, rfl⟩
  have hge : w.heap.size ≤ b7 := by rw [← hb7]; exact H3.out.size
  rw [hb7] at n5 hB5 ⊢
  have HI : Hid (Playing w b7 a sg rg 0 W5) := ⟨⟨_, _, _, _, _, _, hB5.less fun k hk => .inr hk, ok0, lo0.1, lo0.2, n5⟩, H5.out, hge⟩
  clear hB4 hB5 n5 H5 H3 bW4 fW5 hz4 hcs4 hb7 hge hr3 ok0 lo0 ht0 hW4 hW5 hw1 HSK
  go_wp2_with fail
  go_loopw [9] (fun kv wr => ∃ i : Nat, kv = .int .i64 i ∧ i ≤ l.length ∧ i ≤ 100 ∧ Hid (Playing w b7 a sg rg i wr)) (fun kv _ => 100 - (intOf kv).toNat)
  case atStart => exact ⟨0, rfl, by omega, by omega, HI⟩
  case round =>
    clear HI
    obtain ⟨i, rfl, hi1, hi2, HI⟩ := hrel
    by_cases hlt : i < l.length ∧ i < 100
    · obtain ⟨hlt1, hlt2⟩ := hlt
      obtain ⟨c, hci⟩ := get_some hlt1
      obtain ⟨b, ofs, x, y, rfl, hbB, hcells, hx, hy, hxl⟩ := HCS.out i c hci
      have f0 : (0 : Int) ≤ (i : Int) := by omega
      have f1 : (i : Int) < (l.length : Int) := by omega
      have f2 : (i : Int) < 100 := by omega
      obtain ⟨sl, rl, ra, ov, iv, t, hBs, hok, hlo, hli, hrow⟩ := HI.out.ex
      have HG : Hid (w.heap.size ≤ b7 ∧ Below w.heap.size w wr) := ⟨HI.out.ge, HI.out.bl⟩
      have HT : Hid (PlOk (128 * (i + 1)) (t.playd c)) := playd_ok hok (by omega) c hlo hli
      have lb7 := lt_of_get hrow
      have HPL := Lib.hid fun (W : World) (X : Nat → Prop) (hB : Beside w.heap.size X W a sg rg sl rl ra ov iv t) (hX : ∀ k, X k → w.heap.size ≤ k) (hb : Below w.heap.size wr W) => play_any hB hX hok (by omega) c x y (hx.below (HG.out.2.trans hb)) hxl (hy.below (HG.out.2.trans hb))
      have HS : Hid (∀ w' : World, Below w.heap.size wr w' → w'.heap[b7]? = wr.heap[b7]? → (fun w' => w'.heap[b7]? = some (.cells (t.ref sl rl ra ov iv) 38 (0, 0)) ∧ ∀ (j : Nat) (u : Value), (c.cells x y)[j]? = some u → w'.cell? ⟨b, ofs + i * 10 + j, none⟩ = some u) w') := fun w' hb hk => ⟨hk.trans hrow, fun j u hu => ((HG.out.2.trans hb).cell (p := ⟨b, _, none⟩) hbB).trans (hcells j u hu)⟩
      have HBS := Lib.hid hBs
      clear hci hcells hx hy hxl hBs hok hlo hli hrow HI hbB
      go_wp2_with fail
      go_cut [10, 11] from 52 to 134 (fun q10 q11 wx => ∃ k : Nat, q10 = .pointer (some ⟨k, 0, none⟩) ∧ q11 = .bool true ∧ Hid (Met9 w b7 a sg rg (t.playd c) k wx))
      case first =>
        refine wp_region_fork (fun w' => w'.heap[b7]? = some (.cells (t.ref sl rl ra ov iv) 38 (0, 0)) ∧ ∀ (j : Nat) (u : Value), (c.cells x y)[j]? = some u → w'.cell? ⟨b, ofs + i * 10 + j, none⟩ = some u)
          [(0, 0), (1, 1), (2, 0), (3, 0), (4, 0), (5, 1)] 6 10 [(7, 0), (8, 0), (9, 0), (10, 2)] [(6, 2), (7, 0), (8, 0), (9, 0)] [(11, false), (12, true)] [11] [7, 8, 9, 12]
          (by kernel_rfl) (fun _ _ d _ _ h => by cases d <;> exact h) (by decide +kernel) (HS.out _ (.drew (.refl _ _)) rfl) ?_
        refine wpHead_free (v := ?_) rfl (by rfl) ?_ ?_
        rotate_left
        focus (intro w1; go_simp; try with_reducible rfl)
        simp only [Act.put, List.setIfInBounds_toArray]
        refine wpHead_take (v := .agg (t.ref sl rl ra ov iv)) rfl (by rfl) (fun w1 h1 => exec_load_row 38 (.tmp 7) rfl b7 rfl _ _ (0, 0) _ h1.1 Tryz.underlying38 rfl infoL9) ?_
        simp only [Act.put]
        iterate 3
          refine wpHead_free (v := ?_) rfl (by rfl) ?_ ?_
          rotate_left
          focus (intro w1; go_simp; try with_reducible rfl)
          simp only [Act.put]
        refine wpHead_take (v := .agg (c.cells x y)) rfl (by rfl) (fun w1 h1 => exec_load_part 48 (.tmp 67) rfl b (ofs + i * 10) rfl _ _ h1.2 Tryz.underlying48 rfl infoA10) ?_
        simp only [Act.put]
        refine wpHead_nil ⟨?_, ?_⟩
        · have hb0 : Below w.heap.size wr wr.drew := .drew (.refl _ _)
          refine wpHead_step rfl (by rfl) (fun K hK => ?_)
          go_simp; go_at_call 7
          refine (HPL.out wr.drew _ (HBS.out.below (bl_drew (bl_refl wr))) (fun k hk => by rw [hk]; exact HG.out.1) hb0).mono ?_; rintro e W4 ⟨⟨sl4, rl4, ra4, ov4, iv4, rfl, hB4⟩, hbl4, hk4⟩; simp only []
          have hb4 : Below w.heap.size wr W4 := hb0.trans hbl4
          have h74 := hk4 b7 rfl
          obtain ⟨_, _, _, _, _, hr4⟩ := hB4.ex
          refine hK.out _ _ (HS.out _ hb4 h74) ?_
          clear hK K
          try simp only [Act.put, List.setIfInBounds_toArray]
          iterate 3
            refine wpHead_free (v := ?_) rfl (by rfl) ?_ ?_
            rotate_left
            focus (intro w1; go_simp; try with_reducible rfl)
            simp only [Act.put]
          refine wpHead_step rfl (by rfl) (fun K hK => ?_)
          go_simp
          obtain ⟨W5, hW5⟩ : ∃ W, W4.alloc (.cells #[.int .i64 0, .int .i64 0, .bool false, .int .i64 0, .int .i64 0, .int .i64 0, .int .i64 0, .int .i64 0, .bool false, .bool false, .int .i64 0, .int .i64 0, .slice none 0 0, .int .i64 0, .int .i64 0, .int .i64 0, .slice none 0 0, .slice none 0 0, .slice none 0 0, .slice none 0 0] 38) = W := ⟨_, rfl⟩
          have n5 : ∃ cs, cs.size = 20 ∧ W5.heap[W4.heap.size]? = some (.cells cs 38 (0, 0)) := ⟨_, rfl, by rw [← hW5]; exact heap_alloc_new _ _⟩
          have bW5 : Below W4.heap.size W4 W5 := by rw [← hW5]; exact bl_alloc (bl_refl W4) _
          rw [hW5]
          have hb5 : Below w.heap.size wr W5 := hb4.trans (bW5.mono (by have := (HG.out.2.trans hb4).size; omega))
          have l74 : b7 < W4.heap.size := by have := hbl4.size; have : wr.drew.heap.size = wr.heap.size := rfl; omega
          refine hK.out _ _ (HS.out _ hb5 ((bW5.block b7 l74).trans h74)) ?_
          clear hK K
          try simp only [Act.put, List.setIfInBounds_toArray]
          refine wpHead_nil ?_
          obtain ⟨cs5, hcs5, hz5⟩ := n5
          have h75 := (HS.out _ hb5 ((bW5.block b7 l74).trans h74)).1
          have hB5 := hB4.box (.cells #[.int .i64 0, .int .i64 0, .bool false, .int .i64 0, .int .i64 0, .int .i64 0, .int .i64 0, .int .i64 0, .bool false, .bool false, .int .i64 0, .int .i64 0, .slice none 0 0, .int .i64 0, .int .i64 0, .int .i64 0, .slice none 0 0, .slice none 0 0, .slice none 0 0, .slice none 0 0] 38)
          rw [hW5] at hB5
          have hne : W4.heap.size ≠ b7 := by omega
          refine wpTail_step rfl (by rfl) (fun K hK => ?_)
          refine wp_store_row 38 (.tmp 10) (.tmp 70) rfl W4.heap.size _ rfl rfl _ _ hz5 infoL9 hcs5 hr4.one ?_
          refine hK.out _ _ ?_
          clear hK K
          try simp only [Act.put, List.setIfInBounds_toArray]
          refine wpTail_free (v := ?_) rfl (by rfl) ?_ ?_
          rotate_left
          focus (intro w1; go_simp; try with_reducible rfl)
          simp only [Act.put, List.getElem_toArray, List.getElem_cons_zero, List.getElem_cons_succ, List.setIfInBounds_toArray]
          refine wpTail_nil ?_
          have n6 := setRow_heap W5 W4.heap.size _ (Lk.ref (t.playd c) sl4 rl4 ra4 ov4 iv4) _ _ hz5
          have f6 := fr_row W5 W4.heap.size (Lk.ref (t.playd c) sl4 rl4 ra4 ov4 iv4)
          have hgk : w.heap.size ≤ W4.heap.size := (HG.out.2.trans hb4).size
          simp only [List.set_cons_succ, List.set_cons_zero]
          go_wp2_with fail
          go_meet
          case rel => exact ⟨_, rfl, rfl, ⟨_, _, _, _, _, hB5.row (.inr rfl) _, n6, _, rfl, (f6.get h75 hne.symm)⟩, hne, hgk, (HG.out.2.trans hb5).trans (fr_bl f6 (fun j hj => by rw [hj]; omega) (by have := (HG.out.2.trans hb5).size; omega))⟩
        · refine wpHead_step rfl (by rfl) (fun K hK => ?_)
          go_simp
          obtain ⟨W3, hW3⟩ : ∃ W, (wr.alloc (.cells #[.int .i64 0, .int .i64 0, .bool false, .int .i64 0, .int .i64 0, .int .i64 0, .int .i64 0, .int .i64 0, .bool false, .bool false, .int .i64 0, .int .i64 0, .slice none 0 0, .int .i64 0, .int .i64 0, .int .i64 0, .slice none 0 0, .slice none 0 0, .slice none 0 0, .slice none 0 0] 38)).drew = W := ⟨_, rfl⟩
          have n3 : ∃ cs, cs.size = 20 ∧ W3.heap[wr.heap.size]? = some (.cells cs 38 (0, 0)) := ⟨_, rfl, by rw [← hW3]; exact bl_get (bl_drew (bl_refl _)) (heap_alloc_new _ _)⟩
          have bW3 : Below wr.heap.size wr W3 := by rw [← hW3]; exact bl_drew (bl_alloc (bl_refl wr) _)
          rw [hW3]
          have hb3 : Below w.heap.size wr W3 := bW3.mono HG.out.2.size
          have hk3 := bW3.block b7 lb7
          refine hK.out _ _ (HS.out _ hb3 hk3) ?_
          clear hK K
          try simp only [Act.put, List.setIfInBounds_toArray]
          have hB3 := (HBS.out.box (.cells #[.int .i64 0, .int .i64 0, .bool false, .int .i64 0, .int .i64 0, .int .i64 0, .int .i64 0, .int .i64 0, .bool false, .bool false, .int .i64 0, .int .i64 0, .slice none 0 0, .int .i64 0, .int .i64 0, .int .i64 0, .slice none 0 0, .slice none 0 0, .slice none 0 0, .slice none 0 0] 38)).below (bl_drew (bl_refl _))
          rw [hW3] at hB3
          have hge3 : ∀ k, (k = b7 ∨ k = wr.heap.size) → w.heap.size ≤ k := fun k hk => by
            rcases hk with rfl | rfl
            · exact HG.out.1
            · exact HG.out.2.size
          refine wpHead_step rfl (by rfl) (fun K hK => ?_)
          go_simp; go_at_call 7
          refine (HPL.out W3 _ hB3 hge3 hb3).mono ?_; rintro e W4 ⟨⟨sl4, rl4, ra4, ov4, iv4, rfl, hB4⟩, hbl4, hk4⟩; simp only []
          have hb5 : Below w.heap.size wr W4 := hb3.trans hbl4
          have h74 := (hk4 b7 (.inl rfl)).trans hk3
          obtain ⟨_, _, _, _, _, hr4⟩ := hB4.ex
          refine hK.out _ _ (HS.out _ hb5 h74) ?_
          clear hK K
          try simp only [Act.put, List.setIfInBounds_toArray]
          iterate 3
            refine wpHead_free (v := ?_) rfl (by rfl) ?_ ?_
            rotate_left
            focus (intro w1; go_simp; try with_reducible rfl)
            simp only [Act.put]
          refine wpHead_nil ?_
          obtain ⟨cs5, hcs5, hz5'⟩ := n3
          have hz5 := (hk4 _ (.inr rfl)).trans hz5'
          have h75 := (HS.out _ hb5 h74).1
          have hB5 := hB4
          have hne : wr.heap.size ≠ b7 := by omega
          refine wpTail_step rfl (by rfl) (fun K hK => ?_)
          refine wp_store_row 38 (.tmp 10) (.tmp 70) rfl wr.heap.size _ rfl rfl _ _ hz5 infoL9 hcs5 hr4.one ?_
          refine hK.out _ _ ?_
          clear hK K
          try simp only [Act.put, List.setIfInBounds_toArray]
          refine wpTail_free (v := ?_) rfl (by rfl) ?_ ?_
          rotate_left
          focus (intro w1; go_simp; try with_reducible rfl)
          simp only [Act.put, List.getElem_toArray, List.getElem_cons_zero, List.getElem_cons_succ, List.setIfInBounds_toArray]
          refine wpTail_nil ?_
          have n6 := setRow_heap W4 wr.heap.size _ (Lk.ref (t.playd c) sl4 rl4 ra4 ov4 iv4) _ _ hz5
          have f6 := fr_row W4 wr.heap.size (Lk.ref (t.playd c) sl4 rl4 ra4 ov4 iv4)
          have hgk : w.heap.size ≤ wr.heap.size := HG.out.2.size
          simp only [List.set_cons_succ, List.set_cons_zero]
          go_wp2_with fail
          go_meet
          case rel => exact ⟨_, rfl, rfl, ⟨_, _, _, _, _, hB5.row (.inr rfl) _, n6, _, rfl, (f6.get h75 hne.symm)⟩, hne, hgk, (HG.out.2.trans hb5).trans (fr_bl f6 (fun j hj => by rw [hj]; omega) (by have := (HG.out.2.trans hb5).size; omega))⟩
      case rest =>
        obtain ⟨k, rfl, rfl, HM⟩ := hcut
        obtain ⟨sl4, rl4, ra4, ov4, iv4, hB4, hk4, cs7, hcs7, hz7⟩ := HM.out.ex
        have hne := HM.out.ne
        have hgk := HM.out.ge
        obtain ⟨col, po, pi, hM4⟩ := hB4.mid
        have K4 := Lib.hid hk4
        have BW4 := Lib.hid HM.out.bl
        clear hB4 hk4 HM HPL HS HBS f0 f1 f2
        obtain ⟨T, hT⟩ : ∃ T, t.playd c = T := ⟨_, rfl⟩
        rw [hT] at HT K4 hM4
        go_wp2_with (with_reducible show wpList _ _ _ (⟨_, .load 38 (.tmp 10), _, _, _, none⟩ :: _) _ _; refine RowKit.Hid.out ?_)
        refine Lib.hid ?_
        refine wpList_load_row rfl 38 (.tmp 10) rfl _ rfl _ _ (0, 0) _ K4.out Tryz.underlying38 rfl infoL9 ?_
        go_wp2_with (with_reducible show wpList _ _ _ (⟨_, .store 38 (.tmp 7) (.tmp 72), _, _, _, none⟩ :: _) _ _; refine RowKit.Hid.out ?_)
        refine Lib.hid ?_
        refine wpList_store_row rfl 38 (.tmp 7) (.tmp 72) rfl _ _ rfl rfl _ _ hz7 infoL9 hcs7 hM4.rf.one ?_
        have hM5 := hM4.row (k := b7) (.inl rfl) (Lk.ref T sl4 rl4 ra4 ov4 iv4)
        have n5 := setRow_heap wc b7 _ (Lk.ref T sl4 rl4 ra4 ov4 iv4) _ _ hz7
        have fW5 := fr_row wc b7 (Lk.ref T sl4 rl4 ra4 ov4 iv4)
        obtain ⟨W5, hW5⟩ : ∃ V, wc.setRow b7 (Lk.ref T sl4 rl4 ra4 ov4 iv4) = V := ⟨_, rfl⟩
        rw [hW5] at n5 fW5 hM5 ⊢
        have K5 := Lib.hid (fW5.get K4.out hne)
        have B5 : Hid (Below w.heap.size w W5) := BW4.out.trans (fr_bl fW5 (fun j hj => by rw [hj]; exact HG.out.1) BW4.out.size)
        have N5 := Lib.hid n5
        have HO := r9out_any _ W5 _ _ _ _ _ _ hM5.rf
        have M5 := Lib.hid hM5
        clear n5 hM5 hM4 hz7 hcs7 fW5 K4 hW5 BW4
        go_wp2_with (with_reducible show wpList _ _ _ (⟨_, .load 38 (.tmp 7), _, _, _, none⟩ :: _) _ _; refine RowKit.Hid.out ?_)
        refine Lib.hid ?_
        refine wpList_load_row rfl 38 (.tmp 7) rfl _ rfl _ _ (0, 0) _ N5.out Tryz.underlying38 rfl infoL9 ?_
        go_wp2_with fail
        refine HO.mono ?_
        rintro e W6 ⟨⟨sl6, rl6, ra6, ov6, iv6, rfl, hr6⟩, hb6⟩
        obtain ⟨T1, hT1⟩ : ∃ T1 : Lk, { T with out := [] } = T1 := ⟨_, rfl⟩
        rw [hT1] at hr6 ⊢
        have hov6 := M5.out.rf.out.below hb6
        obtain ⟨W7, hW7⟩ : ∃ W, W6.alloc (.cells #[.int .i64 0, .int .i64 0, .bool false, .int .i64 0, .int .i64 0, .int .i64 0, .int .i64 0, .int .i64 0, .bool false, .bool false, .int .i64 0, .int .i64 0, .slice none 0 0, .int .i64 0, .int .i64 0, .int .i64 0, .slice none 0 0, .slice none 0 0, .slice none 0 0, .slice none 0 0] 38) = W := ⟨_, rfl⟩
        have n7 : ∃ cs, cs.size = 20 ∧ W7.heap[W6.heap.size]? = some (.cells cs 38 (0, 0)) := ⟨_, rfl, by rw [← hW7]; exact heap_alloc_new _ _⟩
        have bW7 : Below W6.heap.size W6 W7 := by rw [← hW7]; exact bl_alloc (bl_refl W6) _
        obtain ⟨cs7, hcs7, hz7⟩ := n7
        go_wp2_with (with_reducible show wpList _ _ _ (⟨_, .store 38 (.tmp 12) (.tmp 76), _, _, _, none⟩ :: _) _ _; refine RowKit.Hid.out ?_)
        refine Lib.hid ?_
        refine wpList_store_row rfl 38 (.tmp 12) (.tmp 76) rfl _ _ rfl rfl _ _ hz7 infoL9 hcs7 hr6.one ?_
        have hM7 := (M5.out.call hb6 hr6).box (.cells #[.int .i64 0, .int .i64 0, .bool false, .int .i64 0, .int .i64 0, .int .i64 0, .int .i64 0, .int .i64 0, .bool false, .bool false, .int .i64 0, .int .i64 0, .slice none 0 0, .int .i64 0, .int .i64 0, .int .i64 0, .slice none 0 0, .slice none 0 0, .slice none 0 0, .slice none 0 0] 38)
        rw [hW7] at hM7
        have hM8 := hM7.row (k := W6.heap.size) (.inr rfl) (Lk.ref T1 sl6 rl6 ra6 ov6 iv6)
        have n8 := setRow_heap W7 W6.heap.size _ (Lk.ref T1 sl6 rl6 ra6 ov6 iv6) _ _ hz7
        have fW8 := fr_row W7 W6.heap.size (Lk.ref T1 sl6 rl6 ra6 ov6 iv6)
        obtain ⟨W8, hW8⟩ : ∃ V, W7.setRow W6.heap.size (Lk.ref T1 sl6 rl6 ra6 ov6 iv6) = V := ⟨_, rfl⟩
        rw [hW8] at n8 fW8 hM8 ⊢
        have lk5 := lt_of_get K5.out
        have l75 := lt_of_get N5.out
        have s56 := hb6.size
        have K8 := Lib.hid (fW8.get (bl_get bW7 (bl_get hb6 K5.out)) (by omega))
        have N7 := Lib.hid (fW8.get (bl_get bW7 (bl_get hb6 N5.out)) (by omega))
        have b68 : Below W6.heap.size W6 W8 := bW7.trans (fr_bl fW8 (fun j hj => by rw [hj]; exact Nat.le_refl _) bW7.size)
        have OV8 := Lib.hid (hov6.below b68)
        have B8 : Hid (Below w.heap.size w W8) := bl_trans (bl_trans B5.out hb6) b68
        have N8 := Lib.hid n8
        have HI := r9in_any _ W8 _ _ _ _ _ _ hM8.rf
        have M8 := Lib.hid hM8
        clear hM8 hM7 n8 hz7 hcs7 fW8 hW8 hW7 bW7 b68 hov6 hr6 hb6 HO K5 N5 B5 M5 s56 lk5 l75
        go_wp2_with (with_reducible show wpList _ _ _ (⟨_, .load 38 (.tmp 12), _, _, _, none⟩ :: _) _ _; refine RowKit.Hid.out ?_)
        refine Lib.hid ?_
        refine wpList_load_row rfl 38 (.tmp 12) rfl _ rfl _ _ (0, 0) _ N8.out Tryz.underlying38 rfl infoL9 ?_
        go_wp2_with fail
        refine HI.mono ?_
        rintro e W9 ⟨⟨sl9, rl9, ra9, ov9, iv9, rfl, hr9⟩, hb9⟩
        obtain ⟨T2, hT2⟩ : ∃ T2 : Lk, { T1 with inn := [] } = T2 := ⟨_, rfl⟩
        rw [hT2] at hr9 ⊢
        have hiv9 := M8.out.rf.inn.below hb9
        have hk9 := bl_get hb9 K8.out
        go_wp2_with (with_reducible show wpList _ _ _ (⟨_, .store 38 (.tmp 10) (.tmp 81), _, _, _, none⟩ :: _) _ _; refine RowKit.Hid.out ?_)
        refine Lib.hid ?_
        refine wpList_store_row rfl 38 (.tmp 10) (.tmp 81) rfl _ _ rfl rfl _ _ hk9 infoL9 rfl hr9.one ?_
        have hM10 := (M8.out.call hb9 hr9).row (k := k) (.inl (.inr rfl)) (Lk.ref T2 sl9 rl9 ra9 ov9 iv9)
        have n10 := setRow_heap W9 k _ (Lk.ref T2 sl9 rl9 ra9 ov9 iv9) _ _ hk9
        have fW10 := fr_row W9 k (Lk.ref T2 sl9 rl9 ra9 ov9 iv9)
        obtain ⟨W10, hW10⟩ : ∃ V, W9.setRow k (Lk.ref T2 sl9 rl9 ra9 ov9 iv9) = V := ⟨_, rfl⟩
        rw [hW10] at n10 fW10 hM10 ⊢
        have N10 := Lib.hid n10
        have hz10 := fW10.get (bl_get hb9 N7.out) hne.symm
        have Z10 := Lib.hid hz10
        go_wp2_with (with_reducible show wpList _ _ _ (⟨_, .load 38 (.tmp 10), _, _, _, none⟩ :: _) _ _; refine RowKit.Hid.out ?_)
        refine Lib.hid ?_
        refine wpList_load_row rfl 38 (.tmp 10) rfl _ rfl _ _ (0, 0) _ N10.out Tryz.underlying38 rfl infoL9 ?_
        go_wp2_with (with_reducible show wpList _ _ _ (⟨_, .store 38 (.tmp 7) (.tmp 83), _, _, _, none⟩ :: _) _ _; refine RowKit.Hid.out ?_)
        refine Lib.hid ?_
        refine wpList_store_row rfl 38 (.tmp 7) (.tmp 83) rfl _ _ rfl rfl _ _ Z10.out infoL9 rfl hr9.one ?_
        have hM11 := hM10.row (k := b7) (.inl (.inl rfl)) (Lk.ref T2 sl9 rl9 ra9 ov9 iv9)
        have n11 := setRow_heap W10 b7 _ (Lk.ref T2 sl9 rl9 ra9 ov9 iv9) _ _ Z10.out
        have fW11 := fr_row W10 b7 (Lk.ref T2 sl9 rl9 ra9 ov9 iv9)
        obtain ⟨W11, hW11⟩ : ∃ V, W10.setRow b7 (Lk.ref T2 sl9 rl9 ra9 ov9 iv9) = V := ⟨_, rfl⟩
        rw [hW11] at n11 fW11 hM11 ⊢
        have BL11 : Hid (Below w.heap.size w W11) := by
          have q9 := bl_trans B8.out hb9
          have q10 : Below w.heap.size w W10 := q9.trans (fr_bl fW10 (fun j hj => by rw [hj]; exact hgk) q9.size)
          exact q10.trans (fr_bl fW11 (fun j hj => by rw [hj]; exact HG.out.1) q10.size)
        have OV11 := Lib.hid (((OV8.out.below hb9).fr fW10 (fun j hj e => hj.2 (.inr (.inr e)))).fr fW11 (fun j hj e => hj.2 (.inr (.inl e))))
        have IV11 := Lib.hid ((hiv9.fr fW10 (fun j hj e => hj.2 (.inr (.inl (.inr e))))).fr fW11 (fun j hj e => hj.2 (.inr (.inl (.inl e)))))
        obtain ⟨⟨so, sc, rfl⟩, _⟩ := hr9.form
        have M11 := Lib.hid hM11
        have N11 := Lib.hid n11
        have HE := Lib.hid (And.intro hT1 hT2)
        have hTa : Turns col a := ⟨by rw [hM11.lk.own]; omega, by rw [hM11.lk.own]; omega⟩
        have hab : b7 ≠ a := fun e => by
          have h1 := (hM11.out b7 (.inl (.inl rfl))).2
          have h2 := hM11.lk.own
          rw [e] at h1
          omega
        have hga : w.heap.size ≤ a := turns_ge hM11.lk a hTa
        have HLO := lout_any w.heap.size col W11 a sg rg po pi T hM11.lk
        clear hM11 n11 fW11 hW11 hM10 n10 fW10 hW10 hz10 Z10 N10 hiv9 hk9 hr9 hb9 HI OV8 B8 M8 N8 K8 N7 hT1 hT2
        go_wp2_with fail
        refine HLO.mono ?_
        rintro e W12 ⟨rfl, hW12⟩
        have hM12 := M11.out.outed
        have OV12 := OV11.out.fr (fr_cell W11 a 13 (.slice none 0 0)) (fun j hj e => hj.2 (.inl (by rw [e]; exact hTa)))
        have IV12 := IV11.out.fr (fr_cell W11 a 13 (.slice none 0 0)) (fun j hj e => hj.2 (.inl (by rw [e]; exact hTa)))
        have CS12 := M11.out.sent HT.out.out
        have n12 := (fr_cell W11 a 13 (.slice none 0 0)).get N11.out hab
        have bl12 : Below w.heap.size w (W11.setCell ⟨a, 13, none⟩ (.slice none 0 0)) := BL11.out.trans (fr_bl (fr_cell W11 a 13 (.slice none 0 0)) (fun j hj => by rw [hj]; exact hga) BL11.out.size)
        rw [← hW12] at hM12 OV12 IV12 CS12 n12 bl12
        have HSM := r9same_any _ _ _ _ _ W12 CS12 OV12
        clear CS12 OV12 OV11 IV11 BL11 N11 HLO hW12
        go_wp2_with fail
        refine HSM.mono ?_
        rintro e W13 ⟨rfl, hb13⟩
        have hM13 := hM12.below hb13
        have IV13 := IV12.below hb13
        have n13 := bl_get hb13 n12
        have bl13 := bl_trans bl12 hb13
        have HLI := lin_any w.heap.size _ W13 a sg rg _ pi _ hM13.lk
        clear hM12 IV12 n12 bl12 HSM hb13
        have M13 := Lib.hid hM13
        have I13 := Lib.hid IV13
        have N13 := Lib.hid n13
        have B13 := Lib.hid bl13
        clear hM13 IV13 n13 bl13 M11
        go_wp2_with fail
        refine HLI.mono ?_
        rintro e W14 ⟨rfl, hW14⟩
        have hM14 := M13.out.inned
        have IV14 := I13.out.fr (fr_cell W13 a 14 (.slice none 0 0)) (fun j hj e => hj.2 (.inl (by rw [e]; exact hTa)))
        have LP14 := M13.out.came HT.out.inn
        have n14 := (fr_cell W13 a 14 (.slice none 0 0)).get N13.out hab
        have bl14 : Below w.heap.size w (W13.setCell ⟨a, 14, none⟩ (.slice none 0 0)) := B13.out.trans (fr_bl (fr_cell W13 a 14 (.slice none 0 0)) (fun j hj => by rw [hj]; exact hga) B13.out.size)
        have hin : T1.inn = T.inn := by rw [← HE.out.1]
        rw [hin] at IV14
        rw [← hW14] at hM14 IV14 LP14 n14 bl14
        have HSL := same03_eq _ _ _ W14 LP14 (Lst.of_pays IV14)
        clear LP14 IV14 I13 M13 N13 B13 HLI hW14 hin
        go_wp2_with fail
        refine HSL.mono ?_
        rintro e W15 ⟨rfl, hb15⟩
        have hM15 := hM14.below hb15
        have n15 := bl_get hb15 n14
        have bl15 := bl_trans bl14 hb15
        have e2 : ({ { T with out := [] } with inn := [] } : Lk) = T2 := by rw [← HE.out.2, ← HE.out.1]
        rw [e2] at hM15
        have ok2 := emptied_ok HT.out
        have e3 : ({ T with out := [], inn := [] } : Lk) = T2 := e2
        rw [e3] at ok2
        have q1 : T2.out.length ≤ 10 ∧ T2.inn.length ≤ 10 := by rw [← e2]; exact ⟨by show (0 : Nat) ≤ _; omega, by show (0 : Nat) ≤ _; omega⟩
        have hM16 := hM15.below (bl_drew (bl_refl W15))
        have n16 := bl_get (bl_drew (bl_refl W15)) n15
        have HU := lup_any _ _ _ _ _ _ _ _ _ hM16.lk
        have HM := lme_any _ _ _ _ _ _ _ _ _ hM16.lk
        have HP := lpeer_any _ _ _ _ _ _ _ _ _ hM16.lk
        have HRS := lresets_any w.heap.size _ _ _ _ _ _ _ _ hM16.lk
        have HPD := lpending_any _ _ _ _ _ _ _ _ _ hM16.lk
        have HIN : Hid (Playing w b7 a sg rg (i + 1) W15.drew) := ⟨⟨_, _, _, _, _, T2, (hM16.less fun j hj => .inl (.inl hj)).beside, ok2, q1.1, q1.2, n16⟩, bl_drew bl15, HG.out.1⟩
        clear hM14 n14 bl14 HSL hb15 hM15 bl15 e2 e3 ok2 q1 hM16 HT HE HG
        go_wp2_with fail
        refine wp_region_order (fun w' => w'.heap[b7]? = some (.cells (Lk.ref T2 (.slice so T2.s.ps.length sc) rl9 ra9 ov9 iv9) 38 (0, 0)))
          [(0, 0), (2, 0), (3, 1), (1, 2), (4, 0), (5, 0), (6, 0), (8, 0), (9, 1), (7, 2), (10, 0), (11, 0), (12, 0), (13, 0), (15, 0), (16, 1), (14, 2), (17, 0), (18, 0), (19, 0), (20, 0), (22, 0), (23, 1), (21, 2), (24, 0), (25, 0), (26, 0), (27, 0), (29, 0), (30, 0), (31, 1), (32, 0), (28, 2), (33, 0)] [(34, true)] [34] []
          (by kernel_rfl) (fun _ _ d _ _ h => by cases d <;> exact h) (by decide +kernel) n16 ?_
        refine wpHead_free (v := ?_) rfl (by kernel_rfl) ?_ ?_
        rotate_left
        focus (intro w1; go_simp; try with_reducible rfl)
        simp only [Act.put, List.setIfInBounds_toArray]
        refine wpHead_free (v := ?_) rfl (by kernel_rfl) ?_ ?_
        rotate_left
        focus (intro w1; go_simp; try with_reducible rfl)
        simp only [Act.put]
        refine wpHead_take (v := .bool T2.up) rfl (by kernel_rfl) ?_ ?_
        focus
          intro w1 q1
          have q2 : w1.cell? ⟨b7, 2, none⟩ = some (.bool T2.up) := by rw [cell_of_row _ _ _ _ _ _ q1]; rfl
          go_simp
          try with_reducible rfl
        simp only [Act.put]
        refine wpHead_step rfl (by kernel_rfl) (fun K hK => ?_)
        go_simp; go_at_call 14
        refine HU.mono ?_; rintro e WW ⟨rfl, rfl⟩; simp only []
        refine hK.out _ _ n16 ?_
        clear hK K
        try simp only [Act.put, List.setIfInBounds_toArray]
        refine wpHead_free (v := .bool false) rfl (by kernel_rfl) ?_ ?_
        focus (intro w1; go_simp; try with_reducible rfl)
        simp only [Act.put]
        refine wpHead_free (v := .bool false) rfl (by kernel_rfl) ?_ ?_
        focus (intro w1; go_simp; try with_reducible rfl)
        simp only [Act.put]
        iterate 2
          refine wpHead_free (v := ?_) rfl (by kernel_rfl) ?_ ?_
          rotate_left
          focus (intro w1; go_simp; try with_reducible rfl)
          simp only [Act.put]
        refine wpHead_take (v := .int .i64 T2.me) rfl (by kernel_rfl) ?_ ?_
        focus
          intro w1 q1
          have q2 : w1.cell? ⟨b7, 0, none⟩ = some (.int .i64 T2.me) := by rw [cell_of_row _ _ _ _ _ _ q1]; rfl
          go_simp
          try with_reducible rfl
        simp only [Act.put]
        refine wpHead_step rfl (by kernel_rfl) (fun K hK => ?_)
        go_simp; go_at_call 15
        refine HM.mono ?_; rintro e WW ⟨rfl, rfl⟩; simp only []
        refine hK.out _ _ n16 ?_
        clear hK K
        try simp only [Act.put, List.setIfInBounds_toArray]
        refine wpHead_free (v := .bool false) rfl (by kernel_rfl) ?_ ?_
        focus (intro w1; go_simp; try with_reducible rfl)
        simp only [Act.put]
        refine wpHead_free (v := .bool false) rfl (by kernel_rfl) ?_ ?_
        focus (intro w1; go_simp; try with_reducible rfl)
        simp only [Act.put]
        refine wpHead_free (v := .bool false) rfl (by kernel_rfl) ?_ ?_
        focus (intro w1; go_simp; try with_reducible rfl)
        simp only [Act.put]
        iterate 2
          refine wpHead_free (v := ?_) rfl (by kernel_rfl) ?_ ?_
          rotate_left
          focus (intro w1; go_simp; try with_reducible rfl)
          simp only [Act.put]
        refine wpHead_take (v := .int .i64 T2.peer) rfl (by kernel_rfl) ?_ ?_
        focus
          intro w1 q1
          have q2 : w1.cell? ⟨b7, 1, none⟩ = some (.int .i64 T2.peer) := by rw [cell_of_row _ _ _ _ _ _ q1]; rfl
          go_simp
          try with_reducible rfl
        simp only [Act.put]
        refine wpHead_step rfl (by kernel_rfl) (fun K hK => ?_)
        go_simp; go_at_call 16
        refine HP.mono ?_; rintro e WW ⟨rfl, rfl⟩; simp only []
        refine hK.out _ _ n16 ?_
        clear hK K
        try simp only [Act.put, List.setIfInBounds_toArray]
        refine wpHead_free (v := .bool false) rfl (by kernel_rfl) ?_ ?_
        focus (intro w1; go_simp; try with_reducible rfl)
        simp only [Act.put]
        refine wpHead_free (v := .bool false) rfl (by kernel_rfl) ?_ ?_
        focus (intro w1; go_simp; try with_reducible rfl)
        simp only [Act.put]
        refine wpHead_free (v := .bool false) rfl (by kernel_rfl) ?_ ?_
        focus (intro w1; go_simp; try with_reducible rfl)
        simp only [Act.put]
        iterate 2
          refine wpHead_free (v := ?_) rfl (by kernel_rfl) ?_ ?_
          rotate_left
          focus (intro w1; go_simp; try with_reducible rfl)
          simp only [Act.put]
        refine wpHead_take (v := .int .i64 T2.resets) rfl (by kernel_rfl) ?_ ?_
        focus
          intro w1 q1
          have q2 : w1.cell? ⟨b7, 7, none⟩ = some (.int .i64 T2.resets) := by rw [cell_of_row _ _ _ _ _ _ q1]; rfl
          go_simp
          try with_reducible rfl
        simp only [Act.put]
        refine wpHead_step rfl (by kernel_rfl) (fun K hK => ?_)
        go_simp; go_at_call 17
        refine HRS.mono ?_; rintro e WW ⟨rfl, rfl⟩; simp only []
        refine hK.out _ _ n16 ?_
        clear hK K
        try simp only [Act.put, List.setIfInBounds_toArray]
        refine wpHead_free (v := .bool false) rfl (by kernel_rfl) ?_ ?_
        focus (intro w1; go_simp; try with_reducible rfl)
        simp only [Act.put]
        refine wpHead_free (v := .bool false) rfl (by kernel_rfl) ?_ ?_
        focus (intro w1; go_simp; try with_reducible rfl)
        simp only [Act.put]
        refine wpHead_free (v := .bool false) rfl (by kernel_rfl) ?_ ?_
        focus (intro w1; go_simp; try with_reducible rfl)
        simp only [Act.put]
        iterate 3
          refine wpHead_free (v := ?_) rfl (by kernel_rfl) ?_ ?_
          rotate_left
          focus (intro w1; go_simp; try with_reducible rfl)
          simp only [Act.put]
        refine wpHead_take (v := .slice so T2.s.ps.length sc) rfl (by kernel_rfl) ?_ ?_
        focus
          intro w1 q1
          have q2 : w1.cell? ⟨b7, 12, none⟩ = some (.slice so T2.s.ps.length sc) := by rw [cell_of_row _ _ _ _ _ _ q1]; rfl
          go_simp
          try with_reducible rfl
        simp only [Act.put]
        refine wpHead_free (v := .int .i64 T2.s.ps.length) rfl (by kernel_rfl) ?_ ?_
        focus (intro w1; go_simp; try with_reducible rfl)
        simp only [Act.put]
        refine wpHead_step rfl (by kernel_rfl) (fun K hK => ?_)
        go_simp; go_at_call 18
        refine HPD.mono ?_; rintro e WW ⟨rfl, rfl⟩; simp only []
        refine hK.out _ _ n16 ?_
        clear hK K
        try simp only [Act.put, List.setIfInBounds_toArray]
        refine wpHead_free (v := .bool false) rfl (by kernel_rfl) ?_ ?_
        focus (intro w1; go_simp; try with_reducible rfl)
        simp only [Act.put]
        refine wpHead_nil ?_
        refine wpTail_free (v := .bool false) rfl (by kernel_rfl) ?_ ?_
        focus (intro w1; go_simp; try with_reducible rfl)
        simp only [Act.put, List.getElem_toArray, List.getElem_cons_zero, List.getElem_cons_succ, List.setIfInBounds_toArray]
        refine wpTail_nil ?_
        clear n15 n16 HU HM HP HRS HPD
        go_wp2
        go_roundw
        case rel => exact ⟨i + 1, by go_num, by omega, by omega, HIN⟩
        case measure => simp [intOf]; omega
    · have HAW := Lib.hid (awake9_any wr)
      have HBL := Lib.hid HI.out.bl
      by_cases hll : i < l.length
      · have hii : i = 100 := by omega
        subst hii
        go_wp2_with fail
        refine HAW.out.mono ?_
        rintro e w5 ⟨rfl, hb5⟩
        go_wp2
        go_ret
        exact ⟨rfl, bl_trans HBL.out hb5⟩
      · obtain rfl : i = l.length := by omega
        go_wp2_with fail
        refine HAW.out.mono ?_
        rintro e w5 ⟨rfl, hb5⟩
        go_wp2
        go_ret
        exact ⟨rfl, bl_trans HBL.out hb5⟩

theorem walkLinkPlays (a0 : Int) (_ : (Lit.int .i64 a0).wf = true) (a1 : Int) (_ : (Lit.int .i64 a1).wf = true) (a2 : Int) (_ : (Lit.int .i64 a2).wf = true) (a3 : Int) (_ : (Lit.int .i64 a3).wf = true) (v : Value) (l : List ActL) {w : World} (hl : Acts9 w.heap.size w v l) :
    Calls Tryz.prog 3 #[.agg #[.int .i64 a0, .int .i64 a1, .int .i64 a2, .int .i64 a3], v] w fun e w' => e = .returned (.bool true) ∧ Below w.heap.size w w' := by
  by_cases h : setOk a0 a1 a2 a3
  · obtain ⟨s, hs, rfl, rfl, rfl, rfl⟩ := St.of9 h
    exact lplays_ok s hs v l w hl
  · exact lplays_bad a0 a1 a2 a3 v h w

end Go.Proofs.YthmdibagcbbgoaaGreat
