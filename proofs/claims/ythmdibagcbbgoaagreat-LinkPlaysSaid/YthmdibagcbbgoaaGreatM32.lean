/- portageref09.New, portagelaw09.right. Conditions: as they stand. -/
import Derived.Laws.ResultCell
import Derived.Test.YthmdibagcbbgoaaGreatM31
namespace Go.Proofs.YthmdibagcbbgoaaGreat
open Go.RowKit

set_option maxRecDepth 100000 in
theorem r97_ok (size : Int) (h1 : 1 ≤ size) (h2 : size ≤ 63) (w : World) : Calls Tryz.prog 22 #[.int .i64 size] w fun e w' => e = .returned (.tuple #[.agg #[.int .i64 size, .int .i64 0, .slice none 0 0, .int .i64 0], .int .i64 0]) ∧ Below w.heap.size w w' := by
  go_enter Tryz.func22, Tryz.ntmps22
  go_wp2
  go_returns
  exact ⟨rfl, bl_alloc (bl_refl w) _⟩

set_option maxRecDepth 100000 in
theorem r97_bad (size : Int) (h : size < 1 ∨ 63 < size) (w : World) : Calls Tryz.prog 22 #[.int .i64 size] w fun e w' => e = .returned (.tuple #[.agg #[.int .i64 0, .int .i64 0, .slice none 0 0, .int .i64 0], .int .i64 1]) ∧ Below w.heap.size w w' := by
  rcases h with h | h
  · go_enter Tryz.func22, Tryz.ntmps22
    go_wp2
    go_returns
    exact ⟨rfl, bl_alloc (bl_refl w) _⟩
  · have h1 : ¬ size < 1 := by omega
    go_enter Tryz.func22, Tryz.ntmps22
    go_wp2
    go_returns
    exact ⟨rfl, bl_alloc (bl_refl w) _⟩

set_option maxRecDepth 100000 in
theorem r98_ok (size : Int) (h1 : 1 ≤ size) (h2 : size ≤ 63) (w : World) : Calls Tryz.prog 23 #[.int .i64 size] w fun e w' => e = .returned (.tuple #[.agg #[.int .i64 size, .int .i64 0, .slice none 0 0, .slice none 0 0], .int .i64 0]) ∧ Below w.heap.size w w' := by
  go_enter Tryz.func23, Tryz.ntmps23
  go_wp2
  go_returns
  exact ⟨rfl, bl_alloc (bl_refl w) _⟩

set_option maxRecDepth 100000 in
theorem r98_bad (size : Int) (h : size < 1 ∨ 63 < size) (w : World) : Calls Tryz.prog 23 #[.int .i64 size] w fun e w' => e = .returned (.tuple #[.agg #[.int .i64 0, .int .i64 0, .slice none 0 0, .slice none 0 0], .int .i64 1]) ∧ Below w.heap.size w w' := by
  rcases h with h | h
  · go_enter Tryz.func23, Tryz.ntmps23
    go_wp2
    go_returns
    exact ⟨rfl, bl_alloc (bl_refl w) _⟩
  · have h1 : ¬ size < 1 := by omega
    go_enter Tryz.func23, Tryz.ntmps23
    go_wp2
    go_returns
    exact ⟨rfl, bl_alloc (bl_refl w) _⟩

set_option maxRecDepth 100000 in
theorem number9 (n lo hi : Int) (w : World) : Calls Tryz.prog 24 #[.int .i64 n, .int .i64 lo, .int .i64 hi] w fun e w' => e = .returned (.bool (decide (lo ≤ n) && decide (n ≤ hi))) ∧ w = w' := by
  by_cases h : lo ≤ n
  · go_enter Tryz.func24, Tryz.ntmps24
    go_wp2
    go_ret
    exact ⟨ret_bool (by rw [decide_eq_true h]; rfl), rfl⟩
  · go_enter Tryz.func24, Tryz.ntmps24
    go_wp2
    go_ret
    exact ⟨ret_bool (by rw [decide_eq_false (by omega)]; rfl), rfl⟩
theorem number_yes {n lo hi : Int} (h1 : lo ≤ n) (h2 : n ≤ hi) (w : World) : Calls Tryz.prog 24 #[.int .i64 n, .int .i64 lo, .int .i64 hi] w fun e w' => e = .returned (.bool true) ∧ w = w' := by
  have := number9 n lo hi w
  rw [decide_eq_true h1, decide_eq_true h2] at this
  exact this
theorem number_no {n lo hi : Int} (h : ¬ (lo ≤ n ∧ n ≤ hi)) (w : World) : Calls Tryz.prog 24 #[.int .i64 n, .int .i64 lo, .int .i64 hi] w fun e w' => e = .returned (.bool false) ∧ w = w' := by
  have h9 := number9 n lo hi w
  have : (decide (lo ≤ n) && decide (n ≤ hi)) = false := by simp; omega
  rw [this] at h9
  exact h9

theorem infoS7 : (Tryz.prog.info? 31).map (·.size) = some 4 := by kernel_rfl
theorem infoR8 : (Tryz.prog.info? 35).map (·.size) = some 4 := by kernel_rfl
theorem results_tmp_row {P : Program} {fn : Func} {p u : Tmp} {ty : TypeId} (h : fn.results = #[.cell p ty, .tmp u]) (tmps : Array Value) (w : World) (g : Nat) (t : TypeId) (cs : Array Value) (fr : Nat × Nat) (d : TypeDesc)
    (hp : tmps.getD p undef = .pointer (some ⟨g, 0, none⟩)) (hg : w.heap[g]? = some (.cells cs t fr))
    (hu : P.underlying ty = some d) (hd : (match d with | .struct _ | .array _ _ => true | _ => false) = true) (hi : (P.info? ty).map (·.size) = some cs.size) :
    (results fn tmps).run P w = .ok (.tuple #[.agg cs, tmps.getD u undef]) w := by
  rw [results_cell_tmp h, hp]
  simp [asAddr, Result.andThen, run_loadVar_row w g t ty cs fr d hg hu hd hi]
theorem alloc_named (w : World) (cs : Array Value) (t : TypeId) : ∃ w1, w.alloc (.cells cs t) = w1 ∧ Below w.heap.size w w1 ∧ w1.heap[w.heap.size]? = some (.cells cs t (0, 0)) := ⟨_, rfl, bl_alloc (bl_refl w) _, heap_alloc_new w _⟩

set_option maxRecDepth 100000 in
set_option maxHeartbeats 4000000 in
theorem r9new_ok (me size timer tries : Int) (h : setOk me size timer tries) (w : World) :
    Calls Tryz.prog 5 #[.int .i64 me, .int .i64 size, .int .i64 timer, .int .i64 tries] w fun e w' => (∃ oo oc, e = .returned (.tuple #[.agg #[.int .i64 me, .int .i64 (-1), .bool false, .int .i64 timer, .int .i64 tries, .int .i64 timer, .int .i64 0, .int .i64 0, .bool false, .bool false, .int .i64 size, .int .i64 0, .slice none 0 0, .int .i64 0, .int .i64 size, .int .i64 0, .slice none 0 0, .slice none 0 0, .slice oo 1 oc, .slice none 0 0], .int .i64 0])) ∧ Below w.heap.size w w' := by
  obtain ⟨g1, g2, g3, g4, g5, g6, g7, g8⟩ := h
  obtain ⟨w1, hw1, hb1, x0⟩ := alloc_named w #[.int .i64 0, .int .i64 0, .bool false, .int .i64 0, .int .i64 0, .int .i64 0, .int .i64 0, .int .i64 0, .bool false, .bool false, .int .i64 0, .int .i64 0, .slice none 0 0, .int .i64 0, .int .i64 0, .int .i64 0, .slice none 0 0, .slice none 0 0, .slice none 0 0, .slice none 0 0] 38
  have H7 := r97_ok size g7 g8 w1
  have X0 := Lib.hid x0
  have HB1 := Lib.hid hb1
  clear x0 hb1
  go_enter Tryz.func5, Tryz.ntmps5
  go_wp2_with fail
  try simp only [hw1]
  refine H7.mono ?_
  rintro e w2 ⟨rfl, hb2⟩
  obtain ⟨wA, hwA, hbA, yA⟩ := alloc_named w2 #[.int .i64 0, .int .i64 0, .slice none 0 0, .int .i64 0] 31
  have y3 := setRow_heap wA w2.heap.size _ #[.int .i64 size, .int .i64 0, .slice none 0 0, .int .i64 0] _ _ yA
  have f3 := fr_row wA w2.heap.size #[.int .i64 size, .int .i64 0, .slice none 0 0, .int .i64 0]
  obtain ⟨w3, hw3⟩ : ∃ w3, wA.setRow w2.heap.size #[.int .i64 size, .int .i64 0, .slice none 0 0, .int .i64 0] = w3 := ⟨_, rfl⟩
  rw [hw3] at y3 f3
  have hlt := lt_of_get X0.out
  have hb3 : Below w1.heap.size w1 w3 := bl_fr (bl_trans hb2 hbA) f3 (fun k hk => by have := hb2.size; omega)
  have H8 := r98_ok size g7 g8 w3
  have YA := Lib.hid yA
  have X3 := Lib.hid (bl_get hb3 X0.out)
  have Y3 := Lib.hid y3
  have HB3 : Hid (Below w.heap.size w w3) := bl_trans HB1.out hb3
  clear hb2 hbA hb3 H7 HB1 yA y3 f3 hlt
  go_wp2_with (refine wpList_store_row rfl 31 (.tmp 10) (.tmp 18) rfl w2.heap.size #[.int .i64 size, .int .i64 0, .slice none 0 0, .int .i64 0] rfl rfl 31 #[.int .i64 0, .int .i64 0, .slice none 0 0, .int .i64 0] (by first | exact YA.out | (rw [hwA]; exact YA.out)) infoS7 rfl (by simp [Value.oneCell']) ?_; (try rw [hwA]); (try rw [hw3]))
  refine H8.mono ?_
  rintro e w4 ⟨rfl, hb4⟩
  obtain ⟨wB, hwB, hbB, yB⟩ := alloc_named w4 #[.int .i64 0, .int .i64 0, .slice none 0 0, .slice none 0 0] 35
  have y5 := setRow_heap wB w4.heap.size _ #[.int .i64 size, .int .i64 0, .slice none 0 0, .slice none 0 0] _ _ yB
  have f5 := fr_row wB w4.heap.size #[.int .i64 size, .int .i64 0, .slice none 0 0, .slice none 0 0]
  obtain ⟨w5, hw5⟩ : ∃ w5, wB.setRow w4.heap.size #[.int .i64 size, .int .i64 0, .slice none 0 0, .slice none 0 0] = w5 := ⟨_, rfl⟩
  rw [hw5] at y5 f5
  have hlt := lt_of_get Y3.out
  have hb5 : Below w3.heap.size w3 w5 := bl_fr (bl_trans hb4 hbB) f5 (fun k hk => by have := hb4.size; omega)
  have YB := Lib.hid yB
  have X5 := Lib.hid (bl_get hb5 X3.out)
  have Y5 := Lib.hid (bl_get hb5 Y3.out)
  have U5 := Lib.hid y5
  have HB5 : Hid (Below w.heap.size w w5) := bl_trans HB3.out hb5
  clear hb4 hbB hb5 H8 HB3 yB y5 f5 hlt X3 Y3
  go_wp2_with (refine wpList_store_row rfl 35 (.tmp 12) (.tmp 23) rfl w4.heap.size #[.int .i64 size, .int .i64 0, .slice none 0 0, .slice none 0 0] rfl rfl 35 #[.int .i64 0, .int .i64 0, .slice none 0 0, .slice none 0 0] (by first | exact YB.out | (rw [hwB]; exact YB.out)) infoR8 rfl (by simp [Value.oneCell']) ?_; (try rw [hwB]); (try rw [hw5]))
  refine (number_yes g1 g2 _).mono ?_
  rintro e w6 ⟨rfl, rfl⟩
  go_wp2_with fail
  refine (number_yes g3 g4 _).mono ?_
  rintro e w6 ⟨rfl, rfl⟩
  go_wp2_with fail
  refine (number_yes g5 g6 _).mono ?_
  rintro e w6 ⟨rfl, rfl⟩
  obtain ⟨wC, hwC, hbC, yC⟩ := alloc_named w5 #[.int .i64 0, .int .i64 0, .bool false, .int .i64 0, .int .i64 0, .int .i64 0, .int .i64 0, .int .i64 0, .bool false, .bool false, .int .i64 0, .int .i64 0, .slice none 0 0, .int .i64 0, .int .i64 0, .int .i64 0, .slice none 0 0, .slice none 0 0, .slice none 0 0, .slice none 0 0] 38
  have y6 := setRow_heap wC w5.heap.size _ #[.int .i64 me, .int .i64 (-1), .bool false, .int .i64 timer, .int .i64 tries, .int .i64 0, .int .i64 0, .int .i64 0, .bool false, .bool false, .int .i64 size, .int .i64 0, .slice none 0 0, .int .i64 0, .int .i64 size, .int .i64 0, .slice none 0 0, .slice none 0 0, .slice none 0 0, .slice none 0 0] _ _ yC
  have f6 := fr_row wC w5.heap.size #[.int .i64 me, .int .i64 (-1), .bool false, .int .i64 timer, .int .i64 tries, .int .i64 0, .int .i64 0, .int .i64 0, .bool false, .bool false, .int .i64 size, .int .i64 0, .slice none 0 0, .int .i64 0, .int .i64 size, .int .i64 0, .slice none 0 0, .slice none 0 0, .slice none 0 0, .slice none 0 0]
  obtain ⟨w6, hw6⟩ : ∃ w6, wC.setRow w5.heap.size #[.int .i64 me, .int .i64 (-1), .bool false, .int .i64 timer, .int .i64 tries, .int .i64 0, .int .i64 0, .int .i64 0, .bool false, .bool false, .int .i64 size, .int .i64 0, .slice none 0 0, .int .i64 0, .int .i64 size, .int .i64 0, .slice none 0 0, .slice none 0 0, .slice none 0 0, .slice none 0 0] = w6 := ⟨_, rfl⟩
  rw [hw6] at y6 f6
  have hb6 : Below w5.heap.size w5 w6 := bl_fr hbC f6 (fun k hk => by omega)
  have HS := r9setup_new me timer tries size w6
  have YC := Lib.hid yC
  have Y6 := Lib.hid y6
  have X6 := Lib.hid (bl_get hb6 X5.out)
  have HB6 : Hid (Below w.heap.size w w6) := bl_trans HB5.out hb6
  clear hbC hb6 yC y6 f6
  go_wp2_with (first | (refine wpList_load_row rfl 31 (.tmp 10) rfl w2.heap.size rfl 31 #[.int .i64 size, .int .i64 0, .slice none 0 0, .int .i64 0] (0, 0) _ Y5.out Tryz.underlying31 rfl infoS7 ?_) | (refine wpList_load_row rfl 35 (.tmp 12) rfl w4.heap.size rfl 35 #[.int .i64 size, .int .i64 0, .slice none 0 0, .slice none 0 0] (0, 0) _ U5.out Tryz.underlying35 rfl infoR8 ?_) | (refine wpList_store_row rfl 38 (.tmp 14) (.tmp 48) rfl w5.heap.size #[.int .i64 me, .int .i64 (-1), .bool false, .int .i64 timer, .int .i64 tries, .int .i64 0, .int .i64 0, .int .i64 0, .bool false, .bool false, .int .i64 size, .int .i64 0, .slice none 0 0, .int .i64 0, .int .i64 size, .int .i64 0, .slice none 0 0, .slice none 0 0, .slice none 0 0, .slice none 0 0] rfl rfl 38 #[.int .i64 0, .int .i64 0, .bool false, .int .i64 0, .int .i64 0, .int .i64 0, .int .i64 0, .int .i64 0, .bool false, .bool false, .int .i64 0, .int .i64 0, .slice none 0 0, .int .i64 0, .int .i64 0, .int .i64 0, .slice none 0 0, .slice none 0 0, .slice none 0 0, .slice none 0 0] (by first | exact YC.out | (rw [hwC]; exact YC.out)) infoLink9 rfl (by simp [Value.oneCell']) ?_; (try rw [hwC]); (try rw [hw6])) | (refine wpList_load_row rfl 38 (.tmp 14) rfl w5.heap.size rfl 38 #[.int .i64 me, .int .i64 (-1), .bool false, .int .i64 timer, .int .i64 tries, .int .i64 0, .int .i64 0, .int .i64 0, .bool false, .bool false, .int .i64 size, .int .i64 0, .slice none 0 0, .int .i64 0, .int .i64 size, .int .i64 0, .slice none 0 0, .slice none 0 0, .slice none 0 0, .slice none 0 0] (0, 0) _ Y6.out Tryz.underlying38 rfl infoLink9 ?_))
  refine HS.mono ?_
  rintro e w7 ⟨⟨oo, oc, rfl⟩, hb7⟩
  have X7 := Lib.hid (bl_get hb7 X6.out)
  have HB7 : Hid (Below w.heap.size w w7) := bl_trans HB6.out hb7
  clear hb7 HS X6 HB6
  go_wp2_with (refine wpList_store_row rfl 38 (.tmp 8) (.tmp 50) rfl w.heap.size #[.int .i64 me, .int .i64 (-1), .bool false, .int .i64 timer, .int .i64 tries, .int .i64 timer, .int .i64 0, .int .i64 0, .bool false, .bool false, .int .i64 size, .int .i64 0, .slice none 0 0, .int .i64 0, .int .i64 size, .int .i64 0, .slice none 0 0, .slice none 0 0, .slice oo 1 oc, .slice none 0 0] rfl rfl 38 #[.int .i64 0, .int .i64 0, .bool false, .int .i64 0, .int .i64 0, .int .i64 0, .int .i64 0, .int .i64 0, .bool false, .bool false, .int .i64 0, .int .i64 0, .slice none 0 0, .int .i64 0, .int .i64 0, .int .i64 0, .slice none 0 0, .slice none 0 0, .slice none 0 0, .slice none 0 0] X7.out infoLink9 rfl (by simp [Value.oneCell']) ?_)
  have hrow := setRow_heap w7 w.heap.size _ #[.int .i64 me, .int .i64 (-1), .bool false, .int .i64 timer, .int .i64 tries, .int .i64 timer, .int .i64 0, .int .i64 0, .bool false, .bool false, .int .i64 size, .int .i64 0, .slice none 0 0, .int .i64 0, .int .i64 size, .int .i64 0, .slice none 0 0, .slice none 0 0, .slice oo 1 oc, .slice none 0 0] _ _ X7.out
  refine bodyPost_ret (results_tmp_row rfl _ _ w.heap.size 38 #[.int .i64 me, .int .i64 (-1), .bool false, .int .i64 timer, .int .i64 tries, .int .i64 timer, .int .i64 0, .int .i64 0, .bool false, .bool false, .int .i64 size, .int .i64 0, .slice none 0 0, .int .i64 0, .int .i64 size, .int .i64 0, .slice none 0 0, .slice none 0 0, .slice oo 1 oc, .slice none 0 0] (0, 0) _ rfl hrow Tryz.underlying38 rfl infoLink9) rfl ?_
  exact ⟨⟨_, _, rfl⟩, bl_fr HB7.out (fr_row w7 w.heap.size #[.int .i64 me, .int .i64 (-1), .bool false, .int .i64 timer, .int .i64 tries, .int .i64 timer, .int .i64 0, .int .i64 0, .bool false, .bool false, .int .i64 size, .int .i64 0, .slice none 0 0, .int .i64 0, .int .i64 size, .int .i64 0, .slice none 0 0, .slice none 0 0, .slice oo 1 oc, .slice none 0 0]) (fun k hk => by omega)⟩

set_option maxRecDepth 100000 in
set_option maxHeartbeats 8000000 in
theorem r9new_bad (me size timer tries : Int) (h : ¬ setOk me size timer tries) (w : World) :
    Calls Tryz.prog 5 #[.int .i64 me, .int .i64 size, .int .i64 timer, .int .i64 tries] w fun e w' => e = .returned (.tuple #[.agg #[.int .i64 0, .int .i64 0, .bool false, .int .i64 0, .int .i64 0, .int .i64 0, .int .i64 0, .int .i64 0, .bool false, .bool false, .int .i64 0, .int .i64 0, .slice none 0 0, .int .i64 0, .int .i64 0, .int .i64 0, .slice none 0 0, .slice none 0 0, .slice none 0 0, .slice none 0 0], .int .i64 1]) ∧ Below w.heap.size w w' := by
  by_cases hs : 1 ≤ size ∧ size ≤ 63
  · obtain ⟨g7, g8⟩ := hs
    by_cases n1 : 0 ≤ me ∧ me ≤ 65535
    · by_cases n2 : 1 ≤ timer ∧ timer ≤ 64
      · have n3 : ¬ (1 ≤ tries ∧ tries ≤ 64) := fun n3 => h ⟨n1.1, n1.2, n2.1, n2.2, n3.1, n3.2, g7, g8⟩
        clear h
        obtain ⟨w1, hw1, hb1, x0⟩ := alloc_named w #[.int .i64 0, .int .i64 0, .bool false, .int .i64 0, .int .i64 0, .int .i64 0, .int .i64 0, .int .i64 0, .bool false, .bool false, .int .i64 0, .int .i64 0, .slice none 0 0, .int .i64 0, .int .i64 0, .int .i64 0, .slice none 0 0, .slice none 0 0, .slice none 0 0, .slice none 0 0] 38
        have H7 := r97_ok size g7 g8 w1
        have X0 := Lib.hid x0
        have HB1 := Lib.hid hb1
        clear x0 hb1
        go_enter Tryz.func5, Tryz.ntmps5
        go_wp2_with fail
        try simp only [hw1]
        refine H7.mono ?_
        rintro e w2 ⟨rfl, hb2⟩
        obtain ⟨wA, hwA, hbA, yA⟩ := alloc_named w2 #[.int .i64 0, .int .i64 0, .slice none 0 0, .int .i64 0] 31
        have y3 := setRow_heap wA w2.heap.size _ #[.int .i64 size, .int .i64 0, .slice none 0 0, .int .i64 0] _ _ yA
        have f3 := fr_row wA w2.heap.size #[.int .i64 size, .int .i64 0, .slice none 0 0, .int .i64 0]
        obtain ⟨w3, hw3⟩ : ∃ w3, wA.setRow w2.heap.size #[.int .i64 size, .int .i64 0, .slice none 0 0, .int .i64 0] = w3 := ⟨_, rfl⟩
        rw [hw3] at y3 f3
        have hlt := lt_of_get X0.out
        have hb3 : Below w1.heap.size w1 w3 := bl_fr (bl_trans hb2 hbA) f3 (fun k hk => by have := hb2.size; omega)
        have H8 := r98_ok size g7 g8 w3
        have YA := Lib.hid yA
        have X3 := Lib.hid (bl_get hb3 X0.out)
        have Y3 := Lib.hid y3
        have HB3 : Hid (Below w.heap.size w w3) := bl_trans HB1.out hb3
        clear hb2 hbA hb3 H7 HB1 yA y3 f3 hlt
        go_wp2_with (refine wpList_store_row rfl 31 (.tmp 10) (.tmp 18) rfl w2.heap.size #[.int .i64 size, .int .i64 0, .slice none 0 0, .int .i64 0] rfl rfl 31 #[.int .i64 0, .int .i64 0, .slice none 0 0, .int .i64 0] (by first | exact YA.out | (rw [hwA]; exact YA.out)) infoS7 rfl (by simp [Value.oneCell']) ?_; (try rw [hwA]); (try rw [hw3]))
        refine H8.mono ?_
        rintro e w4 ⟨rfl, hb4⟩
        obtain ⟨wB, hwB, hbB, yB⟩ := alloc_named w4 #[.int .i64 0, .int .i64 0, .slice none 0 0, .slice none 0 0] 35
        have y5 := setRow_heap wB w4.heap.size _ #[.int .i64 size, .int .i64 0, .slice none 0 0, .slice none 0 0] _ _ yB
        have f5 := fr_row wB w4.heap.size #[.int .i64 size, .int .i64 0, .slice none 0 0, .slice none 0 0]
        obtain ⟨w5, hw5⟩ : ∃ w5, wB.setRow w4.heap.size #[.int .i64 size, .int .i64 0, .slice none 0 0, .slice none 0 0] = w5 := ⟨_, rfl⟩
        rw [hw5] at y5 f5
        have hlt := lt_of_get Y3.out
        have hb5 : Below w3.heap.size w3 w5 := bl_fr (bl_trans hb4 hbB) f5 (fun k hk => by have := hb4.size; omega)
        have YB := Lib.hid yB
        have X5 := Lib.hid (bl_get hb5 X3.out)
        have Y5 := Lib.hid (bl_get hb5 Y3.out)
        have U5 := Lib.hid y5
        have HB5 : Hid (Below w.heap.size w w5) := bl_trans HB3.out hb5
        clear hb4 hbB hb5 H8 HB3 yB y5 f5 hlt X3 Y3
        go_wp2_with (refine wpList_store_row rfl 35 (.tmp 12) (.tmp 23) rfl w4.heap.size #[.int .i64 size, .int .i64 0, .slice none 0 0, .slice none 0 0] rfl rfl 35 #[.int .i64 0, .int .i64 0, .slice none 0 0, .slice none 0 0] (by first | exact YB.out | (rw [hwB]; exact YB.out)) infoR8 rfl (by simp [Value.oneCell']) ?_; (try rw [hwB]); (try rw [hw5]))
        refine (number_yes n1.1 n1.2 _).mono ?_
        rintro e w6 ⟨rfl, rfl⟩
        go_wp2_with fail
        refine (number_yes n2.1 n2.2 _).mono ?_
        rintro e w6 ⟨rfl, rfl⟩
        go_wp2_with fail
        refine (number_no n3 _).mono ?_
        rintro e w6 ⟨rfl, rfl⟩
        go_wp2_with (refine wpList_store_row rfl 38 (.tmp 8) (.tmp 42) rfl w.heap.size #[.int .i64 0, .int .i64 0, .bool false, .int .i64 0, .int .i64 0, .int .i64 0, .int .i64 0, .int .i64 0, .bool false, .bool false, .int .i64 0, .int .i64 0, .slice none 0 0, .int .i64 0, .int .i64 0, .int .i64 0, .slice none 0 0, .slice none 0 0, .slice none 0 0, .slice none 0 0] rfl rfl 38 #[.int .i64 0, .int .i64 0, .bool false, .int .i64 0, .int .i64 0, .int .i64 0, .int .i64 0, .int .i64 0, .bool false, .bool false, .int .i64 0, .int .i64 0, .slice none 0 0, .int .i64 0, .int .i64 0, .int .i64 0, .slice none 0 0, .slice none 0 0, .slice none 0 0, .slice none 0 0] X5.out infoLink9 rfl (by simp [Value.oneCell']) ?_)
        have hrow := setRow_heap w5 w.heap.size _ #[.int .i64 0, .int .i64 0, .bool false, .int .i64 0, .int .i64 0, .int .i64 0, .int .i64 0, .int .i64 0, .bool false, .bool false, .int .i64 0, .int .i64 0, .slice none 0 0, .int .i64 0, .int .i64 0, .int .i64 0, .slice none 0 0, .slice none 0 0, .slice none 0 0, .slice none 0 0] _ _ X5.out
        refine bodyPost_ret (results_tmp_row rfl _ _ w.heap.size 38 #[.int .i64 0, .int .i64 0, .bool false, .int .i64 0, .int .i64 0, .int .i64 0, .int .i64 0, .int .i64 0, .bool false, .bool false, .int .i64 0, .int .i64 0, .slice none 0 0, .int .i64 0, .int .i64 0, .int .i64 0, .slice none 0 0, .slice none 0 0, .slice none 0 0, .slice none 0 0] (0, 0) _ rfl hrow Tryz.underlying38 rfl infoLink9) rfl ?_
        exact ⟨rfl, bl_fr HB5.out (fr_row w5 w.heap.size #[.int .i64 0, .int .i64 0, .bool false, .int .i64 0, .int .i64 0, .int .i64 0, .int .i64 0, .int .i64 0, .bool false, .bool false, .int .i64 0, .int .i64 0, .slice none 0 0, .int .i64 0, .int .i64 0, .int .i64 0, .slice none 0 0, .slice none 0 0, .slice none 0 0, .slice none 0 0]) (fun k hk => by omega)⟩
      · clear h
        obtain ⟨w1, hw1, hb1, x0⟩ := alloc_named w #[.int .i64 0, .int .i64 0, .bool false, .int .i64 0, .int .i64 0, .int .i64 0, .int .i64 0, .int .i64 0, .bool false, .bool false, .int .i64 0, .int .i64 0, .slice none 0 0, .int .i64 0, .int .i64 0, .int .i64 0, .slice none 0 0, .slice none 0 0, .slice none 0 0, .slice none 0 0] 38
        have H7 := r97_ok size g7 g8 w1
        have X0 := Lib.hid x0
        have HB1 := Lib.hid hb1
        clear x0 hb1
        go_enter Tryz.func5, Tryz.ntmps5
        go_wp2_with fail
        try simp only [hw1]
        refine H7.mono ?_
        rintro e w2 ⟨rfl, hb2⟩
        obtain ⟨wA, hwA, hbA, yA⟩ := alloc_named w2 #[.int .i64 0, .int .i64 0, .slice none 0 0, .int .i64 0] 31
        have y3 := setRow_heap wA w2.heap.size _ #[.int .i64 size, .int .i64 0, .slice none 0 0, .int .i64 0] _ _ yA
        have f3 := fr_row wA w2.heap.size #[.int .i64 size, .int .i64 0, .slice none 0 0, .int .i64 0]
        obtain ⟨w3, hw3⟩ : ∃ w3, wA.setRow w2.heap.size #[.int .i64 size, .int .i64 0, .slice none 0 0, .int .i64 0] = w3 := ⟨_, rfl⟩
        rw [hw3] at y3 f3
        have hlt := lt_of_get X0.out
        have hb3 : Below w1.heap.size w1 w3 := bl_fr (bl_trans hb2 hbA) f3 (fun k hk => by have := hb2.size; omega)
        have H8 := r98_ok size g7 g8 w3
        have YA := Lib.hid yA
        have X3 := Lib.hid (bl_get hb3 X0.out)
        have Y3 := Lib.hid y3
        have HB3 : Hid (Below w.heap.size w w3) := bl_trans HB1.out hb3
        clear hb2 hbA hb3 H7 HB1 yA y3 f3 hlt
        go_wp2_with (refine wpList_store_row rfl 31 (.tmp 10) (.tmp 18) rfl w2.heap.size #[.int .i64 size, .int .i64 0, .slice none 0 0, .int .i64 0] rfl rfl 31 #[.int .i64 0, .int .i64 0, .slice none 0 0, .int .i64 0] (by first | exact YA.out | (rw [hwA]; exact YA.out)) infoS7 rfl (by simp [Value.oneCell']) ?_; (try rw [hwA]); (try rw [hw3]))
        refine H8.mono ?_
        rintro e w4 ⟨rfl, hb4⟩
        obtain ⟨wB, hwB, hbB, yB⟩ := alloc_named w4 #[.int .i64 0, .int .i64 0, .slice none 0 0, .slice none 0 0] 35
        have y5 := setRow_heap wB w4.heap.size _ #[.int .i64 size, .int .i64 0, .slice none 0 0, .slice none 0 0] _ _ yB
        have f5 := fr_row wB w4.heap.size #[.int .i64 size, .int .i64 0, .slice none 0 0, .slice none 0 0]
        obtain ⟨w5, hw5⟩ : ∃ w5, wB.setRow w4.heap.size #[.int .i64 size, .int .i64 0, .slice none 0 0, .slice none 0 0] = w5 := ⟨_, rfl⟩
        rw [hw5] at y5 f5
        have hlt := lt_of_get Y3.out
        have hb5 : Below w3.heap.size w3 w5 := bl_fr (bl_trans hb4 hbB) f5 (fun k hk => by have := hb4.size; omega)
        have YB := Lib.hid yB
        have X5 := Lib.hid (bl_get hb5 X3.out)
        have Y5 := Lib.hid (bl_get hb5 Y3.out)
        have U5 := Lib.hid y5
        have HB5 : Hid (Below w.heap.size w w5) := bl_trans HB3.out hb5
        clear hb4 hbB hb5 H8 HB3 yB y5 f5 hlt X3 Y3
        go_wp2_with (refine wpList_store_row rfl 35 (.tmp 12) (.tmp 23) rfl w4.heap.size #[.int .i64 size, .int .i64 0, .slice none 0 0, .slice none 0 0] rfl rfl 35 #[.int .i64 0, .int .i64 0, .slice none 0 0, .slice none 0 0] (by first | exact YB.out | (rw [hwB]; exact YB.out)) infoR8 rfl (by simp [Value.oneCell']) ?_; (try rw [hwB]); (try rw [hw5]))
        refine (number_yes n1.1 n1.2 _).mono ?_
        rintro e w6 ⟨rfl, rfl⟩
        go_wp2_with fail
        refine (number_no n2 _).mono ?_
        rintro e w6 ⟨rfl, rfl⟩
        go_wp2_with (refine wpList_store_row rfl 38 (.tmp 8) (.tmp 42) rfl w.heap.size #[.int .i64 0, .int .i64 0, .bool false, .int .i64 0, .int .i64 0, .int .i64 0, .int .i64 0, .int .i64 0, .bool false, .bool false, .int .i64 0, .int .i64 0, .slice none 0 0, .int .i64 0, .int .i64 0, .int .i64 0, .slice none 0 0, .slice none 0 0, .slice none 0 0, .slice none 0 0] rfl rfl 38 #[.int .i64 0, .int .i64 0, .bool false, .int .i64 0, .int .i64 0, .int .i64 0, .int .i64 0, .int .i64 0, .bool false, .bool false, .int .i64 0, .int .i64 0, .slice none 0 0, .int .i64 0, .int .i64 0, .int .i64 0, .slice none 0 0, .slice none 0 0, .slice none 0 0, .slice none 0 0] X5.out infoLink9 rfl (by simp [Value.oneCell']) ?_)
        have hrow := setRow_heap w5 w.heap.size _ #[.int .i64 0, .int .i64 0, .bool false, .int .i64 0, .int .i64 0, .int .i64 0, .int .i64 0, .int .i64 0, .bool false, .bool false, .int .i64 0, .int .i64 0, .slice none 0 0, .int .i64 0, .int .i64 0, .int .i64 0, .slice none 0 0, .slice none 0 0, .slice none 0 0, .slice none 0 0] _ _ X5.out
        refine bodyPost_ret (results_tmp_row rfl _ _ w.heap.size 38 #[.int .i64 0, .int .i64 0, .bool false, .int .i64 0, .int .i64 0, .int .i64 0, .int .i64 0, .int .i64 0, .bool false, .bool false, .int .i64 0, .int .i64 0, .slice none 0 0, .int .i64 0, .int .i64 0, .int .i64 0, .slice none 0 0, .slice none 0 0, .slice none 0 0, .slice none 0 0] (0, 0) _ rfl hrow Tryz.underlying38 rfl infoLink9) rfl ?_
        exact ⟨rfl, bl_fr HB5.out (fr_row w5 w.heap.size #[.int .i64 0, .int .i64 0, .bool false, .int .i64 0, .int .i64 0, .int .i64 0, .int .i64 0, .int .i64 0, .bool false, .bool false, .int .i64 0, .int .i64 0, .slice none 0 0, .int .i64 0, .int .i64 0, .int .i64 0, .slice none 0 0, .slice none 0 0, .slice none 0 0, .slice none 0 0]) (fun k hk => by omega)⟩
    · clear h
      obtain ⟨w1, hw1, hb1, x0⟩ := alloc_named w #[.int .i64 0, .int .i64 0, .bool false, .int .i64 0, .int .i64 0, .int .i64 0, .int .i64 0, .int .i64 0, .bool false, .bool false, .int .i64 0, .int .i64 0, .slice none 0 0, .int .i64 0, .int .i64 0, .int .i64 0, .slice none 0 0, .slice none 0 0, .slice none 0 0, .slice none 0 0] 38
      have H7 := r97_ok size g7 g8 w1
      have X0 := Lib.hid x0
      have HB1 := Lib.hid hb1
      clear x0 hb1
      go_enter Tryz.func5, Tryz.ntmps5
      go_wp2_with fail
      try simp only [hw1]
      refine H7.mono ?_
      rintro e w2 ⟨rfl, hb2⟩
      obtain ⟨wA, hwA, hbA, yA⟩ := alloc_named w2 #[.int .i64 0, .int .i64 0, .slice none 0 0, .int .i64 0] 31
      have y3 := setRow_heap wA w2.heap.size _ #[.int .i64 size, .int .i64 0, .slice none 0 0, .int .i64 0] _ _ yA
      have f3 := fr_row wA w2.heap.size #[.int .i64 size, .int .i64 0, .slice none 0 0, .int .i64 0]
      obtain ⟨w3, hw3⟩ : ∃ w3, wA.setRow w2.heap.size #[.int .i64 size, .int .i64 0, .slice none 0 0, .int .i64 0] = w3 := ⟨_, rfl⟩
      rw [hw3] at y3 f3
      have hlt := lt_of_get X0.out
      have hb3 : Below w1.heap.size w1 w3 := bl_fr (bl_trans hb2 hbA) f3 (fun k hk => by have := hb2.size; omega)
      have H8 := r98_ok size g7 g8 w3
      have YA := Lib.hid yA
      have X3 := Lib.hid (bl_get hb3 X0.out)
      have Y3 := Lib.hid y3
      have HB3 : Hid (Below w.heap.size w w3) := bl_trans HB1.out hb3
      clear hb2 hbA hb3 H7 HB1 yA y3 f3 hlt
      go_wp2_with (refine wpList_store_row rfl 31 (.tmp 10) (.tmp 18) rfl w2.heap.size #[.int .i64 size, .int .i64 0, .slice none 0 0, .int .i64 0] rfl rfl 31 #[.int .i64 0, .int .i64 0, .slice none 0 0, .int .i64 0] (by first | exact YA.out | (rw [hwA]; exact YA.out)) infoS7 rfl (by simp [Value.oneCell']) ?_; (try rw [hwA]); (try rw [hw3]))
      refine H8.mono ?_
      rintro e w4 ⟨rfl, hb4⟩
      obtain ⟨wB, hwB, hbB, yB⟩ := alloc_named w4 #[.int .i64 0, .int .i64 0, .slice none 0 0, .slice none 0 0] 35
      have y5 := setRow_heap wB w4.heap.size _ #[.int .i64 size, .int .i64 0, .slice none 0 0, .slice none 0 0] _ _ yB
      have f5 := fr_row wB w4.heap.size #[.int .i64 size, .int .i64 0, .slice none 0 0, .slice none 0 0]
      obtain ⟨w5, hw5⟩ : ∃ w5, wB.setRow w4.heap.size #[.int .i64 size, .int .i64 0, .slice none 0 0, .slice none 0 0] = w5 := ⟨_, rfl⟩
      rw [hw5] at y5 f5
      have hlt := lt_of_get Y3.out
      have hb5 : Below w3.heap.size w3 w5 := bl_fr (bl_trans hb4 hbB) f5 (fun k hk => by have := hb4.size; omega)
      have YB := Lib.hid yB
      have X5 := Lib.hid (bl_get hb5 X3.out)
      have Y5 := Lib.hid (bl_get hb5 Y3.out)
      have U5 := Lib.hid y5
      have HB5 : Hid (Below w.heap.size w w5) := bl_trans HB3.out hb5
      clear hb4 hbB hb5 H8 HB3 yB y5 f5 hlt X3 Y3
      go_wp2_with (refine wpList_store_row rfl 35 (.tmp 12) (.tmp 23) rfl w4.heap.size #[.int .i64 size, .int .i64 0, .slice none 0 0, .slice none 0 0] rfl rfl 35 #[.int .i64 0, .int .i64 0, .slice none 0 0, .slice none 0 0] (by first | exact YB.out | (rw [hwB]; exact YB.out)) infoR8 rfl (by simp [Value.oneCell']) ?_; (try rw [hwB]); (try rw [hw5]))
      refine (number_no n1 _).mono ?_
      rintro e w6 ⟨rfl, rfl⟩
      go_wp2_with (refine wpList_store_row rfl 38 (.tmp 8) (.tmp 42) rfl w.heap.size #[.int .i64 0, .int .i64 0, .bool false, .int .i64 0, .int .i64 0, .int .i64 0, .int .i64 0, .int .i64 0, .bool false, .bool false, .int .i64 0, .int .i64 0, .slice none 0 0, .int .i64 0, .int .i64 0, .int .i64 0, .slice none 0 0, .slice none 0 0, .slice none 0 0, .slice none 0 0] rfl rfl 38 #[.int .i64 0, .int .i64 0, .bool false, .int .i64 0, .int .i64 0, .int .i64 0, .int .i64 0, .int .i64 0, .bool false, .bool false, .int .i64 0, .int .i64 0, .slice none 0 0, .int .i64 0, .int .i64 0, .int .i64 0, .slice none 0 0, .slice none 0 0, .slice none 0 0, .slice none 0 0] X5.out infoLink9 rfl (by simp [Value.oneCell']) ?_)
      have hrow := setRow_heap w5 w.heap.size _ #[.int .i64 0, .int .i64 0, .bool false, .int .i64 0, .int .i64 0, .int .i64 0, .int .i64 0, .int .i64 0, .bool false, .bool false, .int .i64 0, .int .i64 0, .slice none 0 0, .int .i64 0, .int .i64 0, .int .i64 0, .slice none 0 0, .slice none 0 0, .slice none 0 0, .slice none 0 0] _ _ X5.out
      refine bodyPost_ret (results_tmp_row rfl _ _ w.heap.size 38 #[.int .i64 0, .int .i64 0, .bool false, .int .i64 0, .int .i64 0, .int .i64 0, .int .i64 0, .int .i64 0, .bool false, .bool false, .int .i64 0, .int .i64 0, .slice none 0 0, .int .i64 0, .int .i64 0, .int .i64 0, .slice none 0 0, .slice none 0 0, .slice none 0 0, .slice none 0 0] (0, 0) _ rfl hrow Tryz.underlying38 rfl infoLink9) rfl ?_
      exact ⟨rfl, bl_fr HB5.out (fr_row w5 w.heap.size #[.int .i64 0, .int .i64 0, .bool false, .int .i64 0, .int .i64 0, .int .i64 0, .int .i64 0, .int .i64 0, .bool false, .bool false, .int .i64 0, .int .i64 0, .slice none 0 0, .int .i64 0, .int .i64 0, .int .i64 0, .slice none 0 0, .slice none 0 0, .slice none 0 0, .slice none 0 0]) (fun k hk => by omega)⟩
  · have hs' : size < 1 ∨ 63 < size := by omega
    clear h hs
    obtain ⟨w1, hw1, hb1, x0⟩ := alloc_named w #[.int .i64 0, .int .i64 0, .bool false, .int .i64 0, .int .i64 0, .int .i64 0, .int .i64 0, .int .i64 0, .bool false, .bool false, .int .i64 0, .int .i64 0, .slice none 0 0, .int .i64 0, .int .i64 0, .int .i64 0, .slice none 0 0, .slice none 0 0, .slice none 0 0, .slice none 0 0] 38
    have H7 := r97_bad size hs' w1
    have X0 := Lib.hid x0
    have HB1 := Lib.hid hb1
    clear x0 hb1
    go_enter Tryz.func5, Tryz.ntmps5
    go_wp2_with fail
    try simp only [hw1]
    refine H7.mono ?_
    rintro e w2 ⟨rfl, hb2⟩
    obtain ⟨wA, hwA, hbA, yA⟩ := alloc_named w2 #[.int .i64 0, .int .i64 0, .slice none 0 0, .int .i64 0] 31
    have y3 := setRow_heap wA w2.heap.size _ #[.int .i64 0, .int .i64 0, .slice none 0 0, .int .i64 0] _ _ yA
    have f3 := fr_row wA w2.heap.size #[.int .i64 0, .int .i64 0, .slice none 0 0, .int .i64 0]
    obtain ⟨w3, hw3⟩ : ∃ w3, wA.setRow w2.heap.size #[.int .i64 0, .int .i64 0, .slice none 0 0, .int .i64 0] = w3 := ⟨_, rfl⟩
    rw [hw3] at y3 f3
    have hlt := lt_of_get X0.out
    have hb3 : Below w1.heap.size w1 w3 := bl_fr (bl_trans hb2 hbA) f3 (fun k hk => by have := hb2.size; omega)
    have H8 := r98_bad size hs' w3
    have YA := Lib.hid yA
    have X3 := Lib.hid (bl_get hb3 X0.out)
    have Y3 := Lib.hid y3
    have HB3 : Hid (Below w.heap.size w w3) := bl_trans HB1.out hb3
    clear hb2 hbA hb3 H7 HB1 yA y3 f3 hlt
    go_wp2_with (refine wpList_store_row rfl 31 (.tmp 10) (.tmp 18) rfl w2.heap.size #[.int .i64 0, .int .i64 0, .slice none 0 0, .int .i64 0] rfl rfl 31 #[.int .i64 0, .int .i64 0, .slice none 0 0, .int .i64 0] (by first | exact YA.out | (rw [hwA]; exact YA.out)) infoS7 rfl (by simp [Value.oneCell']) ?_; (try rw [hwA]); (try rw [hw3]))
    refine H8.mono ?_
    rintro e w4 ⟨rfl, hb4⟩
    obtain ⟨wB, hwB, hbB, yB⟩ := alloc_named w4 #[.int .i64 0, .int .i64 0, .slice none 0 0, .slice none 0 0] 35
    have y5 := setRow_heap wB w4.heap.size _ #[.int .i64 0, .int .i64 0, .slice none 0 0, .slice none 0 0] _ _ yB
    have f5 := fr_row wB w4.heap.size #[.int .i64 0, .int .i64 0, .slice none 0 0, .slice none 0 0]
    obtain ⟨w5, hw5⟩ : ∃ w5, wB.setRow w4.heap.size #[.int .i64 0, .int .i64 0, .slice none 0 0, .slice none 0 0] = w5 := ⟨_, rfl⟩
    rw [hw5] at y5 f5
    have hlt := lt_of_get Y3.out
    have hb5 : Below w3.heap.size w3 w5 := bl_fr (bl_trans hb4 hbB) f5 (fun k hk => by have := hb4.size; omega)
    have YB := Lib.hid yB
    have X5 := Lib.hid (bl_get hb5 X3.out)
    have Y5 := Lib.hid (bl_get hb5 Y3.out)
    have U5 := Lib.hid y5
    have HB5 : Hid (Below w.heap.size w w5) := bl_trans HB3.out hb5
    clear hb4 hbB hb5 H8 HB3 yB y5 f5 hlt X3 Y3
    go_wp2_with (first | (refine wpList_store_row rfl 35 (.tmp 12) (.tmp 23) rfl w4.heap.size #[.int .i64 0, .int .i64 0, .slice none 0 0, .slice none 0 0] rfl rfl 35 #[.int .i64 0, .int .i64 0, .slice none 0 0, .slice none 0 0] (by first | exact YB.out | (rw [hwB]; exact YB.out)) infoR8 rfl (by simp [Value.oneCell']) ?_; (try rw [hwB]); (try rw [hw5])) | (refine wpList_store_row rfl 38 (.tmp 8) (.tmp 42) rfl w.heap.size #[.int .i64 0, .int .i64 0, .bool false, .int .i64 0, .int .i64 0, .int .i64 0, .int .i64 0, .int .i64 0, .bool false, .bool false, .int .i64 0, .int .i64 0, .slice none 0 0, .int .i64 0, .int .i64 0, .int .i64 0, .slice none 0 0, .slice none 0 0, .slice none 0 0, .slice none 0 0] rfl rfl 38 #[.int .i64 0, .int .i64 0, .bool false, .int .i64 0, .int .i64 0, .int .i64 0, .int .i64 0, .int .i64 0, .bool false, .bool false, .int .i64 0, .int .i64 0, .slice none 0 0, .int .i64 0, .int .i64 0, .int .i64 0, .slice none 0 0, .slice none 0 0, .slice none 0 0, .slice none 0 0] X5.out infoLink9 rfl (by simp [Value.oneCell']) ?_))
    have hrow := setRow_heap w5 w.heap.size _ #[.int .i64 0, .int .i64 0, .bool false, .int .i64 0, .int .i64 0, .int .i64 0, .int .i64 0, .int .i64 0, .bool false, .bool false, .int .i64 0, .int .i64 0, .slice none 0 0, .int .i64 0, .int .i64 0, .int .i64 0, .slice none 0 0, .slice none 0 0, .slice none 0 0, .slice none 0 0] _ _ X5.out
    refine bodyPost_ret (results_tmp_row rfl _ _ w.heap.size 38 #[.int .i64 0, .int .i64 0, .bool false, .int .i64 0, .int .i64 0, .int .i64 0, .int .i64 0, .int .i64 0, .bool false, .bool false, .int .i64 0, .int .i64 0, .slice none 0 0, .int .i64 0, .int .i64 0, .int .i64 0, .slice none 0 0, .slice none 0 0, .slice none 0 0, .slice none 0 0] (0, 0) _ rfl hrow Tryz.underlying38 rfl infoLink9) rfl ?_
    exact ⟨rfl, bl_fr HB5.out (fr_row w5 w.heap.size #[.int .i64 0, .int .i64 0, .bool false, .int .i64 0, .int .i64 0, .int .i64 0, .int .i64 0, .int .i64 0, .bool false, .bool false, .int .i64 0, .int .i64 0, .slice none 0 0, .int .i64 0, .int .i64 0, .int .i64 0, .slice none 0 0, .slice none 0 0, .slice none 0 0, .slice none 0 0]) (fun k hk => by omega)⟩

end Go.Proofs.YthmdibagcbbgoaaGreat
