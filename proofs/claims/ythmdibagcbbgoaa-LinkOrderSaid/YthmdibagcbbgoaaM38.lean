/- portageref09.New: is it right?. Conditions: as they stand. -/
import Derived.Test.YthmdibagcbbgoaaM37
namespace Go.Proofs.Ythmdibagcbbgoaa
open Go.RowKit

section
variable {P : Program} {ops : Array Oper} {rest : List Oper} {o : Oper} {a : Act} {Q : Exit → Act → World → Prop}
theorem wpList_ctls (w : World) (hgd : o.guard = none) (s x : Operand) (t : TypeId)
    (ho : o.op = .call { callee := .builtin .append, args := #[s, x], argTypes := #[t, t] }) {i : TypeInfo} {z : Value}
    (ht : P.underlying t = some (.slice 24)) (hi : P.info? 24 = some i) (hz : i.zero = some z) (hzs : z.cells.size = 7) (hsize : i.size = 7) {by_ : Nat} (hby : i.bytes = by_) (hby2 : by_ ≤ 100)
    {B : Nat} {col : Nat → Nat} {d : Nat} (hd : d ≠ 0) (hd7 : d ≠ 7) (hC : Cols B col w) {v : Value} {l : List Cn} (hs : a.eval s = v) (hR : CtlsAt B col d w v l) {g : Nat} (hx : a.eval x = .slice (some ⟨g, 0, none⟩) 1 1)
    {c : Cn} {y : Value} (hg : w.heap[g]? = some (.cells (c.agg y) 24 (0, 0))) (hY : Byt (fun k => col k = 7) w y c.data) (hm : l.length ≤ 1000000)
    (h : ∀ v' w', CtlsAt B (paint col w w' d) d w' v' (l ++ [c]) → Fr (fun k => col k = d) w w' → wpList P ops Q rest (a.put o.dst v') w') : wpList P ops Q (o :: rest) a w :=
  wpList_plain hgd fun _ hK => wp_ctls w s x t ho ht hi hz hzs hsize hby hby2 hd hd7 hC hs hR hx hg hY hm fun v' w' h1 h2 => hK _ _ (h v' w' h1 h2)
end

theorem infoLink9 : (Try.prog.info? 81).map (·.size) = some 20 := by kernel_rfl
theorem ctls_form {B : Nat} {col : Nat → Nat} {d : Nat} {w : World} {v : Value} {c : Cn} (h : CtlsAt B col d w v ([] ++ [c])) : ∃ lo lc, v = .slice lo 1 lc := by
  obtain ⟨cs, v2, _⟩ := h
  exact rc_form v2

set_option maxRecDepth 100000 in
theorem send_world (me peer timer tries left size : Int) (w : World) :
    ∃ W6, ((((((w.alloc (.cells #[.int .i64 me, .int .i64 peer, .bool false, .int .i64 timer, .int .i64 tries, .int .i64 left, .int .i64 0, .int .i64 0, .bool false, .bool false, .int .i64 size, .int .i64 0, .slice none 0 0, .int .i64 0, .int .i64 size, .int .i64 0, .slice none 0 0, .slice none 0 0, .slice none 0 0, .slice none 0 0] 81)).alloc (.cells #[.int .i64 5, .int .i64 0, .int .i64 0, .bool false, .int .i64 me, .int .i64 0, .slice none 0 0] 24)).alloc (.cells #[.int .i64 0, .int .i64 0, .bool false, .int .i64 0, .int .i64 0, .int .i64 0, .int .i64 0, .int .i64 0, .bool false, .bool false, .int .i64 0, .int .i64 0, .slice none 0 0, .int .i64 0, .int .i64 0, .int .i64 0, .slice none 0 0, .slice none 0 0, .slice none 0 0, .slice none 0 0] 81))).alloc (.cells #[] 24)).alloc (.cells #[.int .i64 5, .int .i64 0, .int .i64 0, .bool false, .int .i64 me, .int .i64 0, .slice none 0 0] 24)) = W6 ∧ Below w.heap.size w W6 ∧ W6.heap[w.heap.size]? = some (.cells #[.int .i64 me, .int .i64 peer, .bool false, .int .i64 timer, .int .i64 tries, .int .i64 left, .int .i64 0, .int .i64 0, .bool false, .bool false, .int .i64 size, .int .i64 0, .slice none 0 0, .int .i64 0, .int .i64 size, .int .i64 0, .slice none 0 0, .slice none 0 0, .slice none 0 0, .slice none 0 0] 81) ∧ W6.heap[w.heap.size + 1 + 1]? = some (.cells #[.int .i64 0, .int .i64 0, .bool false, .int .i64 0, .int .i64 0, .int .i64 0, .int .i64 0, .int .i64 0, .bool false, .bool false, .int .i64 0, .int .i64 0, .slice none 0 0, .int .i64 0, .int .i64 0, .int .i64 0, .slice none 0 0, .slice none 0 0, .slice none 0 0, .slice none 0 0] 81) ∧ W6.heap[w.heap.size + 1 + 1 + 1]? = some (.cells #[] 24) ∧ W6.heap[w.heap.size + 1 + 1 + 1 + 1]? = some (.cells #[.int .i64 5, .int .i64 0, .int .i64 0, .bool false, .int .i64 me, .int .i64 0, .slice none 0 0] 24) := by
  have b1 := bl_alloc (bl_refl w) (.cells #[.int .i64 me, .int .i64 peer, .bool false, .int .i64 timer, .int .i64 tries, .int .i64 left, .int .i64 0, .int .i64 0, .bool false, .bool false, .int .i64 size, .int .i64 0, .slice none 0 0, .int .i64 0, .int .i64 size, .int .i64 0, .slice none 0 0, .slice none 0 0, .slice none 0 0, .slice none 0 0] 81)
  have x1 := heap_alloc_new w (.cells #[.int .i64 me, .int .i64 peer, .bool false, .int .i64 timer, .int .i64 tries, .int .i64 left, .int .i64 0, .int .i64 0, .bool false, .bool false, .int .i64 size, .int .i64 0, .slice none 0 0, .int .i64 0, .int .i64 size, .int .i64 0, .slice none 0 0, .slice none 0 0, .slice none 0 0, .slice none 0 0] 81)
  have s1 : (w.alloc (.cells #[.int .i64 me, .int .i64 peer, .bool false, .int .i64 timer, .int .i64 tries, .int .i64 left, .int .i64 0, .int .i64 0, .bool false, .bool false, .int .i64 size, .int .i64 0, .slice none 0 0, .int .i64 0, .int .i64 size, .int .i64 0, .slice none 0 0, .slice none 0 0, .slice none 0 0, .slice none 0 0] 81)).heap.size = w.heap.size + 1 := by simp
  generalize w.alloc (.cells #[.int .i64 me, .int .i64 peer, .bool false, .int .i64 timer, .int .i64 tries, .int .i64 left, .int .i64 0, .int .i64 0, .bool false, .bool false, .int .i64 size, .int .i64 0, .slice none 0 0, .int .i64 0, .int .i64 size, .int .i64 0, .slice none 0 0, .slice none 0 0, .slice none 0 0, .slice none 0 0] 81) = w1 at b1 x1 s1
  have b2 := bl_alloc (bl_refl w1) (.cells #[.int .i64 5, .int .i64 0, .int .i64 0, .bool false, .int .i64 me, .int .i64 0, .slice none 0 0] 24)
  have s2 : (w1.alloc (.cells #[.int .i64 5, .int .i64 0, .int .i64 0, .bool false, .int .i64 me, .int .i64 0, .slice none 0 0] 24)).heap.size = w.heap.size + 1 + 1 := by simp [s1]
  replace x1 := bl_get b2 x1
  generalize w1.alloc (.cells #[.int .i64 5, .int .i64 0, .int .i64 0, .bool false, .int .i64 me, .int .i64 0, .slice none 0 0] 24) = w2 at b2 x1 s2
  have b3 := bl_alloc (bl_refl w2) (.cells #[.int .i64 0, .int .i64 0, .bool false, .int .i64 0, .int .i64 0, .int .i64 0, .int .i64 0, .int .i64 0, .bool false, .bool false, .int .i64 0, .int .i64 0, .slice none 0 0, .int .i64 0, .int .i64 0, .int .i64 0, .slice none 0 0, .slice none 0 0, .slice none 0 0, .slice none 0 0] 81)
  have x3 := heap_alloc_new w2 (.cells #[.int .i64 0, .int .i64 0, .bool false, .int .i64 0, .int .i64 0, .int .i64 0, .int .i64 0, .int .i64 0, .bool false, .bool false, .int .i64 0, .int .i64 0, .slice none 0 0, .int .i64 0, .int .i64 0, .int .i64 0, .slice none 0 0, .slice none 0 0, .slice none 0 0, .slice none 0 0] 81)
  have s3 : (w2.alloc (.cells #[.int .i64 0, .int .i64 0, .bool false, .int .i64 0, .int .i64 0, .int .i64 0, .int .i64 0, .int .i64 0, .bool false, .bool false, .int .i64 0, .int .i64 0, .slice none 0 0, .int .i64 0, .int .i64 0, .int .i64 0, .slice none 0 0, .slice none 0 0, .slice none 0 0, .slice none 0 0] 81)).heap.size = w.heap.size + 1 + 1 + 1 := by simp [s2]
  replace x1 := bl_get b3 x1
  rw [s2] at x3
  generalize w2.alloc (.cells #[.int .i64 0, .int .i64 0, .bool false, .int .i64 0, .int .i64 0, .int .i64 0, .int .i64 0, .int .i64 0, .bool false, .bool false, .int .i64 0, .int .i64 0, .slice none 0 0, .int .i64 0, .int .i64 0, .int .i64 0, .slice none 0 0, .slice none 0 0, .slice none 0 0, .slice none 0 0] 81) = w3 at b3 x1 x3 s3
  have b5 := bl_alloc (bl_refl w3) (.cells #[] 24)
  have x5 := heap_alloc_new w3 (.cells #[] 24)
  have s5 : (w3.alloc (.cells #[] 24)).heap.size = w.heap.size + 1 + 1 + 1 + 1 := by simp [s3]
  replace x1 := bl_get b5 x1
  replace x3 := bl_get b5 x3
  rw [s3] at x5
  generalize w3.alloc (.cells #[] 24) = w5 at b5 x1 x3 x5 s5
  have b6 := bl_alloc (bl_refl w5) (.cells #[.int .i64 5, .int .i64 0, .int .i64 0, .bool false, .int .i64 me, .int .i64 0, .slice none 0 0] 24)
  have x6 := heap_alloc_new w5 (.cells #[.int .i64 5, .int .i64 0, .int .i64 0, .bool false, .int .i64 me, .int .i64 0, .slice none 0 0] 24)
  rw [s5] at x6
  have h5 : Below w.heap.size w w5 := bl_trans (bl_trans b1 (bl_trans b2 b3)) b5
  exact ⟨_, rfl, bl_trans h5 b6, bl_get b6 x1, bl_get b6 x3, bl_get b6 x5, x6⟩

set_option maxRecDepth 100000 in
set_option maxHeartbeats 4000000 in
theorem r9send_new (me peer timer tries left size : Int) (w : World) :
    Calls Try.prog 68 #[.agg #[.int .i64 me, .int .i64 peer, .bool false, .int .i64 timer, .int .i64 tries, .int .i64 left, .int .i64 0, .int .i64 0, .bool false, .bool false, .int .i64 size, .int .i64 0, .slice none 0 0, .int .i64 0, .int .i64 size, .int .i64 0, .slice none 0 0, .slice none 0 0, .slice none 0 0, .slice none 0 0], .agg #[.int .i64 5, .int .i64 0, .int .i64 0, .bool false, .int .i64 0, .int .i64 0, .slice none 0 0]] w fun e w' => (∃ oo oc, e = .returned (.agg #[.int .i64 me, .int .i64 peer, .bool false, .int .i64 timer, .int .i64 tries, .int .i64 left, .int .i64 0, .int .i64 0, .bool false, .bool false, .int .i64 size, .int .i64 0, .slice none 0 0, .int .i64 0, .int .i64 size, .int .i64 0, .slice none 0 0, .slice none 0 0, .slice oo 1 oc, .slice none 0 0])) ∧ Below w.heap.size w w' := by
  obtain ⟨i1, gi, gz0, gz1, gz2⟩ := info_parts (infoCtl)
  obtain ⟨W6, hW6, hb6, x0, x2, x3, x4⟩ := send_world me peer timer tries left size w
  have hlt := lt_of_get x4
  have HC : Hid (Cols (w.heap.size + 1 + 1 + 1) (fun k => if k = w.heap.size + 1 + 1 + 1 then 4 else 0) W6) := ⟨by omega, fun k hk => by
    by_cases h : k = w.heap.size + 1 + 1 + 1
    · omega
    · exact absurd (if_neg h) hk⟩
  have HR : Hid (CtlsAt (w.heap.size + 1 + 1 + 1) (fun k => if k = w.heap.size + 1 + 1 + 1 then 4 else 0) 4 W6 (.slice (some ⟨w.heap.size + 1 + 1 + 1, 0, none⟩) 0 0) []) := ⟨[], ⟨rfl, .inr ⟨_, 0, #[], rfl, Nat.le_refl _, x3, by simp, by simp, rfl, rfl⟩⟩, fun k hk => by simp [Value.ownBlock] at hk; subst hk; simp, fun i c hc => by simp at hc⟩
  have HX : Hid (W6.heap[w.heap.size + 1 + 1 + 1 + 1]? = some (.cells ((⟨5, 0, 0, false, me, 0, []⟩ : Cn).agg (.slice none 0 0)) 24 (0, 0))) := x4
  have HB6 := Lib.hid hb6
  have X0 := Lib.hid x0
  have X2 := Lib.hid x2
  clear x3 x4 hb6 hlt
  go_enter Try.func68, Try.ntmps68
  have HFB : Hid (∀ k, (if k = w.heap.size + 1 + 1 + 1 then 4 else 0) = 4 → w.heap.size ≤ k) := fun k hk => by
    by_cases h : k = w.heap.size + 1 + 1 + 1
    · omega
    · rw [if_neg h] at hk; omega
  have hn0 : Hid (¬ (if w.heap.size = w.heap.size + 1 + 1 + 1 then 4 else 0) = 4) := by unfold Hid; rw [if_neg (by omega)]; omega
  have hn2 : Hid (¬ (if w.heap.size + 1 + 1 = w.heap.size + 1 + 1 + 1 then 4 else 0) = 4) := by unfold Hid; rw [if_neg (by omega)]; omega
  go_wp2_with (first | (at_builtin; refine wpList_ctls _ rfl (.tmp 13) (.tmp 15) 33 rfl Try.underlying33 gi gz0 rfl gz1 gz2 (by omega) (d := 4) (by omega) (by omega) HC.out rfl HR.out rfl HX.out (byt_nil _ _) (Nat.zero_le _) ?_; intro v' w' hR' hF'; obtain ⟨lo, lc, hl⟩ := ctls_form hR'; subst hl; have Y0 := Lib.hid (set_obj w' w.heap.size 18 _ _ (.slice lo 1 lc) (hF'.get X0.out hn0.out)); have z18 : w'.frozen? ⟨w.heap.size, 18, none⟩ = false := rc_frozen (hF'.get X0.out hn0.out); have d18 : w'.cell? ⟨w.heap.size, 18, none⟩ = some (.slice none 0 0) := (by rw [cell_of_row _ _ _ _ _ _ (hF'.get X0.out hn0.out)]; rfl); have Y2 := Lib.hid ((fr_cell w' w.heap.size 18 (.slice lo 1 lc)).get (hF'.get X2.out hn2.out) (by omega)); have HB7 : Hid (Below w.heap.size w w') := HB6.out.trans (fr_bl hF' HFB.out HB6.out.size); clear hR' hF') | (refine wpList_load_row rfl 81 (.tmp 2) rfl w.heap.size rfl 81 #[.int .i64 me, .int .i64 peer, .bool false, .int .i64 timer, .int .i64 tries, .int .i64 left, .int .i64 0, .int .i64 0, .bool false, .bool false, .int .i64 size, .int .i64 0, .slice none 0 0, .int .i64 0, .int .i64 size, .int .i64 0, .slice none 0 0, .slice none 0 0, .slice lo 1 lc, .slice none 0 0] (0, 0) _ Y0.out Try.underlying81 rfl infoLink9 ?_) | (refine wpList_store_row rfl 81 (.tmp 4) (.tmp 18) rfl (w.heap.size + 1 + 1) #[.int .i64 me, .int .i64 peer, .bool false, .int .i64 timer, .int .i64 tries, .int .i64 left, .int .i64 0, .int .i64 0, .bool false, .bool false, .int .i64 size, .int .i64 0, .slice none 0 0, .int .i64 0, .int .i64 size, .int .i64 0, .slice none 0 0, .slice none 0 0, .slice lo 1 lc, .slice none 0 0] rfl rfl 81 #[.int .i64 0, .int .i64 0, .bool false, .int .i64 0, .int .i64 0, .int .i64 0, .int .i64 0, .int .i64 0, .bool false, .bool false, .int .i64 0, .int .i64 0, .slice none 0 0, .int .i64 0, .int .i64 0, .int .i64 0, .slice none 0 0, .slice none 0 0, .slice none 0 0, .slice none 0 0] Y2.out infoLink9 rfl (by simp [Value.oneCell']) ?_))
  have hrow := setRow_heap (w'.setCell ⟨w.heap.size, 18, none⟩ (.slice lo 1 lc)) (w.heap.size + 1 + 1) _ #[.int .i64 me, .int .i64 peer, .bool false, .int .i64 timer, .int .i64 tries, .int .i64 left, .int .i64 0, .int .i64 0, .bool false, .bool false, .int .i64 size, .int .i64 0, .slice none 0 0, .int .i64 0, .int .i64 size, .int .i64 0, .slice none 0 0, .slice none 0 0, .slice lo 1 lc, .slice none 0 0] _ _ Y2.out
  refine bodyPost_ret (results_cell_row rfl _ _ (w.heap.size + 1 + 1) 81 #[.int .i64 me, .int .i64 peer, .bool false, .int .i64 timer, .int .i64 tries, .int .i64 left, .int .i64 0, .int .i64 0, .bool false, .bool false, .int .i64 size, .int .i64 0, .slice none 0 0, .int .i64 0, .int .i64 size, .int .i64 0, .slice none 0 0, .slice none 0 0, .slice lo 1 lc, .slice none 0 0] (0, 0) _ rfl hrow Try.underlying81 rfl infoLink9) rfl ?_
  refine ⟨⟨_, _, rfl⟩, ?_⟩
  have h8 := bl_fr HB7.out (fr_cell w' w.heap.size 18 (.slice lo 1 lc)) (fun k hk => by omega)
  exact bl_fr h8 (fr_row _ (w.heap.size + 1 + 1) _) (fun k hk => by omega)

set_option maxRecDepth 100000 in
set_option maxHeartbeats 4000000 in
theorem r9setup_new (me timer tries size : Int) (w : World) :
    Calls Try.prog 60 #[.agg #[.int .i64 me, .int .i64 (-1), .bool false, .int .i64 timer, .int .i64 tries, .int .i64 0, .int .i64 0, .int .i64 0, .bool false, .bool false, .int .i64 size, .int .i64 0, .slice none 0 0, .int .i64 0, .int .i64 size, .int .i64 0, .slice none 0 0, .slice none 0 0, .slice none 0 0, .slice none 0 0], .bool false] w fun e w' => (∃ oo oc, e = .returned (.agg #[.int .i64 me, .int .i64 (-1), .bool false, .int .i64 timer, .int .i64 tries, .int .i64 timer, .int .i64 0, .int .i64 0, .bool false, .bool false, .int .i64 size, .int .i64 0, .slice none 0 0, .int .i64 0, .int .i64 size, .int .i64 0, .slice none 0 0, .slice none 0 0, .slice oo 1 oc, .slice none 0 0])) ∧ Below w.heap.size w w' := by
  obtain ⟨W2, hW2, hb2, x0, x2⟩ : ∃ W2, (w.alloc (.cells #[.int .i64 me, .int .i64 (-1), .bool false, .int .i64 timer, .int .i64 tries, .int .i64 0, .int .i64 0, .int .i64 0, .bool false, .bool false, .int .i64 size, .int .i64 0, .slice none 0 0, .int .i64 0, .int .i64 size, .int .i64 0, .slice none 0 0, .slice none 0 0, .slice none 0 0, .slice none 0 0] 81)).alloc (.cells #[.int .i64 0, .int .i64 0, .bool false, .int .i64 0, .int .i64 0, .int .i64 0, .int .i64 0, .int .i64 0, .bool false, .bool false, .int .i64 0, .int .i64 0, .slice none 0 0, .int .i64 0, .int .i64 0, .int .i64 0, .slice none 0 0, .slice none 0 0, .slice none 0 0, .slice none 0 0] 81) = W2 ∧ Below w.heap.size w W2 ∧ W2.heap[w.heap.size]? = some (.cells #[.int .i64 me, .int .i64 (-1), .bool false, .int .i64 timer, .int .i64 tries, .int .i64 0, .int .i64 0, .int .i64 0, .bool false, .bool false, .int .i64 size, .int .i64 0, .slice none 0 0, .int .i64 0, .int .i64 size, .int .i64 0, .slice none 0 0, .slice none 0 0, .slice none 0 0, .slice none 0 0] 81 (0, 0)) ∧ W2.heap[w.heap.size + 1]? = some (.cells #[.int .i64 0, .int .i64 0, .bool false, .int .i64 0, .int .i64 0, .int .i64 0, .int .i64 0, .int .i64 0, .bool false, .bool false, .int .i64 0, .int .i64 0, .slice none 0 0, .int .i64 0, .int .i64 0, .int .i64 0, .slice none 0 0, .slice none 0 0, .slice none 0 0, .slice none 0 0] 81 (0, 0)) := by
    have b1 := bl_alloc (bl_refl w) (.cells #[.int .i64 me, .int .i64 (-1), .bool false, .int .i64 timer, .int .i64 tries, .int .i64 0, .int .i64 0, .int .i64 0, .bool false, .bool false, .int .i64 size, .int .i64 0, .slice none 0 0, .int .i64 0, .int .i64 size, .int .i64 0, .slice none 0 0, .slice none 0 0, .slice none 0 0, .slice none 0 0] 81)
    have x1 := heap_alloc_new w (.cells #[.int .i64 me, .int .i64 (-1), .bool false, .int .i64 timer, .int .i64 tries, .int .i64 0, .int .i64 0, .int .i64 0, .bool false, .bool false, .int .i64 size, .int .i64 0, .slice none 0 0, .int .i64 0, .int .i64 size, .int .i64 0, .slice none 0 0, .slice none 0 0, .slice none 0 0, .slice none 0 0] 81)
    have s1 : (w.alloc (.cells #[.int .i64 me, .int .i64 (-1), .bool false, .int .i64 timer, .int .i64 tries, .int .i64 0, .int .i64 0, .int .i64 0, .bool false, .bool false, .int .i64 size, .int .i64 0, .slice none 0 0, .int .i64 0, .int .i64 size, .int .i64 0, .slice none 0 0, .slice none 0 0, .slice none 0 0, .slice none 0 0] 81)).heap.size = w.heap.size + 1 := by simp
    generalize w.alloc (.cells #[.int .i64 me, .int .i64 (-1), .bool false, .int .i64 timer, .int .i64 tries, .int .i64 0, .int .i64 0, .int .i64 0, .bool false, .bool false, .int .i64 size, .int .i64 0, .slice none 0 0, .int .i64 0, .int .i64 size, .int .i64 0, .slice none 0 0, .slice none 0 0, .slice none 0 0, .slice none 0 0] 81) = w1 at b1 x1 s1
    have b2 := bl_alloc (bl_refl w1) (.cells #[.int .i64 0, .int .i64 0, .bool false, .int .i64 0, .int .i64 0, .int .i64 0, .int .i64 0, .int .i64 0, .bool false, .bool false, .int .i64 0, .int .i64 0, .slice none 0 0, .int .i64 0, .int .i64 0, .int .i64 0, .slice none 0 0, .slice none 0 0, .slice none 0 0, .slice none 0 0] 81)
    have x2 := heap_alloc_new w1 (.cells #[.int .i64 0, .int .i64 0, .bool false, .int .i64 0, .int .i64 0, .int .i64 0, .int .i64 0, .int .i64 0, .bool false, .bool false, .int .i64 0, .int .i64 0, .slice none 0 0, .int .i64 0, .int .i64 0, .int .i64 0, .slice none 0 0, .slice none 0 0, .slice none 0 0, .slice none 0 0] 81)
    rw [s1] at x2
    exact ⟨_, rfl, bl_trans b1 b2, bl_get b2 x1, x2⟩
  have HS := r9send_new me (-1) timer tries 0 size W2
  have hsz := lt_of_get x2
  have X0 := Lib.hid x0
  have X2 := Lib.hid x2
  have HB2 := Lib.hid hb2
  clear x0 x2 hb2
  go_enter Try.func60, Try.ntmps60
  go_wp2_with (refine wpList_load_row rfl 81 (.tmp 2) rfl w.heap.size rfl 81 #[.int .i64 me, .int .i64 (-1), .bool false, .int .i64 timer, .int .i64 tries, .int .i64 0, .int .i64 0, .int .i64 0, .bool false, .bool false, .int .i64 size, .int .i64 0, .slice none 0 0, .int .i64 0, .int .i64 size, .int .i64 0, .slice none 0 0, .slice none 0 0, .slice none 0 0, .slice none 0 0] (0, 0) _ X0.out Try.underlying81 rfl infoLink9 ?_)
  refine HS.mono ?_
  rintro e w3 ⟨⟨oo, oc, rfl⟩, hb3⟩
  have Y0 := Lib.hid (setRow_heap w3 w.heap.size _ #[.int .i64 me, .int .i64 (-1), .bool false, .int .i64 timer, .int .i64 tries, .int .i64 0, .int .i64 0, .int .i64 0, .bool false, .bool false, .int .i64 size, .int .i64 0, .slice none 0 0, .int .i64 0, .int .i64 size, .int .i64 0, .slice none 0 0, .slice none 0 0, .slice oo 1 oc, .slice none 0 0] _ _ (bl_get hb3 X0.out))
  have Y2 := Lib.hid ((fr_row w3 w.heap.size #[.int .i64 me, .int .i64 (-1), .bool false, .int .i64 timer, .int .i64 tries, .int .i64 0, .int .i64 0, .int .i64 0, .bool false, .bool false, .int .i64 size, .int .i64 0, .slice none 0 0, .int .i64 0, .int .i64 size, .int .i64 0, .slice none 0 0, .slice none 0 0, .slice oo 1 oc, .slice none 0 0]).get (bl_get hb3 X2.out) (by omega))
  have HB3 : Hid (Below w.heap.size w w3) := bl_trans HB2.out hb3
  have HB4 : Hid (Below w.heap.size w (w3.setRow w.heap.size #[.int .i64 me, .int .i64 (-1), .bool false, .int .i64 timer, .int .i64 tries, .int .i64 0, .int .i64 0, .int .i64 0, .bool false, .bool false, .int .i64 size, .int .i64 0, .slice none 0 0, .int .i64 0, .int .i64 size, .int .i64 0, .slice none 0 0, .slice none 0 0, .slice oo 1 oc, .slice none 0 0])) := bl_fr HB3.out (fr_row w3 w.heap.size #[.int .i64 me, .int .i64 (-1), .bool false, .int .i64 timer, .int .i64 tries, .int .i64 0, .int .i64 0, .int .i64 0, .bool false, .bool false, .int .i64 size, .int .i64 0, .slice none 0 0, .int .i64 0, .int .i64 size, .int .i64 0, .slice none 0 0, .slice none 0 0, .slice oo 1 oc, .slice none 0 0]) (fun k hk => by omega)
  have Z0 := Lib.hid (bl_get hb3 X0.out)
  clear hb3 HS
  obtain ⟨w4, hw4⟩ : ∃ w4, w3.setRow w.heap.size #[.int .i64 me, .int .i64 (-1), .bool false, .int .i64 timer, .int .i64 tries, .int .i64 0, .int .i64 0, .int .i64 0, .bool false, .bool false, .int .i64 size, .int .i64 0, .slice none 0 0, .int .i64 0, .int .i64 size, .int .i64 0, .slice none 0 0, .slice none 0 0, .slice oo 1 oc, .slice none 0 0] = w4 := ⟨_, rfl⟩
  rw [hw4] at Y0 Y2 HB4
  have e3 : w4.cell? ⟨w.heap.size, 3, none⟩ = some (.int .i64 timer) := by rw [cell_of_row _ _ _ _ _ _ Y0.out]; rfl
  have e5 : w4.cell? ⟨w.heap.size, 5, none⟩ = some (.int .i64 0) := by rw [cell_of_row _ _ _ _ _ _ Y0.out]; rfl
  have z5 : w4.frozen? ⟨w.heap.size, 5, none⟩ = false := rc_frozen Y0.out
  have T0 := Lib.hid (set_obj w4 w.heap.size 5 _ _ (.int .i64 timer) Y0.out)
  have T2 := Lib.hid ((fr_cell w4 w.heap.size 5 (.int .i64 timer)).get Y2.out (by omega))
  have HB5 : Hid (Below w.heap.size w (w4.setCell ⟨w.heap.size, 5, none⟩ (.int .i64 timer))) := bl_fr HB4.out (fr_cell w4 w.heap.size 5 (.int .i64 timer)) (fun k hk => by omega)
  go_wp2_with (first | (refine wpList_store_row rfl 81 (.tmp 2) (.tmp 8) rfl w.heap.size #[.int .i64 me, .int .i64 (-1), .bool false, .int .i64 timer, .int .i64 tries, .int .i64 0, .int .i64 0, .int .i64 0, .bool false, .bool false, .int .i64 size, .int .i64 0, .slice none 0 0, .int .i64 0, .int .i64 size, .int .i64 0, .slice none 0 0, .slice none 0 0, .slice oo 1 oc, .slice none 0 0] rfl rfl 81 #[.int .i64 me, .int .i64 (-1), .bool false, .int .i64 timer, .int .i64 tries, .int .i64 0, .int .i64 0, .int .i64 0, .bool false, .bool false, .int .i64 size, .int .i64 0, .slice none 0 0, .int .i64 0, .int .i64 size, .int .i64 0, .slice none 0 0, .slice none 0 0, .slice none 0 0, .slice none 0 0] Z0.out infoLink9 rfl (by simp [Value.oneCell']) ?_; rw [hw4]) | (refine wpList_load_row rfl 81 (.tmp 2) rfl w.heap.size rfl 81 #[.int .i64 me, .int .i64 (-1), .bool false, .int .i64 timer, .int .i64 tries, .int .i64 timer, .int .i64 0, .int .i64 0, .bool false, .bool false, .int .i64 size, .int .i64 0, .slice none 0 0, .int .i64 0, .int .i64 size, .int .i64 0, .slice none 0 0, .slice none 0 0, .slice oo 1 oc, .slice none 0 0] (0, 0) _ T0.out Try.underlying81 rfl infoLink9 ?_) | (refine wpList_store_row rfl 81 (.tmp 4) (.tmp 12) rfl (w.heap.size + 1) #[.int .i64 me, .int .i64 (-1), .bool false, .int .i64 timer, .int .i64 tries, .int .i64 timer, .int .i64 0, .int .i64 0, .bool false, .bool false, .int .i64 size, .int .i64 0, .slice none 0 0, .int .i64 0, .int .i64 size, .int .i64 0, .slice none 0 0, .slice none 0 0, .slice oo 1 oc, .slice none 0 0] rfl rfl 81 #[.int .i64 0, .int .i64 0, .bool false, .int .i64 0, .int .i64 0, .int .i64 0, .int .i64 0, .int .i64 0, .bool false, .bool false, .int .i64 0, .int .i64 0, .slice none 0 0, .int .i64 0, .int .i64 0, .int .i64 0, .slice none 0 0, .slice none 0 0, .slice none 0 0, .slice none 0 0] T2.out infoLink9 rfl (by simp [Value.oneCell']) ?_))
  have hrow := setRow_heap (w4.setCell ⟨w.heap.size, 5, none⟩ (.int .i64 timer)) (w.heap.size + 1) _ #[.int .i64 me, .int .i64 (-1), .bool false, .int .i64 timer, .int .i64 tries, .int .i64 timer, .int .i64 0, .int .i64 0, .bool false, .bool false, .int .i64 size, .int .i64 0, .slice none 0 0, .int .i64 0, .int .i64 size, .int .i64 0, .slice none 0 0, .slice none 0 0, .slice oo 1 oc, .slice none 0 0] _ _ T2.out
  refine bodyPost_ret (results_cell_row rfl _ _ (w.heap.size + 1) 81 #[.int .i64 me, .int .i64 (-1), .bool false, .int .i64 timer, .int .i64 tries, .int .i64 timer, .int .i64 0, .int .i64 0, .bool false, .bool false, .int .i64 size, .int .i64 0, .slice none 0 0, .int .i64 0, .int .i64 size, .int .i64 0, .slice none 0 0, .slice none 0 0, .slice oo 1 oc, .slice none 0 0] (0, 0) _ rfl hrow Try.underlying81 rfl infoLink9) rfl ?_
  refine ⟨⟨_, _, rfl⟩, ?_⟩
  exact bl_fr HB5.out (fr_row _ (w.heap.size + 1) _) (fun k hk => by omega)

end Go.Proofs.Ythmdibagcbbgoaa
