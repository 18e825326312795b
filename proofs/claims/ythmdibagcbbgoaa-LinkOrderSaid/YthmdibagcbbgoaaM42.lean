/- portagelaw09's line: collect. Conditions: as they stand. -/
import Derived.Test.YthmdibagcbbgoaaM41
namespace Go.Proofs.Ythmdibagcbbgoaa
open Go.RowKit

section
variable {P : Program} {o : Oper} {a : Act} {w : World} {K : Act → World → Prop} {Q : Exit → Act → World → Prop}
theorem wp_append_run (s x : Operand) (t : TypeId) (ho : o.op = .call { callee := .builtin .append, args := #[s, x], argTypes := #[t, t] }) {v u v' : Value} {w' : World} (hs : a.eval s = v) (hx : a.eval x = u)
    (hrun : (Builtin.append_ #[t, t] o.type #[v, u]).run P w = .ok v' w') (h : K (a.put o.dst v') w') : o.wp P a w K Q := by
  unfold Oper.wp execOp
  simp only [ho, resolve, invoke, builtin, Sem.run_bind, Sem.run_pure, Result.andThen_ok, List.map_toArray, List.map_cons, List.map_nil, hs, hx, hrun]
  exact h
end
section
variable {P : Program} {ops : Array Oper} {Q : Exit → Act → World → Prop} {S : World → Prop} {n : Nat}
theorem at_list {i : Nat} {o : Oper} (h : ops.toList[i]? = some o) : ops[i]? = some o := by rw [← Array.getElem?_toList]; exact h
theorem wpOrd_takeL {i : Nat} {r : List (Nat × Bool)} {a : Act} {w : World} {o : Oper} {v : Value} (ho : ops.toList[i]? = some o) (hw : Region.wanted o (yielded ops a.tmps) = true)
    (hy : ∀ w', S w' → (execOp a.eval o).run P w' = .ok (.value v) w') (h : wpOrd P ops n S Q r (a.put o.dst v) w) : wpOrd P ops n S Q ((i, true) :: r) a w := wpOrd_take (at_list ho) hw hy h
theorem wpOrd_stepL {i : Nat} {r : List (Nat × Bool)} {a : Act} {w : World} {o : Oper} (ho : ops.toList[i]? = some o) (hw : Region.wanted o (yielded ops a.tmps) = true)
    (h : ∀ K, Hid (∀ a' w', S w' → wpOrd P ops n S Q r a' w' → K a' w') → o.wp P a w K Q) : wpOrd P ops n S Q ((i, false) :: r) a w := wpOrd_step (at_list ho) hw h
theorem wpOrd_lastL {r : List (Nat × Bool)} {a : Act} {w : World} {o : Oper} (ho : ops.toList[n]? = some o) (hw : Region.wanted o (yielded ops a.tmps) = true)
    (h : ∀ K, Hid (∀ a' w', wpOrd P ops n S Q r a' w' → K a' w') → o.wp P a w K Q) : wpOrd P ops n S Q ((n, false) :: r) a w := wpOrd_last (at_list ho) hw h
end
def Ln.one (L : Ln) (i : Nat) (E : List Nat) : Ln :=
  { L with e := upd L.e i { L.e i with out := [], inn := [] }, way := upd L.way (1 - i) (L.way (1 - i) ++ (L.e i).out), inn := upd L.inn i (L.inn i ++ E) }
def Ln.stage (L : Ln) (E0 E1 : List Nat) : Nat → Ln
  | 0 => L
  | 1 => L.one 0 E0
  | _ => (L.one 0 E0).one 1 E1
/-- What comes in at an end may be taken. -/
structure Fit (L : Ln) (i : Nat) (E : List Nat) : Prop where
  inn : (L.e i).inn = E.map enc
  asc : (L.inn i ++ E).Pairwise (· < ·)
  lt : ∀ v ∈ E, v < L.n (1 - i)
  n : L.n (1 - i) ≤ 65536
  way : (L.way (1 - i)).length + (L.e i).out.length ≤ 1000000
  len : (L.inn i).length + E.length ≤ 1000000
/-- Some of what came in was looked at. -/
structure Inner (B : Nat) (col : Nat → Nat → Nat) (cl : Nat → Nat) (w5 : World) (nb : Nat) (a s r : Nat → Nat) (ov iv wv : Nat → Value) (st : Nat → St) (i : Nat) (L : Ln) (E : List Nat) (k : Nat) (wr : World) : Prop where
  ex : ∃ cl' uv, LineP B col cl' wr nb a s r ov iv wv uv st true { L with inn := upd L.inn i (L.inn i ++ E.take k) } ∧ ∀ q, q < w5.heap.size → cl' q = cl q
  fr : Fr (fun q => cl q ≠ 0) w5 wr

theorem upd_upd {α : Type} (f : Nat → α) (i : Nat) (x y : α) : upd (upd f i x) i y = upd f i y := by
  funext j
  unfold upd
  split <;> rfl
theorem take_succ9 {E : List Nat} {k y : Nat} (hy : E[k]? = some y) : E.take (k + 1) = E.take k ++ [y] := by
  rw [List.take_add_one, hy]
  rfl
theorem inner_step {P : Program} {B : Nat} {col : Nat → Nat → Nat} {cl cl' : Nat → Nat} {w5 wr W7 W9 : World} {nb : Nat} {a s r : Nat → Nat} {ov iv wv uv : Nat → Value} {st : Nat → St} {i : Nat} {L : Ln} {E : List Nat} {k y : Nat} {u : Value}
    (hL : LineP B col cl' wr nb a s r ov iv wv uv st true { L with inn := upd L.inn i (L.inn i ++ E.take k) }) (hcl : ∀ q, q < w5.heap.size → cl' q = cl q) (hfr : Fr (fun q => cl q ≠ 0) w5 wr) (hi : i < 2) (hy : E[k]? = some y) (hm : (L.inn i).length + E.length ≤ 1000000)
    (h7 : Below wr.heap.size wr W7) (h9 : Below (W7.setCell ⟨nb, 16, none⟩ (.bool true)).heap.size (W7.setCell ⟨nb, 16, none⟩ (.bool true)) W9) (hu : Reads (Value.int .i64) W9 u [(y : Int)])
    (t ty : TypeId) (inf : TypeInfo) (z : Value) (ht : P.underlying t = some (.slice 3)) (hinf : P.info? 3 = some inf) (hz : inf.zero = some z) (hzs : z.cells.size = 1) (hs7 : inf.size = 1) (hby : inf.bytes = 8) :
    ∃ v' w2, (Builtin.append_ #[t, t] ty #[uv i, u]).run P W9 = .ok v' w2 ∧ w2.heap[nb]? = some (.cells (lineCells a st wv uv L.n true) 60 (0, 0)) ∧ (∃ o n c, v' = .slice o n c) ∧ Inner B col cl w5 nb a s r ov iv wv st i L E (k + 1) (w2.setCell ⟨nb, 14 + i, none⟩ v') := by
  have hk := (List.getElem?_eq_some_iff.1 hy).1
  have hP := (hL.below h7).put (ok' := true) (n' := L.n) 16 (.bool true) rfl
  have hL9 := hP.1.below h9
  obtain ⟨v', w2, hrun, hK⟩ := hL9.inns (P := P) (j := i) hi (by
    show (upd L.inn i (L.inn i ++ E.take k) i).length ≤ _
    rw [upd_same, List.length_append, List.length_take]
    omega) u y hu t ty inf z ht hinf hz hzs hs7 hby
  have f7 : Fr (fun q => cl' q ≠ 0) wr (W7.setCell ⟨nb, 16, none⟩ (.bool true)) := (Fr.of_below (F := fun q => cl' q ≠ 0) h7).trans (fr_cell W7 nb 16 (.bool true)) fun k hk => .inl (by rw [hk, hL.own]; omega)
  have f9 : Fr (fun q => cl' q ≠ 0) wr W9 := f7.then_below h9
  have hf := f9.trans hK.fr fun k hk => .inl hk
  have hsz : w5.heap.size ≤ wr.heap.size := hfr.size
  have hsz9 := f9.size
  obtain ⟨cl2, uv2, hd, hd2⟩ := hK.done
  refine ⟨v', w2, hrun, hK.hb, hK.form, ⟨⟨cl2, uv2, ?_, fun q hq => by rw [hd2 q (by omega)]; exact hcl q hq⟩, hfr.trans hf fun q hq => ?_⟩⟩
  · have e : upd (upd L.inn i (L.inn i ++ E.take k)) i (upd L.inn i (L.inn i ++ E.take k) i ++ [y]) = upd L.inn i (L.inn i ++ E.take (k + 1)) := by
      rw [upd_upd, upd_same, List.append_assoc, ← take_succ9 hy]
    rw [← e]
    exact hd
  · by_cases h : q < w5.heap.size
    · exact .inl (by rw [← hcl q h]; exact hq)
    · exact .inr (by omega)

set_option maxRecDepth 100000 in
set_option maxHeartbeats 4000000 in
theorem line_collect {B : Nat} {w : World} {nb : Nat} {st : Nat → St} {L : Ln} {E0 E1 : List Nat} (h : LineAt B w nb st true L) (f0 : Fit L 0 E0) (f1 : Fit (L.one 0 E0) 1 E1) :
    Calls Try.prog 43 #[.pointer (some ⟨nb, 0, none⟩)] w fun e w' => (∃ v, e = .returned v) ∧ LineAt B w' nb st true (L.stage E0 E1 2) ∧ Below B w w' := by
  obtain ⟨i1, gi, gz0, gz1, gz2⟩ := info_parts (infoCtl)
  obtain ⟨i2, ji, jz0, jz1, jz2⟩ := info_parts (infoInt)
  have wr1 : IntKind.i64.wrap 1 = 1 := by decide
  have wr0 : IntKind.i64.wrap 0 = 0 := by decide
  have H := Lib.hid h
  have F0 := Lib.hid f0
  have F1 := Lib.hid f1
  clear h f0 f1
  go_enter Try.func43, Try.ntmps43
  go_wp2_with fail
  go_loopw [2] (fun iv wr => ∃ i : Nat, iv = .int .i64 i ∧ i ≤ 2 ∧ Hid (LineAt B wr nb st true (L.stage E0 E1 i)) ∧ Hid (Below B w wr)) (fun iv _ => 10 - (intOf iv).toNat)
  case atStart => exact ⟨0, rfl, by omega, H, Below.refl _ _⟩
  case round =>
    clear H
    obtain ⟨i, rfl, hi, H, HBL⟩ := hrel
    rcases (show i = 0 ∨ i = 1 ∨ i = 2 by omega) with rfl | rfl | rfl
    · have H' : Hid (LineAt B wr nb st true L) := H
      clear H
      have F := F0
      obtain ⟨col, cl, a, s, r, ov, iv, wv, uv, hL⟩ := H'.out.ex
      have e0 : wr.cell? ⟨nb, 0, none⟩ = some (.pointer (some ⟨a 0, 0, none⟩)) := hL.cell 0 rfl
      have e1 : wr.cell? ⟨nb, 11, none⟩ = some (wv 1) := hL.cell 11 rfl
      have HO := fun W : World => fun hb : Below wr.heap.size wr W => lout_any B _ W _ _ _ _ _ _ ((hL.lk 0 (by omega)).skip (n := 0) hb)
      have HL := Lib.hid hL
      clear hL
      simp only [show ((0 : Nat) : Int) = 0 from rfl]
      go_wp2_with fail
      refine wp_region_ord (n := 21) (S := fun W => W.cell? ⟨nb, 0, none⟩ = some (.pointer (some ⟨a 0, 0, none⟩)) ∧ W.cell? ⟨nb, 11, none⟩ = some (wv 1))
        [(0, true), (1, true), (2, true), (3, true), (4, true), (5, true), (6, true), (7, true), (8, true), (9, true), (10, true), (11, true), (12, true), (13, true), (14, true), (15, true), (18, true), (19, true), (16, false), (17, false), (20, true), (21, false)]
        (by kernel_rfl) (fun _ _ d _ _ h => by cases d <;> exact h) (by kernel_rfl) ⟨below_cell (bl_drew (bl_refl wr)) e0, below_cell (bl_drew (bl_refl wr)) e1⟩ ?_
      iterate 18
        refine wpOrd_takeL (v := ?_) rfl (by rfl) ?_ ?_
        rotate_left
        focus (rintro w1 ⟨hS1, hS2⟩; go_simp; try with_reducible rfl)
        simp only [Act.put, List.setIfInBounds_toArray, List.set_cons_zero, List.set_cons_succ]
      refine wpOrd_stepL rfl (by rfl) (fun K hK => ?_)
      go_simp
      refine (HO _ (bl_drew (bl_refl wr))).mono ?_
      rintro e w3 ⟨rfl, rfl⟩
      have hfa := fr_cell wr.drew (a 0) 13 (.slice none 0 0)
      have hna : nb ≠ a 0 := fun e => by
        have h1 := HL.out.apart 0 nb (by omega) (by rw [HL.out.own]; omega)
        have h2 := (HL.out.lk 0 (by omega)).own
        rw [← e] at h2
        omega
      refine hK.out _ _ ⟨hfa.cell (below_cell (bl_drew (bl_refl wr)) e0) hna, hfa.cell (below_cell (bl_drew (bl_refl wr)) e1) hna⟩ ?_
      clear hK K
      try simp only [Act.put, List.setIfInBounds_toArray, List.set_cons_zero, List.set_cons_succ]
      refine wpOrd_stepL rfl (by rfl) (fun K hK => ?_)
      obtain ⟨v', w4, hrun, hst⟩ := (HL.out.below (bl_drew (bl_refl wr))).ways (P := Try.prog) (i := 0) (j := 1) (by omega) (by omega) F.out.way 33 33 i1 _ Try.underlying33 gi gz0 rfl gz1 (by omega)
      obtain ⟨vo, vn, vc, rfl⟩ := hst.form
      refine wp_append_run (.tmp 20) (.tmp 27) _ (by rfl) (by rfl) (by rfl) hrun ?_
      have z4 : w4.frozen? ⟨nb, 11, none⟩ = false := rc_frozen hst.hb
      have c4 : w4.cell? ⟨nb, 11, none⟩ = some (wv 1) := by rw [cell_of_row _ _ _ _ _ _ hst.hb]; rfl
      have c0 : w4.cell? ⟨nb, 0, none⟩ = some (.pointer (some ⟨a 0, 0, none⟩)) := by rw [cell_of_row _ _ _ _ _ _ hst.hb]; rfl
      refine hK.out _ _ ⟨c0, c4⟩ ?_
      clear hK K
      try simp only [Act.put, List.setIfInBounds_toArray, List.set_cons_zero, List.set_cons_succ]
      refine wpOrd_takeL (v := ?_) rfl (by rfl) ?_ ?_
      rotate_left
      focus (rintro w1 ⟨hS1, hS2⟩; go_simp; try with_reducible rfl)
      simp only [Act.put, List.setIfInBounds_toArray, List.set_cons_zero, List.set_cons_succ]
      refine wpOrd_lastL rfl (by rfl) (fun K hK => ?_)
      go_simp
      refine hK.out _ _ ?_
      clear hK K
      refine wpOrd_nil ?_
      have HST := Lib.hid hst
      clear hst hrun hfa c0 c4 e0 e1 HO z4
      obtain ⟨W5, hW5⟩ : ∃ W5, w4.setCell ⟨nb, 11, none⟩ (.slice vo vn vc) = W5 := ⟨_, rfl⟩
      have hst5 := HST.out.done
      have hbl5 := HST.out.bl
      rw [hW5] at hst5 hbl5
      simp only [hW5]
      obtain ⟨col5, cl5, a5, s5, r5, ov5, iv5, wv5, uv5, hL5⟩ := hst5.ex
      have m0 : W5.cell? ⟨nb, 0, none⟩ = some (.pointer (some ⟨a5 0, 0, none⟩)) := hL5.cell 0 rfl
      have HI := lin_any B _ W5 _ _ _ _ _ _ (hL5.lk 0 (by omega))
      obtain ⟨⟨col6, ov6, iv6, hL6⟩, hC6, hb6⟩ := hL5.tookIn (i := 0) (by omega) (E := E0) F.out.inn
      obtain ⟨io, ic, hiv⟩ := hC6.form
      rw [hiv] at HI hC6
      have HB5 : Hid (Below B w W5) := HBL.out.trans ((bl_drew (bl_refl wr)).mono HL.out.cols.1 |>.trans hbl5)
      clear hst5 hbl5 HST hW5 hL5 HL HBL H'
      go_wp2_with fail
      refine HI.mono ?_
      rintro e w6 ⟨rfl, rfl⟩
      obtain ⟨W6, hW6⟩ : ∃ W6, W5.setCell ⟨a5 0, 14, none⟩ (.slice none 0 0) = W6 := ⟨_, rfl⟩
      rw [hW6] at hL6 hC6 hb6
      simp only [hW6]
      have HB6 : Hid (Below B w W6) := HB5.out.trans hb6
      have HC6 := Lib.hid hC6
      have HL6 := Lib.hid hL6
      have HIN : Hid (Inner B col6 cl5 W6 nb a5 s5 r5 ov6 iv6 wv5 st 0 { L with e := upd (upd L.e 0 { L.e 0 with out := [] }) 0 { (upd L.e 0 { L.e 0 with out := [] }) 0 with inn := [] }, way := upd L.way 1 (L.way 1 ++ (L.e 0).out) } E0 0 W6) := by
        refine ⟨⟨cl5, uv5, ?_, fun _ _ => rfl⟩, Fr.refl _ _⟩
        rw [List.take_zero, List.append_nil, upd_self]
        exact hL6
      clear hW6 hL6 hC6 hb6 HI m0 HB5 hiv
      go_wp2_with fail
      go_loopw [4] (fun kv wr => ∃ k : Nat, kv = .int .i64 k ∧ k ≤ E0.length ∧ Hid (Inner B col6 cl5 W6 nb a5 s5 r5 ov6 iv6 wv5 st 0 { L with e := upd (upd L.e 0 { L.e 0 with out := [] }) 0 { (upd L.e 0 { L.e 0 with out := [] }) 0 with inn := [] }, way := upd L.way 1 (L.way 1 ++ (L.e 0).out) } E0 k wr)) (fun kv _ => 1000001 - (intOf kv).toNat)
      case atStart => exact ⟨0, rfl, by omega, HIN⟩
      case round =>
        clear HIN
        obtain ⟨k, rfl, hk, HIN⟩ := hrel
        by_cases hlt : k < E0.length
        · obtain ⟨y, hy⟩ := get_some hlt
          obtain ⟨⟨cl', uv', hLr, hcl'⟩, hfr⟩ := HIN.out
          have hCr := HC6.out.fr hfr
          obtain ⟨g, b, q, d, rfl, n0, n1, n2⟩ := hCr.at_ hy
          have hymem := List.mem_of_getElem? hy
          have hyn := F.out.lt y hymem
          have hyn2 := F.out.n
          obtain ⟨p1, hp1⟩ : ∃ p : Int, ((y / 256 % 256 : Nat) : Int) = p := ⟨_, rfl⟩
          obtain ⟨p2, hp2⟩ : ∃ p : Int, ((y % 256 : Nat) : Int) = p := ⟨_, rfl⟩
          rw [hp1] at n1
          rw [hp2] at n2
          have hq1 : IntKind.i64.wrap (p1 * 256) = p1 * 256 := IntWalk.i64_in _ (by omega)
          have hq2 : IntKind.i64.wrap (p1 * 256 + p2) = (y : Int) := by rw [IntWalk.i64_in _ (by omega)]; omega
          have hz9 : y < L.n 1 := hyn
          have j5 : (y : Int) < (L.n 1 : Int) := by omega
          have z14 := hLr.frozen 14
          have z16 := hLr.frozen 16
          have n4 : wr.cell? ⟨nb, 16, none⟩ = some (.bool true) := hLr.cell 16 rfl
          have n5 : wr.cell? ⟨nb, 13, none⟩ = some (.int .i64 (L.n 1)) := hLr.cell 13 rfl
          have j1 : (k : Int) < (E0.length : Int) := by omega
          have j2 : (0 : Int) ≤ (k : Int) := by omega
          have j3 : (k : Int) ≤ 1000000 := by have := F.out.len; omega
          have n3 : wr.cell? ⟨nb, 14, none⟩ = some (uv' 0) := hLr.cell 14 rfl
          have HT : ∃ uo uc, uv' 0 = .slice uo (L.inn 0 ++ E0.take k).length uc := by
            obtain ⟨uo, uc, huv⟩ := rc_form (hLr.inn 0 (by omega)).1
            exact ⟨uo, uc, huv⟩
          have HROW : Hid (wr.ownsRow B 3 1 (uv' 0) (L.inn 0 ++ E0.take k).length (ints (L.inn 0 ++ E0.take k))) := (hLr.inn 0 (by omega)).1
          have HASC : Hid (∀ v ∈ L.inn 0 ++ E0.take k, v < y) := by
            intro v hv
            have hp := F.out.asc
            rcases List.mem_append.1 hv with hv | hv
            · exact (List.pairwise_append.1 hp).2.2 v hv y hymem
            · have hp2 := (List.pairwise_append.1 hp).2.1
              obtain ⟨m, hm⟩ := List.mem_iff_getElem?.1 hv
              have hml := (List.getElem?_eq_some_iff.1 hm).1
              rw [List.length_take] at hml
              rw [List.getElem?_take, if_pos (by omega)] at hm
              have h1 := List.pairwise_iff_getElem.1 hp2 m k (by omega) (by omega) (by omega)
              rw [(List.getElem?_eq_some_iff.1 hm).2, (List.getElem?_eq_some_iff.1 hy).2] at h1
              exact h1
          obtain ⟨uo, uc, huv⟩ := HT
          have HUV := Lib.hid huv
          rw [huv] at n3
          have HST : Hid (∀ W7 W9 : World, Below wr.heap.size wr W7 → Below (W7.setCell ⟨nb, 16, none⟩ (.bool true)).heap.size (W7.setCell ⟨nb, 16, none⟩ (.bool true)) W9 → ∀ u, Reads (Value.int .i64) W9 u [(y : Int)] → ∃ v' w2, (Builtin.append_ #[57, 57] 57 #[.slice uo (L.inn 0 ++ E0.take k).length uc, u]).run Try.prog W9 = .ok v' w2 ∧ w2.heap[nb]? = some (.cells (lineCells a5 st wv5 uv' (L.n) true) 60 (0, 0)) ∧ (∃ o n c, v' = .slice o n c) ∧ Inner B col6 cl5 W6 nb a5 s5 r5 ov6 iv6 wv5 st 0 { L with e := upd (upd L.e 0 { L.e 0 with out := [] }) 0 { (upd L.e 0 { L.e 0 with out := [] }) 0 with inn := [] }, way := upd L.way 1 (L.way 1 ++ (L.e 0).out) } E0 (k + 1) (w2.setCell ⟨nb, 14, none⟩ v')) := fun W7 W9 h7 h9 u hu => by
            have := inner_step (P := Try.prog) hLr hcl' hfr (by omega) hy F.out.len h7 h9 hu 57 57 i2 _ Try.underlying57 ji jz0 rfl jz1 jz2
            rw [huv] at this
            exact this
          have HRW : Hid (∀ W7 : World, Below wr.heap.size wr W7 → (W7.setCell ⟨nb, 16, none⟩ (.bool true)).heap[nb]? = some (.cells (lineCells a5 st wv5 uv' L.n true) 60 (0, 0))) := fun W7 h7 => ((hLr.below h7).put (ok' := true) (n' := L.n) 16 (.bool true) rfl).1.hb
          clear hLr HIN hfr hCr huv hcl' hymem hyn hyn2
          by_cases hT : (L.inn 0 ++ E0.take k).length = 0
          · rw [hT] at n3 HST
            have HLEN := Lib.hid hT
            have j4 : (-1 : Int) < (y : Int) := by omega
            clear hT
            go_wp2_with fail
            go_quiet (fail)
            go_wp2_with fail
            obtain ⟨W7, hW7⟩ : ∃ W7, wr.drewN nq = W7 := ⟨_, rfl⟩
            have hb7 : Below wr.heap.size wr W7 := hW7 ▸ bl_drewN (bl_refl wr) nq
            simp only [hW7]
            have hrow := HRW.out W7 hb7
            obtain ⟨W8, hW8⟩ : ∃ W8, W7.setCell ⟨nb, 16, none⟩ (.bool true) = W8 := ⟨_, rfl⟩
            have HST8 := fun (W9 : World) (h9 : Below W8.heap.size W8 W9) (u : Value) (hu : Reads (Value.int .i64) W9 u [(y : Int)]) => HST.out W7 W9 hb7 (by rw [hW8]; exact h9) u hu
            rw [hW8] at hrow
            simp only [hW8]
            have k14 : W8.cell? ⟨nb, 14, none⟩ = some (.slice uo 0 uc) := by
              rw [cell_of_row _ _ _ _ _ _ hrow]
              show some (uv' 0) = _
              rw [HUV.out]
              rw [HLEN.out]
            clear hW7 hW8 hrow hb7 HST HRW n3 n4 n5 z14 z16
            refine wp_region_ord (n := 14) (S := fun W => W.cell? ⟨nb, 14, none⟩ = some (.slice uo 0 uc))
              [(0, true), (1, true), (2, true), (3, true), (4, true), (5, true), (6, true), (7, true), (8, true), (11, true), (12, true), (9, false), (10, false), (13, true), (14, false)]
              (by kernel_rfl) (fun _ _ d _ _ h => by cases d <;> exact h) (by kernel_rfl) (below_cell (bl_drew (bl_refl _)) k14) ?_
            iterate 11
              refine wpOrd_takeL (v := ?_) rfl (by rfl) ?_ ?_
              rotate_left
              focus (rintro w1 hS1; go_simp; try with_reducible rfl)
              simp only [Act.put, List.setIfInBounds_toArray, List.set_cons_zero, List.set_cons_succ]
            refine wpOrd_stepL rfl (by rfl) (fun K hK => ?_)
            go_simp
            refine hK.out _ _ (below_cell (bl_alloc (bl_drew (bl_refl W8)) _) k14) ?_
            clear hK K
            try simp only [Act.put, List.setIfInBounds_toArray, List.set_cons_zero, List.set_cons_succ]
            refine wpOrd_stepL rfl (by rfl) (fun K hK => ?_)
            obtain ⟨v', w2, hrun, hb2, ⟨vo', vn', vc', rfl⟩, hInn⟩ := HST8 _ (bl_alloc (bl_drew (bl_refl W8)) _) _ (reads_one (Value.int .i64) W8.drew (y : Int) _)
            refine wp_append_run (.tmp 124) (.tmp 126) _ (by rfl) (by rfl) (by rfl) hrun ?_
            have c2 : w2.cell? ⟨nb, 14, none⟩ = some (.slice uo 0 uc) := by
              rw [cell_of_row _ _ _ _ _ _ hb2]
              show some (uv' 0) = _
              rw [HUV.out]
              rw [HLEN.out]
            have z2 : w2.frozen? ⟨nb, 14, none⟩ = false := rc_frozen hb2
            refine hK.out _ _ c2 ?_
            clear hK K
            try simp only [Act.put, List.setIfInBounds_toArray, List.set_cons_zero, List.set_cons_succ]
            refine wpOrd_takeL (v := ?_) rfl (by rfl) ?_ ?_
            rotate_left
            focus (rintro w1 hS1; go_simp; try with_reducible rfl)
            simp only [Act.put, List.setIfInBounds_toArray, List.set_cons_zero, List.set_cons_succ]
            refine wpOrd_lastL rfl (by rfl) (fun K hK => ?_)
            go_simp
            refine hK.out _ _ ?_
            clear hK K
            refine wpOrd_nil ?_
            have HINN := Lib.hid hInn
            clear hInn hrun hb2 c2 z2 k14 HST8
            go_wp2
            go_roundw
            case rel => exact ⟨k + 1, by go_num, by omega, HINN⟩
            case measure => simp [intOf]; omega
          · obtain ⟨n, hn⟩ : ∃ n, (L.inn 0 ++ E0.take k).length = n := ⟨_, rfl⟩
            obtain ⟨z, hz⟩ := get_some (xs := L.inn 0 ++ E0.take k) (k := n - 1) (by omega)
            obtain ⟨g9, rfl⟩ : ∃ g, uo = some ⟨g, 0, none⟩ := by
              rcases HROW.out.2 with ⟨e, h0⟩ | ⟨g, c', cur, e, _⟩
              · omega
              · rw [HUV.out] at e
                simp only [Value.slice.injEq] at e
                exact ⟨g, e.1⟩
            have zc : wr.cell? ⟨g9, n - 1, none⟩ = some (.int .i64 (z : Int)) := by
              have h1 := HROW.out
              rw [HUV.out] at h1
              have := h1.cells (g := g9) rfl (n - 1) (.int .i64 (z : Int)) (by unfold ints; rw [List.getElem?_map, hz]; rfl)
              rw [Addr.add_lit, Nat.zero_add] at this
              exact this
            have hzy := HASC.out z (List.mem_of_getElem? hz)
            rw [hn] at n3 HST
            have HLEN := Lib.hid hn
            have hnb : n ≤ 1000000 := by
              have h1 := F.out.len
              have h2 := hn
              rw [List.length_append, List.length_take] at h2
              omega
            obtain ⟨m, hm⟩ : ∃ m, n - 1 = m := ⟨_, rfl⟩
            rw [hm] at zc
            have j4 : (z : Int) < (y : Int) := by omega
            have j6 : (0 : Int) < (n : Int) := by omega
            have j7 : IntKind.i64.wrap ((n : Int) - 1) = (m : Int) := by rw [IntWalk.i64_in _ (by omega)]; omega
            have j8 : (m : Int) < (n : Int) := by omega
            have j9 : (0 : Int) ≤ (m : Int) := by omega
            clear hT hn hz hzy hnb hm
            go_wp2_with fail
            go_quiet (fail)
            generalize nq = nqa
            go_wp2_with fail
            go_quiet (fail)
            go_wp2_with fail
            obtain ⟨W7, hW7⟩ : ∃ W7, wr.drewN (nqa + nq) = W7 := ⟨_, rfl⟩
            have hb7 : Below wr.heap.size wr W7 := hW7 ▸ bl_drewN (bl_refl wr) (nqa + nq)
            simp only [hW7]
            have hrow := HRW.out W7 hb7
            obtain ⟨W8, hW8⟩ : ∃ W8, W7.setCell ⟨nb, 16, none⟩ (.bool true) = W8 := ⟨_, rfl⟩
            have HST8 := fun (W9 : World) (h9 : Below W8.heap.size W8 W9) (u : Value) (hu : Reads (Value.int .i64) W9 u [(y : Int)]) => HST.out W7 W9 hb7 (by rw [hW8]; exact h9) u hu
            rw [hW8] at hrow
            simp only [hW8]
            have k14 : W8.cell? ⟨nb, 14, none⟩ = some (.slice (some ⟨g9, 0, none⟩) n uc) := by
              rw [cell_of_row _ _ _ _ _ _ hrow]
              show some (uv' 0) = _
              rw [HUV.out]
              rw [HLEN.out]
            clear hW7 hW8 hrow hb7 HST HRW n3 n4 n5 z14 z16
            refine wp_region_ord (n := 14) (S := fun W => W.cell? ⟨nb, 14, none⟩ = some (.slice (some ⟨g9, 0, none⟩) n uc))
              [(0, true), (1, true), (2, true), (3, true), (4, true), (5, true), (6, true), (7, true), (8, true), (11, true), (12, true), (9, false), (10, false), (13, true), (14, false)]
              (by kernel_rfl) (fun _ _ d _ _ h => by cases d <;> exact h) (by kernel_rfl) (below_cell (bl_drew (bl_refl _)) k14) ?_
            iterate 11
              refine wpOrd_takeL (v := ?_) rfl (by rfl) ?_ ?_
              rotate_left
              focus (rintro w1 hS1; go_simp; try with_reducible rfl)
              simp only [Act.put, List.setIfInBounds_toArray, List.set_cons_zero, List.set_cons_succ]
            refine wpOrd_stepL rfl (by rfl) (fun K hK => ?_)
            go_simp
            refine hK.out _ _ (below_cell (bl_alloc (bl_drew (bl_refl W8)) _) k14) ?_
            clear hK K
            try simp only [Act.put, List.setIfInBounds_toArray, List.set_cons_zero, List.set_cons_succ]
            refine wpOrd_stepL rfl (by rfl) (fun K hK => ?_)
            obtain ⟨v', w2, hrun, hb2, ⟨vo', vn', vc', rfl⟩, hInn⟩ := HST8 _ (bl_alloc (bl_drew (bl_refl W8)) _) _ (reads_one (Value.int .i64) W8.drew (y : Int) _)
            refine wp_append_run (.tmp 124) (.tmp 126) _ (by rfl) (by rfl) (by rfl) hrun ?_
            have c2 : w2.cell? ⟨nb, 14, none⟩ = some (.slice (some ⟨g9, 0, none⟩) n uc) := by
              rw [cell_of_row _ _ _ _ _ _ hb2]
              show some (uv' 0) = _
              rw [HUV.out]
              rw [HLEN.out]
            have z2 : w2.frozen? ⟨nb, 14, none⟩ = false := rc_frozen hb2
            refine hK.out _ _ c2 ?_
            clear hK K
            try simp only [Act.put, List.setIfInBounds_toArray, List.set_cons_zero, List.set_cons_succ]
            refine wpOrd_takeL (v := ?_) rfl (by rfl) ?_ ?_
            rotate_left
            focus (rintro w1 hS1; go_simp; try with_reducible rfl)
            simp only [Act.put, List.setIfInBounds_toArray, List.set_cons_zero, List.set_cons_succ]
            refine wpOrd_lastL rfl (by rfl) (fun K hK => ?_)
            go_simp
            refine hK.out _ _ ?_
            clear hK K
            refine wpOrd_nil ?_
            have HINN := Lib.hid hInn
            clear hInn hrun hb2 c2 z2 k14 HST8
            go_wp2
            go_roundw
            case rel => exact ⟨k + 1, by go_num, by omega, HINN⟩
            case measure => simp [intOf]; omega
        · have hke : k = E0.length := by omega
          have HE1 : Hid (LineAt B wr nb st true (L.stage E0 E1 1) ∧ Below B w wr) := by
            obtain ⟨⟨cl', uv', hLr, hcl'⟩, hfr⟩ := HIN.out
            rw [hke, List.take_length] at hLr
            simp only [upd_same, upd_upd] at hLr
            exact ⟨⟨_, _, _, _, _, _, _, _, _, hLr⟩, HB6.out.trans (fr_bl hfr (fun q hq => (HL6.out.cols.2 q hq).1) HL6.out.cols.1)⟩
          subst hke
          clear HIN HL6 HC6 hk hlt
          go_wp2
          go_roundw
          case rel => exact ⟨1, by go_num, by omega, HE1.out.1, HE1.out.2⟩
          case measure => simp [intOf]
    · obtain ⟨M, hM⟩ : ∃ M, L.one 0 E0 = M := ⟨_, rfl⟩
      have H' : Hid (LineAt B wr nb st true M) := by rw [← hM]; exact H
      have HFIN : Hid (∀ W, LineAt B W nb st true (M.one 1 E1) → LineAt B W nb st true (L.stage E0 E1 2)) := fun W h => by rw [← hM] at h; exact h
      rw [hM] at F1
      have F := F1
      clear H hM
      obtain ⟨col, cl, a, s, r, ov, iv, wv, uv, hL⟩ := H'.out.ex
      have e0 : wr.cell? ⟨nb, 1, none⟩ = some (.pointer (some ⟨a 1, 0, none⟩)) := hL.cell 1 rfl
      have e1 : wr.cell? ⟨nb, 10, none⟩ = some (wv 0) := hL.cell 10 rfl
      have HO := fun W : World => fun hb : Below wr.heap.size wr W => lout_any B _ W _ _ _ _ _ _ ((hL.lk 1 (by omega)).skip (n := 0) hb)
      have HL := Lib.hid hL
      clear hL
      simp only [show ((1 : Nat) : Int) = 1 from rfl]
      go_wp2_with fail
      refine wp_region_ord (n := 21) (S := fun W => W.cell? ⟨nb, 1, none⟩ = some (.pointer (some ⟨a 1, 0, none⟩)) ∧ W.cell? ⟨nb, 10, none⟩ = some (wv 0))
        [(0, true), (1, true), (2, true), (3, true), (4, true), (5, true), (6, true), (7, true), (8, true), (9, true), (10, true), (11, true), (12, true), (13, true), (14, true), (15, true), (18, true), (19, true), (16, false), (17, false), (20, true), (21, false)]
        (by kernel_rfl) (fun _ _ d _ _ h => by cases d <;> exact h) (by kernel_rfl) ⟨below_cell (bl_drew (bl_refl wr)) e0, below_cell (bl_drew (bl_refl wr)) e1⟩ ?_
      iterate 18
        refine wpOrd_takeL (v := ?_) rfl (by rfl) ?_ ?_
        rotate_left
        focus (rintro w1 ⟨hS1, hS2⟩; go_simp; try with_reducible rfl)
        simp only [Act.put, List.setIfInBounds_toArray, List.set_cons_zero, List.set_cons_succ]
      refine wpOrd_stepL rfl (by rfl) (fun K hK => ?_)
      go_simp
      refine (HO _ (bl_drew (bl_refl wr))).mono ?_
      rintro e w3 ⟨rfl, rfl⟩
      have hfa := fr_cell wr.drew (a 1) 13 (.slice none 0 0)
      have hna : nb ≠ a 1 := fun e => by
        have h1 := HL.out.apart 1 nb (by omega) (by rw [HL.out.own]; omega)
        have h2 := (HL.out.lk 1 (by omega)).own
        rw [← e] at h2
        omega
      refine hK.out _ _ ⟨hfa.cell (below_cell (bl_drew (bl_refl wr)) e0) hna, hfa.cell (below_cell (bl_drew (bl_refl wr)) e1) hna⟩ ?_
      clear hK K
      try simp only [Act.put, List.setIfInBounds_toArray, List.set_cons_zero, List.set_cons_succ]
      refine wpOrd_stepL rfl (by rfl) (fun K hK => ?_)
      obtain ⟨v', w4, hrun, hst⟩ := (HL.out.below (bl_drew (bl_refl wr))).ways (P := Try.prog) (i := 1) (j := 0) (by omega) (by omega) F.out.way 33 33 i1 _ Try.underlying33 gi gz0 rfl gz1 (by omega)
      obtain ⟨vo, vn, vc, rfl⟩ := hst.form
      refine wp_append_run (.tmp 20) (.tmp 27) _ (by rfl) (by rfl) (by rfl) hrun ?_
      have z4 : w4.frozen? ⟨nb, 10, none⟩ = false := rc_frozen hst.hb
      have c4 : w4.cell? ⟨nb, 10, none⟩ = some (wv 0) := by rw [cell_of_row _ _ _ _ _ _ hst.hb]; rfl
      have c0 : w4.cell? ⟨nb, 1, none⟩ = some (.pointer (some ⟨a 1, 0, none⟩)) := by rw [cell_of_row _ _ _ _ _ _ hst.hb]; rfl
      refine hK.out _ _ ⟨c0, c4⟩ ?_
      clear hK K
      try simp only [Act.put, List.setIfInBounds_toArray, List.set_cons_zero, List.set_cons_succ]
      refine wpOrd_takeL (v := ?_) rfl (by rfl) ?_ ?_
      rotate_left
      focus (rintro w1 ⟨hS1, hS2⟩; go_simp; try with_reducible rfl)
      simp only [Act.put, List.setIfInBounds_toArray, List.set_cons_zero, List.set_cons_succ]
      refine wpOrd_lastL rfl (by rfl) (fun K hK => ?_)
      go_simp
      refine hK.out _ _ ?_
      clear hK K
      refine wpOrd_nil ?_
      have HST := Lib.hid hst
      clear hst hrun hfa c0 c4 e0 e1 HO z4
      obtain ⟨W5, hW5⟩ : ∃ W5, w4.setCell ⟨nb, 10, none⟩ (.slice vo vn vc) = W5 := ⟨_, rfl⟩
      have hst5 := HST.out.done
      have hbl5 := HST.out.bl
      rw [hW5] at hst5 hbl5
      simp only [hW5]
      obtain ⟨col5, cl5, a5, s5, r5, ov5, iv5, wv5, uv5, hL5⟩ := hst5.ex
      have m0 : W5.cell? ⟨nb, 1, none⟩ = some (.pointer (some ⟨a5 1, 0, none⟩)) := hL5.cell 1 rfl
      have HI := lin_any B _ W5 _ _ _ _ _ _ (hL5.lk 1 (by omega))
      obtain ⟨⟨col6, ov6, iv6, hL6⟩, hC6, hb6⟩ := hL5.tookIn (i := 1) (by omega) (E := E1) F.out.inn
      obtain ⟨io, ic, hiv⟩ := hC6.form
      rw [hiv] at HI hC6
      have HB5 : Hid (Below B w W5) := HBL.out.trans ((bl_drew (bl_refl wr)).mono HL.out.cols.1 |>.trans hbl5)
      clear hst5 hbl5 HST hW5 hL5 HL HBL H'
      go_wp2_with fail
      refine HI.mono ?_
      rintro e w6 ⟨rfl, rfl⟩
      obtain ⟨W6, hW6⟩ : ∃ W6, W5.setCell ⟨a5 1, 14, none⟩ (.slice none 0 0) = W6 := ⟨_, rfl⟩
      rw [hW6] at hL6 hC6 hb6
      simp only [hW6]
      have HB6 : Hid (Below B w W6) := HB5.out.trans hb6
      have HC6 := Lib.hid hC6
      have HL6 := Lib.hid hL6
      have HIN : Hid (Inner B col6 cl5 W6 nb a5 s5 r5 ov6 iv6 wv5 st 1 { M with e := upd (upd M.e 1 { M.e 1 with out := [] }) 1 { (upd M.e 1 { M.e 1 with out := [] }) 1 with inn := [] }, way := upd M.way 0 (M.way 0 ++ (M.e 1).out) } E1 0 W6) := by
        refine ⟨⟨cl5, uv5, ?_, fun _ _ => rfl⟩, Fr.refl _ _⟩
        rw [List.take_zero, List.append_nil, upd_self]
        exact hL6
      clear hW6 hL6 hC6 hb6 HI m0 HB5 hiv
      go_wp2_with fail
      go_loopw [4] (fun kv wr => ∃ k : Nat, kv = .int .i64 k ∧ k ≤ E1.length ∧ Hid (Inner B col6 cl5 W6 nb a5 s5 r5 ov6 iv6 wv5 st 1 { M with e := upd (upd M.e 1 { M.e 1 with out := [] }) 1 { (upd M.e 1 { M.e 1 with out := [] }) 1 with inn := [] }, way := upd M.way 0 (M.way 0 ++ (M.e 1).out) } E1 k wr)) (fun kv _ => 1000001 - (intOf kv).toNat)
      case atStart => exact ⟨0, rfl, by omega, HIN⟩
      case round =>
        clear HIN
        obtain ⟨k, rfl, hk, HIN⟩ := hrel
        by_cases hlt : k < E1.length
        · obtain ⟨y, hy⟩ := get_some hlt
          obtain ⟨⟨cl', uv', hLr, hcl'⟩, hfr⟩ := HIN.out
          have hCr := HC6.out.fr hfr
          obtain ⟨g, b, q, d, rfl, n0, n1, n2⟩ := hCr.at_ hy
          have hymem := List.mem_of_getElem? hy
          have hyn := F.out.lt y hymem
          have hyn2 := F.out.n
          obtain ⟨p1, hp1⟩ : ∃ p : Int, ((y / 256 % 256 : Nat) : Int) = p := ⟨_, rfl⟩
          obtain ⟨p2, hp2⟩ : ∃ p : Int, ((y % 256 : Nat) : Int) = p := ⟨_, rfl⟩
          rw [hp1] at n1
          rw [hp2] at n2
          have hq1 : IntKind.i64.wrap (p1 * 256) = p1 * 256 := IntWalk.i64_in _ (by omega)
          have hq2 : IntKind.i64.wrap (p1 * 256 + p2) = (y : Int) := by rw [IntWalk.i64_in _ (by omega)]; omega
          have hz9 : y < M.n 0 := hyn
          have j5 : (y : Int) < (M.n 0 : Int) := by omega
          have z14 := hLr.frozen 15
          have z16 := hLr.frozen 16
          have n4 : wr.cell? ⟨nb, 16, none⟩ = some (.bool true) := hLr.cell 16 rfl
          have n5 : wr.cell? ⟨nb, 12, none⟩ = some (.int .i64 (M.n 0)) := hLr.cell 12 rfl
          have j1 : (k : Int) < (E1.length : Int) := by omega
          have j2 : (0 : Int) ≤ (k : Int) := by omega
          have j3 : (k : Int) ≤ 1000000 := by have := F.out.len; omega
          have n3 : wr.cell? ⟨nb, 15, none⟩ = some (uv' 1) := hLr.cell 15 rfl
          have HT : ∃ uo uc, uv' 1 = .slice uo (M.inn 1 ++ E1.take k).length uc := by
            obtain ⟨uo, uc, huv⟩ := rc_form (hLr.inn 1 (by omega)).1
            exact ⟨uo, uc, huv⟩
          have HROW : Hid (wr.ownsRow B 3 1 (uv' 1) (M.inn 1 ++ E1.take k).length (ints (M.inn 1 ++ E1.take k))) := (hLr.inn 1 (by omega)).1
          have HASC : Hid (∀ v ∈ M.inn 1 ++ E1.take k, v < y) := by
            intro v hv
            have hp := F.out.asc
            rcases List.mem_append.1 hv with hv | hv
            · exact (List.pairwise_append.1 hp).2.2 v hv y hymem
            · have hp2 := (List.pairwise_append.1 hp).2.1
              obtain ⟨m, hm⟩ := List.mem_iff_getElem?.1 hv
              have hml := (List.getElem?_eq_some_iff.1 hm).1
              rw [List.length_take] at hml
              rw [List.getElem?_take, if_pos (by omega)] at hm
              have h1 := List.pairwise_iff_getElem.1 hp2 m k (by omega) (by omega) (by omega)
              rw [(List.getElem?_eq_some_iff.1 hm).2, (List.getElem?_eq_some_iff.1 hy).2] at h1
              exact h1
          obtain ⟨uo, uc, huv⟩ := HT
          have HUV := Lib.hid huv
          rw [huv] at n3
          have HST : Hid (∀ W7 W9 : World, Below wr.heap.size wr W7 → Below (W7.setCell ⟨nb, 16, none⟩ (.bool true)).heap.size (W7.setCell ⟨nb, 16, none⟩ (.bool true)) W9 → ∀ u, Reads (Value.int .i64) W9 u [(y : Int)] → ∃ v' w2, (Builtin.append_ #[57, 57] 57 #[.slice uo (M.inn 1 ++ E1.take k).length uc, u]).run Try.prog W9 = .ok v' w2 ∧ w2.heap[nb]? = some (.cells (lineCells a5 st wv5 uv' (M.n) true) 60 (0, 0)) ∧ (∃ o n c, v' = .slice o n c) ∧ Inner B col6 cl5 W6 nb a5 s5 r5 ov6 iv6 wv5 st 1 { M with e := upd (upd M.e 1 { M.e 1 with out := [] }) 1 { (upd M.e 1 { M.e 1 with out := [] }) 1 with inn := [] }, way := upd M.way 0 (M.way 0 ++ (M.e 1).out) } E1 (k + 1) (w2.setCell ⟨nb, 15, none⟩ v')) := fun W7 W9 h7 h9 u hu => by
            have := inner_step (P := Try.prog) hLr hcl' hfr (by omega) hy F.out.len h7 h9 hu 57 57 i2 _ Try.underlying57 ji jz0 rfl jz1 jz2
            rw [huv] at this
            exact this
          have HRW : Hid (∀ W7 : World, Below wr.heap.size wr W7 → (W7.setCell ⟨nb, 16, none⟩ (.bool true)).heap[nb]? = some (.cells (lineCells a5 st wv5 uv' M.n true) 60 (0, 0))) := fun W7 h7 => ((hLr.below h7).put (ok' := true) (n' := M.n) 16 (.bool true) rfl).1.hb
          clear hLr HIN hfr hCr huv hcl' hymem hyn hyn2
          by_cases hT : (M.inn 1 ++ E1.take k).length = 0
          · rw [hT] at n3 HST
            have HLEN := Lib.hid hT
            have j4 : (-1 : Int) < (y : Int) := by omega
            clear hT
            go_wp2_with fail
            go_quiet (fail)
            go_wp2_with fail
            obtain ⟨W7, hW7⟩ : ∃ W7, wr.drewN nq = W7 := ⟨_, rfl⟩
            have hb7 : Below wr.heap.size wr W7 := hW7 ▸ bl_drewN (bl_refl wr) nq
            simp only [hW7]
            have hrow := HRW.out W7 hb7
            obtain ⟨W8, hW8⟩ : ∃ W8, W7.setCell ⟨nb, 16, none⟩ (.bool true) = W8 := ⟨_, rfl⟩
            have HST8 := fun (W9 : World) (h9 : Below W8.heap.size W8 W9) (u : Value) (hu : Reads (Value.int .i64) W9 u [(y : Int)]) => HST.out W7 W9 hb7 (by rw [hW8]; exact h9) u hu
            rw [hW8] at hrow
            simp only [hW8]
            have k14 : W8.cell? ⟨nb, 15, none⟩ = some (.slice uo 0 uc) := by
              rw [cell_of_row _ _ _ _ _ _ hrow]
              show some (uv' 1) = _
              rw [HUV.out]
              rw [HLEN.out]
            clear hW7 hW8 hrow hb7 HST HRW n3 n4 n5 z14 z16
            refine wp_region_ord (n := 14) (S := fun W => W.cell? ⟨nb, 15, none⟩ = some (.slice uo 0 uc))
              [(0, true), (1, true), (2, true), (3, true), (4, true), (5, true), (6, true), (7, true), (8, true), (11, true), (12, true), (9, false), (10, false), (13, true), (14, false)]
              (by kernel_rfl) (fun _ _ d _ _ h => by cases d <;> exact h) (by kernel_rfl) (below_cell (bl_drew (bl_refl _)) k14) ?_
            iterate 11
              refine wpOrd_takeL (v := ?_) rfl (by rfl) ?_ ?_
              rotate_left
              focus (rintro w1 hS1; go_simp; try with_reducible rfl)
              simp only [Act.put, List.setIfInBounds_toArray, List.set_cons_zero, List.set_cons_succ]
            refine wpOrd_stepL rfl (by rfl) (fun K hK => ?_)
            go_simp
            refine hK.out _ _ (below_cell (bl_alloc (bl_drew (bl_refl W8)) _) k14) ?_
            clear hK K
            try simp only [Act.put, List.setIfInBounds_toArray, List.set_cons_zero, List.set_cons_succ]
            refine wpOrd_stepL rfl (by rfl) (fun K hK => ?_)
            obtain ⟨v', w2, hrun, hb2, ⟨vo', vn', vc', rfl⟩, hInn⟩ := HST8 _ (bl_alloc (bl_drew (bl_refl W8)) _) _ (reads_one (Value.int .i64) W8.drew (y : Int) _)
            refine wp_append_run (.tmp 124) (.tmp 126) _ (by rfl) (by rfl) (by rfl) hrun ?_
            have c2 : w2.cell? ⟨nb, 15, none⟩ = some (.slice uo 0 uc) := by
              rw [cell_of_row _ _ _ _ _ _ hb2]
              show some (uv' 1) = _
              rw [HUV.out]
              rw [HLEN.out]
            have z2 : w2.frozen? ⟨nb, 15, none⟩ = false := rc_frozen hb2
            refine hK.out _ _ c2 ?_
            clear hK K
            try simp only [Act.put, List.setIfInBounds_toArray, List.set_cons_zero, List.set_cons_succ]
            refine wpOrd_takeL (v := ?_) rfl (by rfl) ?_ ?_
            rotate_left
            focus (rintro w1 hS1; go_simp; try with_reducible rfl)
            simp only [Act.put, List.setIfInBounds_toArray, List.set_cons_zero, List.set_cons_succ]
            refine wpOrd_lastL rfl (by rfl) (fun K hK => ?_)
            go_simp
            refine hK.out _ _ ?_
            clear hK K
            refine wpOrd_nil ?_
            have HINN := Lib.hid hInn
            clear hInn hrun hb2 c2 z2 k14 HST8
            go_wp2
            go_roundw
            case rel => exact ⟨k + 1, by go_num, by omega, HINN⟩
            case measure => simp [intOf]; omega
          · obtain ⟨n, hn⟩ : ∃ n, (M.inn 1 ++ E1.take k).length = n := ⟨_, rfl⟩
            obtain ⟨z, hz⟩ := get_some (xs := M.inn 1 ++ E1.take k) (k := n - 1) (by omega)
            obtain ⟨g9, rfl⟩ : ∃ g, uo = some ⟨g, 0, none⟩ := by
              rcases HROW.out.2 with ⟨e, h0⟩ | ⟨g, c', cur, e, _⟩
              · omega
              · rw [HUV.out] at e
                simp only [Value.slice.injEq] at e
                exact ⟨g, e.1⟩
            have zc : wr.cell? ⟨g9, n - 1, none⟩ = some (.int .i64 (z : Int)) := by
              have h1 := HROW.out
              rw [HUV.out] at h1
              have := h1.cells (g := g9) rfl (n - 1) (.int .i64 (z : Int)) (by unfold ints; rw [List.getElem?_map, hz]; rfl)
              rw [Addr.add_lit, Nat.zero_add] at this
              exact this
            have hzy := HASC.out z (List.mem_of_getElem? hz)
            rw [hn] at n3 HST
            have HLEN := Lib.hid hn
            have hnb : n ≤ 1000000 := by
              have h1 := F.out.len
              have h2 := hn
              rw [List.length_append, List.length_take] at h2
              omega
            obtain ⟨m, hm⟩ : ∃ m, n - 1 = m := ⟨_, rfl⟩
            rw [hm] at zc
            have j4 : (z : Int) < (y : Int) := by omega
            have j6 : (0 : Int) < (n : Int) := by omega
            have j7 : IntKind.i64.wrap ((n : Int) - 1) = (m : Int) := by rw [IntWalk.i64_in _ (by omega)]; omega
            have j8 : (m : Int) < (n : Int) := by omega
            have j9 : (0 : Int) ≤ (m : Int) := by omega
            clear hT hn hz hzy hnb hm
            go_wp2_with fail
            go_quiet (fail)
            generalize nq = nqa
            go_wp2_with fail
            go_quiet (fail)
            go_wp2_with fail
            obtain ⟨W7, hW7⟩ : ∃ W7, wr.drewN (nqa + nq) = W7 := ⟨_, rfl⟩
            have hb7 : Below wr.heap.size wr W7 := hW7 ▸ bl_drewN (bl_refl wr) (nqa + nq)
            simp only [hW7]
            have hrow := HRW.out W7 hb7
            obtain ⟨W8, hW8⟩ : ∃ W8, W7.setCell ⟨nb, 16, none⟩ (.bool true) = W8 := ⟨_, rfl⟩
            have HST8 := fun (W9 : World) (h9 : Below W8.heap.size W8 W9) (u : Value) (hu : Reads (Value.int .i64) W9 u [(y : Int)]) => HST.out W7 W9 hb7 (by rw [hW8]; exact h9) u hu
            rw [hW8] at hrow
            simp only [hW8]
            have k14 : W8.cell? ⟨nb, 15, none⟩ = some (.slice (some ⟨g9, 0, none⟩) n uc) := by
              rw [cell_of_row _ _ _ _ _ _ hrow]
              show some (uv' 1) = _
              rw [HUV.out]
              rw [HLEN.out]
            clear hW7 hW8 hrow hb7 HST HRW n3 n4 n5 z14 z16
            refine wp_region_ord (n := 14) (S := fun W => W.cell? ⟨nb, 15, none⟩ = some (.slice (some ⟨g9, 0, none⟩) n uc))
              [(0, true), (1, true), (2, true), (3, true), (4, true), (5, true), (6, true), (7, true), (8, true), (11, true), (12, true), (9, false), (10, false), (13, true), (14, false)]
              (by kernel_rfl) (fun _ _ d _ _ h => by cases d <;> exact h) (by kernel_rfl) (below_cell (bl_drew (bl_refl _)) k14) ?_
            iterate 11
              refine wpOrd_takeL (v := ?_) rfl (by rfl) ?_ ?_
              rotate_left
              focus (rintro w1 hS1; go_simp; try with_reducible rfl)
              simp only [Act.put, List.setIfInBounds_toArray, List.set_cons_zero, List.set_cons_succ]
            refine wpOrd_stepL rfl (by rfl) (fun K hK => ?_)
            go_simp
            refine hK.out _ _ (below_cell (bl_alloc (bl_drew (bl_refl W8)) _) k14) ?_
            clear hK K
            try simp only [Act.put, List.setIfInBounds_toArray, List.set_cons_zero, List.set_cons_succ]
            refine wpOrd_stepL rfl (by rfl) (fun K hK => ?_)
            obtain ⟨v', w2, hrun, hb2, ⟨vo', vn', vc', rfl⟩, hInn⟩ := HST8 _ (bl_alloc (bl_drew (bl_refl W8)) _) _ (reads_one (Value.int .i64) W8.drew (y : Int) _)
            refine wp_append_run (.tmp 124) (.tmp 126) _ (by rfl) (by rfl) (by rfl) hrun ?_
            have c2 : w2.cell? ⟨nb, 15, none⟩ = some (.slice (some ⟨g9, 0, none⟩) n uc) := by
              rw [cell_of_row _ _ _ _ _ _ hb2]
              show some (uv' 1) = _
              rw [HUV.out]
              rw [HLEN.out]
            have z2 : w2.frozen? ⟨nb, 15, none⟩ = false := rc_frozen hb2
            refine hK.out _ _ c2 ?_
            clear hK K
            try simp only [Act.put, List.setIfInBounds_toArray, List.set_cons_zero, List.set_cons_succ]
            refine wpOrd_takeL (v := ?_) rfl (by rfl) ?_ ?_
            rotate_left
            focus (rintro w1 hS1; go_simp; try with_reducible rfl)
            simp only [Act.put, List.setIfInBounds_toArray, List.set_cons_zero, List.set_cons_succ]
            refine wpOrd_lastL rfl (by rfl) (fun K hK => ?_)
            go_simp
            refine hK.out _ _ ?_
            clear hK K
            refine wpOrd_nil ?_
            have HINN := Lib.hid hInn
            clear hInn hrun hb2 c2 z2 k14 HST8
            go_wp2
            go_roundw
            case rel => exact ⟨k + 1, by go_num, by omega, HINN⟩
            case measure => simp [intOf]; omega
        · have hke : k = E1.length := by omega
          have HE1 : Hid (LineAt B wr nb st true (L.stage E0 E1 2) ∧ Below B w wr) := by
            obtain ⟨⟨cl', uv', hLr, hcl'⟩, hfr⟩ := HIN.out
            rw [hke, List.take_length] at hLr
            simp only [upd_same, upd_upd] at hLr
            exact ⟨HFIN.out _ ⟨_, _, _, _, _, _, _, _, _, hLr⟩, HB6.out.trans (fr_bl hfr (fun q hq => (HL6.out.cols.2 q hq).1) HL6.out.cols.1)⟩
          subst hke
          clear HIN HL6 HC6 hk hlt
          go_wp2
          go_roundw
          case rel => exact ⟨2, by go_num, by omega, HE1.out.1, HE1.out.2⟩
          case measure => simp [intOf]
    · have H' : Hid (LineAt B wr nb st true (L.stage E0 E1 2)) := H
      clear H
      simp only [show ((2 : Nat) : Int) = 2 from rfl]
      go_wp2
      go_end0
      exact ⟨⟨_, rfl⟩, H'.out, HBL.out⟩

end Go.Proofs.Ythmdibagcbbgoaa
