/- The contract of window.Missing, for whatever numbers. recv.Kept, Missing. recv.Missing. recv.check. Conditions: as they stand. -/
import Derived.RangeFuncNested
import Derived.RangeFuncBound
import Derived.RangeFuncCalls
import Derived.RangeFuncLeaves
import Derived.Shelf.Abstract
import Derived.Shelf.RegionOpen
import Derived.WalkKit
import Derived.OwnWalkIn
import Derived.TacticsInMore
import Derived.LoopNIn
import Derived.LoopIn
import Derived.Maps.AppendAt
import Derived.Lib.Hide
import Derived.Test.YthmdibagcbbgoaaGreatM03
import Derived.Test.YthmdibagcbbgoaaGreatM02
import Derived.Test.YthmdibagcbbgoaaGreatM00
import Derived.RegionTactic
import Derived.BigRegion
import Derived.Deep.QuietTactic
import Derived.Deep.RegionHeld3
import Derived.Deep.DrawnRows
import Derived.BigQuiet
namespace Go.Proofs.YthmdibagcbbgoaaGreat
open Go.RowKit Go.Shelf
attribute [local go_sem] Oper.semAt_some

theorem winLen_way (d : Int) : winLen (d % 128) = (d % 128).toNat := by unfold winLen; omega

/-- What Missing has gathered. -/
def missed (l : List Int) (ys : List N7) : List Int := (ys.filter fun x => !hasN l x.1).map (·.1)
theorem missed_hit (l : List Int) (pre : List N7) {x : N7} (h : hasN l x.1 = false) : missed l (pre ++ [x]) = missed l pre ++ [x.1] := by simp [missed, h]
theorem missed_miss (l : List Int) (pre : List N7) {x : N7} (h : hasN l x.1 = true) : missed l (pre ++ [x]) = missed l pre := by simp [missed, h]
theorem missed_le (l : List Int) (pre : List N7) : (missed l pre).length ≤ pre.length := by unfold missed; rw [List.length_map]; exact List.length_filter_le _ _

set_option maxRecDepth 100000 in
set_option maxHeartbeats 1000000 in
theorem missing_any (base to : Int) (v : Value) (l : List Int) (w : World) (hr : Reads (Value.int .i64) w v l) :
    Calls Tryz.prog 110 #[.int .i64 base, .int .i64 to, v] w fun e w' => ∃ u, e = .returned u ∧
      w'.ownsRow w.heap.size 3 1 u (missed l (win base ((to - base) % 128).toNat)).length ((missed l (win base ((to - base) % 128).toNat)).map (Value.int .i64)) ∧ Below w.heap.size w w' := by
  obtain ⟨i0, hi, hz0, hz1, hz2⟩ := info_parts infoInt
  have hz := zeroVal128
  refine (callsIn_wide (n := 9)).1 ?_
  refine callsIn_of_wp_marks Tryz.func110 rfl trivial ?_ rfl
  simp only [Tryz.ntmps110, List.size_toArray, List.length_cons, List.length_nil, Nat.reduceAdd, Nat.reduceSub, Array.replicate_succ, Array.replicate_zero, List.push_toArray, List.append_toArray, List.nil_append, List.cons_append]
  have HI : Hid ((Tryz.prog.info? 138).map (·.size) = some (numCells l).size) := by rw [numCells_size]; exact (zero_of_info zero128).2
  gi_wp2_with fail
  refine ⟨trivial, ?_⟩
  refine (callsIn_wide.2 (has_any v l _ hr)).mono ?_
  rintro e w1 ⟨rfl, hb1⟩
  gi_wp2_with (refine wpListIn_store_row rfl 138 _ _ rfl _ (numCells l) rfl rfl 138 (numCells []) (heap_alloc_new _ _) HI.out (by rw [numCells_size, numCells_size]) (numCells_one l) ?_)
  rw [World.setRow_alloc_new]
  refine ⟨trivial, ?_⟩
  refine (callsIn_wide.2 (way_any _ _ _)).mono ?_
  rintro e w' ⟨rfl, rfl⟩
  gi_wp2_with fail
  refine ⟨trivial, ?_⟩
  refine (callsIn_wide.2 (each_in _ _ _)).mono ?_
  rintro e w' ⟨rfl, rfl⟩
  gi_wp2_with fail
  -- the four new blocks: which numbers are there, what is gathered, the window's base, its size
  obtain ⟨W0, hW0⟩ : ∃ W0, (((w1.alloc (.cells (numCells l) 138)).alloc (.cells #[.slice none 0 0] 33)).alloc (.cells #[.int .i64 base] 3)).alloc (.cells #[.int .i64 ((to - base) % 128)] 3) = W0 := ⟨_, rfl⟩
  have bI : W0.heap[w1.heap.size]? = some (.cells (numCells l) 138 (0, 0)) := by
    subst hW0; exact (Below.heap_alloc _ _ _ (by simp; omega)).trans ((Below.heap_alloc _ _ _ (by simp; omega)).trans ((Below.heap_alloc _ _ _ (by simp)).trans (heap_alloc_new _ _)))
  have bO : Boxed W0 (w1.heap.size + 1) 33 (.slice none 0 0) := by
    subst hW0; have := Boxed.new (w1.alloc (.cells (numCells l) 138)) 33 (.slice none 0 0); rw [World.size_alloc] at this; exact (this.alloc _).alloc _
  have bB : Boxed W0 (w1.heap.size + 2) 3 (.int .i64 base) := by
    subst hW0; have := Boxed.new ((w1.alloc (.cells (numCells l) 138)).alloc (.cells #[.slice none 0 0] 33)) 3 (.int .i64 base); rw [World.size_alloc, World.size_alloc] at this; exact this.alloc _
  have bS : Boxed W0 (w1.heap.size + 3) 3 ((.int .i64 ((to - base) % 128))) := by
    subst hW0; have := Boxed.new (((w1.alloc (.cells (numCells l) 138)).alloc (.cells #[.slice none 0 0] 33)).alloc (.cells #[.int .i64 base] 3)) 3 ((.int .i64 ((to - base) % 128))); rw [World.size_alloc, World.size_alloc, World.size_alloc] at this; exact this
  have hsz : W0.heap.size = w1.heap.size + 4 := by subst hW0; simp
  have hB0 : Below w.heap.size w W0 := by
    subst hW0; have := hb1.size; exact (((hb1.alloc (by omega) _).alloc (by simp; omega) _).alloc (by simp; omega) _).alloc (by simp; omega) _
  have hle1 := hb1.size
  rw [hW0]
  clear hW0 hb1 hr HI hz
  refine wpIn_rangeFunc_ownG rfl (by decide) (gf := 89) (lb := #[.pointer (some ⟨w1.heap.size + 3, 0, none⟩), .pointer (some ⟨w1.heap.size + 2, 0, none⟩)]) rfl trivial (enters_of Tryz.func89 (by kernel_rfl) rfl)
    (each_stops 8 (by decide) (w1.heap.size + 2) (w1.heap.size + 3) base ((to - base) % 128) W0 bB.cell bS.cell) KeepB.trans (keepB_put (by omega)) (Below.refl _ _) (fun _ => rfl)
    (fun pre W => (∃ u, Boxed W (w1.heap.size + 1) 33 u ∧ W.ownsRow W0.heap.size 3 1 u (missed l pre).length ((missed l pre).map (Value.int .i64)) ∧ True) ∧ W.heap[w1.heap.size]? = some (.cells (numCells l) 138 (0, 0)) ∧ Below w.heap.size w W ∧ W0.heap.size ≤ W.heap.size)
    (fun _ _ _ => False)
    (OwnFrom.and (Own.from (holdsRow_own W0.heap.size (w1.heap.size + 1) 33 3 1 (fun pre => (missed l pre).length) (fun pre => (missed l pre).map (Value.int .i64)) (fun _ _ => True)) _)
      (OwnFrom.and (Own.from (cells_own _ (fun _ => .cells (numCells l) 138 (0, 0)) (fun _ => rfl)) _) (OwnFrom.and (ownFrom_below (Nat.le_refl _) (by omega)) (fun _ _ _ _ hs hg _ => Nat.le_trans hs hg.size))))
    (fun _ _ _ _ _ hs _ _ => hs)
    ⟨⟨_, bO, World.ownsRow_nil _ _ _ _, trivial⟩, bI, hB0, Nat.le_refl _⟩
    (fun x => { tmps := #[Value.int IntKind.i64 base, .int .i64 to, v, undef, undef, undef, Value.slice none 0 0,
          Value.pointer (some { block := w1.heap.size, off := 0 }),
          Value.pointer (some { block := w1.heap.size + 1, off := 0 }), .int .i64 x.1, v, Value.agg (numCells l),
          Value.int IntKind.i64 base, Value.int IntKind.i64 base, .int .i64 to, .int .i64 ((to - base) % 128),
          Value.func (Fn.func 89) #[]
            #[Value.pointer (some { block := w1.heap.size + 3, off := 0 }),
              Value.pointer (some { block := w1.heap.size + 2, off := 0 })],
          .int .i64 x.1, undef, undef, undef, undef, undef, undef, undef, undef, undef], defers := [] }) ?assign ?body ?done ?stop
  case assign =>
    intro r x W K hK
    gi_wp2
    exact hK
  case body =>
    rintro r pre x W ⟨⟨u, hv, hrow, _⟩, hI, hB, hz⟩ hlt
    obtain ⟨hx0, hx1⟩ := x.2
    have hc := hv.cell
    have hpl := missed_le l pre
    have hplw : pre.length < 128 := Nat.lt_of_lt_of_le hlt (winLen_le _)
    have hcx : W.cell? ⟨w1.heap.size, x.1.toNat, none⟩ = some (.bool (hasN l x.1)) := by
      rw [cell_of_row W _ _ _ _ _ hI, numCells_at l (by omega)]; rw [show ((x.1.toNat : Nat) : Int) = x.1 by omega]
    by_cases hh : hasN l x.1 = false
    · rw [hh] at hcx
      have HH := Lib.hid hh
      clear hh
      gi_wp2_with (gi_at_builtin; refine wpListIn_append_own _ rfl _ _ 33 rfl W0.heap.size 3 i0 (.int .i64 0) 1 8 Tryz.underlying33 hi hz0 hz1 hz2 rfl (by decide) _ _ _ rfl (hrow.alloc _) ⟨W.heap.size, 0, none⟩ 1 1 [.int .i64 x.1] rfl rfl (cell_one_new _ _ _) (by simp [Value.oneCell']) (by unfold maxLen; omega) (by omega) (by simp; omega) ?_; intro v' w2 hown' hgrow _; obtain ⟨g', cap', rfl⟩ := ownsRow_succ hown'; obtain ⟨hv1, hv2, hr2, hk2, hb2, hkk⟩ := boxed_app (n₀ := w.heap.size) hv (by decide) hrow (by omega) (by omega) hown' hgrow; have hc1 := hv1.cell; have hf1 := hv1.frozen)
      exact ⟨hk2.from _, hkk _ (by omega) (by omega) (by omega), ⟨_, hv2, by rw [missed_hit l pre HH.out]; simpa using hr2, trivial⟩, (hkk _ (by omega) (by omega) (by omega)).trans hI, hB.trans hb2, Nat.le_trans hz hk2.size⟩
    · have hn : hasN l x.1 = true := by simpa using hh
      rw [hn] at hcx
      have HH := Lib.hid hn
      clear hh hn
      gi_wp2
      exact ⟨KeepsFrom.refl _ _, rfl, ⟨u, hv, by rw [missed_miss l pre HH.out]; exact hrow, trivial⟩, hI, hB, hz⟩
  case done =>
    rintro D ys W hD hys ⟨⟨u, hv, hrow, _⟩, hI, hB, hz⟩ hK
    rw [winLen_way] at hys
    subst hys
    have hc := hv.cell
    gi_wp2
    refine ⟨by simp, .inl ⟨_, _, rfl, run_takeDeferred hK, ?_⟩⟩
    exact ⟨_, results_tmp rfl _ _ _, u, rfl, ownsRow_mono (ownsRow_putObj hrow _ hK rfl) (by omega), hB.trans (belowK_b (w := w) (Nat.le_refl _) W D _ _ (by omega) hK rfl rfl)⟩
  case stop =>
    rintro D c pre W _ _ h _
    exact h.elim

end Go.Proofs.YthmdibagcbbgoaaGreat

namespace Go.Proofs.YthmdibagcbbgoaaGreat
open Go.RowKit

theorem sorted_congr {l l' : List Int} (h : ∀ j, hasN l j = hasN l' j) (ys : List N7) : sorted l ys = sorted l' ys := by
  unfold sorted
  congr 1
  refine List.filter_congr fun x _ => h x.1
theorem hasN_mem {l l' : List Int} (h : ∀ x, x ∈ l ↔ x ∈ l') (j : Int) : hasN l j = hasN l' j := by
  unfold hasN
  rw [Bool.eq_iff_iff, List.any_eq_true, List.any_eq_true]
  constructor
  · rintro ⟨x, hx, hj⟩; exact ⟨x, (h x).1 hx, hj⟩
  · rintro ⟨x, hx, hj⟩; exact ⟨x, (h x).2 hx, hj⟩
theorem run_range_map {P : Program} {w : World} {t K E : TypeId} {b : Nat} {es : Array MapEntry} {clock : Nat} (ht : P.underlying t = some (.map K E)) (hb : w.heap[b]? = some (.map es clock)) :
    (Instr.range t (.map (some b))).run P w = .ok (.pointer (some ⟨w.heap.size, 0, none⟩)) (w.alloc (.mapIter (some b) clock #[] clock)) := by
  simp [Instr.range, run_underlying ht, MapKept.run_getObj_map hb, Result.andThen]
/-- The keys that were gone over. -/
structure Gone (es : Array MapEntry) (seen : Array Nat) (ls : List Int) : Prop where
  len : seen.size = ls.length
  mem : ∀ e ∈ es.toList, seen.contains e.born = true → ∃ k ∈ ls, e.key = .int .i64 k
  back : ∀ k ∈ ls, ∃ e ∈ es.toList, e.key = .int .i64 k
theorem Gone.start (es : Array MapEntry) : Gone es #[] [] := ⟨rfl, fun e _ h => by simp at h, fun k hk => by simp at hk⟩
theorem Gone.next {es : Array MapEntry} {seen : Array Nat} {ls : List Int} {clock : Nat} {f : List (Int × Value)} (h : Gone es seen ls) (hE : Ents es clock f) {e : MapEntry} (he : e ∈ (leftOf es seen).toList) : ∃ k, e.key = .int .i64 k ∧ Gone es (seen.push e.born) (ls ++ [k]) := by
  obtain ⟨hm, hns⟩ := mem_left he
  obtain ⟨j, hj, hej⟩ := List.mem_iff_getElem.1 hm
  have hjf : j < f.length := by rw [← hE.len]; exact hj
  obtain ⟨e', he', hk, _⟩ := hE.at_ (List.getElem?_eq_getElem hjf)
  rw [List.getElem?_eq_getElem hj, hej] at he'
  cases he'
  refine ⟨f[j].1, hk, ⟨by simp [h.len], fun e2 h2 hc => ?_, fun k hk2 => ?_⟩⟩
  · rw [Array.contains_push] at hc
    rcases Bool.or_eq_true _ _ ▸ hc with hc | hc
    · obtain ⟨k, hk3, hke⟩ := h.mem e2 h2 hc
      exact ⟨k, by simp [hk3], hke⟩
    · have hb : e2.born = e.born := by simpa using hc
      obtain ⟨j2, hj2, he2⟩ := List.mem_iff_getElem.1 h2
      have : j2 = j := by
        have hn := hE.born
        have h1 : (es.toList.map (·.born))[j2]'(by simpa using hj2) = (es.toList.map (·.born))[j]'(by simpa using hj) := by simp [he2, hej, hb]
        exact (List.getElem_inj hn).1 h1
      subst this
      rw [hej] at he2
      subst he2
      exact ⟨_, by simp, hk⟩
  · rcases List.mem_append.1 hk2 with h3 | h3
    · exact h.back k h3
    · simp at h3; subst h3; exact ⟨e, hm, hk⟩
theorem Gone.all {es : Array MapEntry} {seen : Array Nat} {ls : List Int} {clock : Nat} {f : List (Int × Value)} (h : Gone es seen ls) (hE : Ents es clock f) (h0 : (leftOf es seen).size = 0) : ∀ k, k ∈ ls ↔ k ∈ f.map (·.1) := by
  intro k
  constructor
  · intro hk
    obtain ⟨e, he, hek⟩ := h.back k hk
    have h1 : (e.key, e.val) ∈ es.toList.map (fun e => (e.key, e.val)) := List.mem_map.2 ⟨e, he, rfl⟩
    rw [hE.same] at h1
    obtain ⟨x, hx, hxe⟩ := List.mem_map.1 h1
    injection hxe with hx1 _
    rw [hek] at hx1
    injection hx1 with _ hx2
    exact List.mem_map.2 ⟨x, hx, hx2⟩
  · intro hk
    obtain ⟨x, hx, rfl⟩ := List.mem_map.1 hk
    obtain ⟨j, hj, hxj⟩ := List.mem_iff_getElem.1 hx
    obtain ⟨e, he, hek, _⟩ := hE.at_ (x := x) (List.getElem?_eq_some_iff.2 ⟨hj, hxj⟩)
    have hm := List.mem_of_getElem? he
    have hs : seen.contains e.born = true := by
      cases hc : seen.contains e.born with
      | true => rfl
      | false =>
        have : e ∈ (leftOf es seen) := by
          unfold leftOf
          rw [Array.mem_filter]
          exact ⟨by simpa using hm, by rw [hc]; rfl⟩
        have h2 := Array.size_pos_of_mem this
        omega
    obtain ⟨k, hk2, hke⟩ := h.mem e hm hs
    rw [hek] at hke
    injection hke with _ hke2
    rw [hke2]; exact hk2
theorem left_le (es : Array MapEntry) (seen : Array Nat) : (leftOf es seen).size ≤ es.size := Array.size_filter_le
/-- How many are left to go over. -/
def mleft (es : Array MapEntry) (it : Nat) (w : World) : Nat := match w.heap[it]? with
  | some (.mapIter _ _ seen _) => (leftOf es seen).size
  | _ => 0
theorem mleft_at {es : Array MapEntry} {it : Nat} {w : World} {m : Option Nat} {a c : Nat} {seen : Array Nat} (h : w.heap[it]? = some (.mapIter m a seen c)) : mleft es it w = (leftOf es seen).size := by unfold mleft; rw [h]

theorem rc_form {w : World} {base : Nat} {e : TypeId} {s : Nat} {v : Value} {n : Nat} {xs : List Value} (h : w.ownsRow base e s v n xs) : ∃ ao cap, v = .slice ao n cap := by
  rcases h.2 with ⟨rfl, h0⟩ | ⟨g, cap, cur, rfl, _⟩
  · exact ⟨none, 0, by rw [h0]⟩
  · exact ⟨_, _, rfl⟩
theorem iter_apart {w : World} {base : Nat} {e : TypeId} {s : Nat} {v : Value} {n : Nat} {xs : List Value} (h : w.ownsRow base e s v n xs) {it : Nat} {m : Option Nat} {a c : Nat} {seen : Array Nat} (hi : w.heap[it]? = some (.mapIter m a seen c)) : v.ownBlock ≠ some it := by
  intro ho
  rcases h.2 with ⟨rfl, h0⟩ | ⟨g, cap, cur, rfl, _, h3, _⟩
  · cases ho
  · have : g = it := by simpa [Value.ownBlock] using ho
    rw [this, hi] at h3
    cases h3
theorem infoByte8 : (Tryz.prog.info? 5).map (fun i => (i.zero, i.size, i.bytes)) = some (some (.int .u8 0), 1, 1) := by kernel_rfl
def Rcv.keys (r : Rcv) : List Int := r.kept.map (·.1)

set_option maxRecDepth 100000 in
set_option maxHeartbeats 1000000 in
theorem rckept_any (C D : Nat → Prop) (a : Nat) (r : Rcv) (w : World) (hs : RcvAt C D w a r) (hk : r.kept.length ≤ 1000) :
    Calls Tryz.prog 109 #[.pointer (some ⟨a, 0, none⟩)] w fun e w' => ∃ u, e = .returned u ∧
      w'.ownsRow w.heap.size 3 1 u (sorted r.keys (win r.waits 128)).length ((sorted r.keys (win r.waits 128)).map (Value.int .i64)) ∧ Below w.heap.size w w' := by
  obtain ⟨mb, ab, fk, _, _, _, hne, hb, hM, _, hkeys, _⟩ := hs
  obtain ⟨es, clock, hmb, hE⟩ := hM
  obtain ⟨c0, c1, c2, c3⟩ := rc_cells hb
  have hfl : fk.length = r.kept.length := by have := congrArg List.length hkeys; simpa using this
  have hrg := run_range_map (P := Tryz.prog) (t := 87) Tryz.underlying87 hmb
  have hcnt : Hid (([] : List Int).length + (leftOf es #[]).size ≤ 1000) := by
    unfold Hid
    have h1 := left_le es #[]
    have h2 := hE.len
    simp only [Array.length_toList] at h2
    simp only [List.length_nil]
    omega
  have HE := Lib.hid hE
  have hba : mb < w.heap.size := lt_of_get hmb
  obtain ⟨i0, hi, hz0, hz1, hz2⟩ := info_parts infoInt
  have HB := Lib.hid hb
  clear hE hb
  go_enter Tryz.func109, Tryz.ntmps109
  go_wp2_with fail
  go_loopw [3] (fun l wr => ∃ (seen : Array Nat) (ls : List Int), Hid (Gone es seen ls) ∧ Hid (ls.length + (leftOf es seen).size ≤ 1000) ∧ wr.ownsRow w.heap.size 3 1 l ls.length (ls.map (Value.int .i64)) ∧ Below w.heap.size w wr ∧ wr.heap[w.heap.size]? = some (.mapIter (some mb) clock seen clock)) (fun _ wr => mleft es w.heap.size wr)
  case atStart => exact ⟨#[], [], Gone.start es, hcnt, ⟨rfl, .inl ⟨rfl, rfl⟩⟩, bl_alloc (bl_refl w) _, heap_alloc_new _ _⟩
  case round =>
    obtain ⟨seen, ls, hG, hC, hO, hB, hit⟩ := hrel
    have hmb2 := bl_get hB hmb
    obtain ⟨lo, lc, rfl⟩ := rc_form hO
    rcases run_next_at (P := Tryz.prog) wr 0 w.heap.size mb clock clock seen es clock hit hmb2 HE.out.old (Nat.le_refl _) with ⟨h0, hrun⟩ | ⟨e, he, w1, hw1, hrun⟩
    · have hall := hG.out.all HE.out h0
      have hmem : ∀ j, hasN ls j = hasN r.keys j := hasN_mem fun x => by rw [hall x, hkeys]; rfl
      have hsrt := sorted_congr hmem (win r.waits 128)
      have hll : ls.length ≤ maxLen := by have := hC.out; unfold maxLen; omega
      have HS := Lib.hid (sort_any (r.waits : Int) _ ls wr (Reads.of_owns hO hll))
      have HSRT := Lib.hid hsrt
      have hb2 := bl_get hB HB.out
      obtain ⟨d0, d1, d2, d3⟩ := rc_cells hb2
      have HBB := Lib.hid hB
      clear hall hmem hsrt hO hB hit hmb2 hG hC hb2
      go_wp2_with fail
      refine HS.out.mono ?_
      rintro e w' ⟨u, rfl, hu, hb⟩
      rw [HSRT.out] at hu
      have HU := Lib.hid (ownsRow_mono hu HBB.out.size)
      have HBF := Lib.hid (bl_trans HBB.out hb)
      clear hu hb
      go_wp2
      go_ret
      exact ⟨u, rfl, HU.out, HBF.out⟩
    · obtain ⟨k, hek, hG2⟩ := hG.out.next HE.out he
      have hsm := left_shrinks es seen e he
      have hm0 := mleft_at (es := es) hit
      have hB1 : Below w.heap.size w w1 := by rcases hw1 with rfl | rfl; exact hB; exact bl_drew hB
      have hO1 : w1.ownsRow w.heap.size 3 1 (.slice lo ls.length lc) ls.length (ls.map (Value.int .i64)) := by rcases hw1 with rfl | rfl; exact hO; exact hO
      have hi1 : w1.heap[w.heap.size]? = some (.mapIter (some mb) clock seen clock) := by rcases hw1 with rfl | rfl; exact hit; exact hit
      have hit2 : (w1.putObj w.heap.size (.mapIter (some mb) clock (seen.push e.born) clock)).heap[w.heap.size]? = some (.mapIter (some mb) clock (seen.push e.born) clock) := World.putObj_heap_same (lt_of_get hi1)
      have hB2 : Below w.heap.size w (w1.putObj w.heap.size (.mapIter (some mb) clock (seen.push e.born) clock)) := ⟨hB1.os, hB1.tape, hB1.output, by simpa using hB1.size, fun j hj => (World.putObj_heap_other (by omega)).trans (hB1.block j hj)⟩
      have hO2 := ownsRow_putObj hO1 (.mapIter (some mb) clock (seen.push e.born) clock) hi1 rfl
      replace hrun : (Instr.next (.pointer (some ⟨w.heap.size, 0, none⟩)) false 0).run Tryz.prog wr = .ok (.tuple #[.bool true, e.key, e.val]) (w1.putObj w.heap.size (.mapIter (some mb) clock (seen.push e.born) clock)) := hrun
      generalize w1.putObj w.heap.size (.mapIter (some mb) clock (seen.push e.born) clock) = W2 at hit2 hB2 hO2 hrun
      have hen := run_entry_at (P := Tryz.prog) W2 w.heap.size mb clock seen es clock e hit2 (bl_get hB2 hmb) (mem_left he).1 HE.out.born
      rw [hek] at hrun hen
      have HO := Lib.hid (hO2.alloc (.cells #[.int .i64 k] 3))
      have HG2 := Lib.hid hG2
      have HIT := Lib.hid hit2
      have HB2 := Lib.hid hB2
      have HBE := Lib.hid (bl_alloc hB2 (.cells #[.int .i64 k] 3)).size
      have HSM := Lib.hid hsm
      have HM0 := Lib.hid hm0
      have hC2 : ls.length + 1 + (leftOf es (seen.push e.born)).size ≤ 1000 := by have := hC.out; omega
      have hll : ls.length ≤ 1000 := by omega
      have HC2 := Lib.hid hC2
      have A1 : ls.length + 1 ≤ maxLen := by unfold maxLen; omega
      have A2 : (ls.length + 1) * 8 ≤ 140737488355328 := by omega
      clear he hw1 hB1 hO1 hi1 hit2 hB2 hO2 hG2 hG hsm hm0 hO hB hit hmb2 hek
      go_wp2_with (at_builtin; refine wpList_append_r _ rfl _ _ 33 rfl w.heap.size 3 i0 (.int .i64 0) 8 Tryz.underlying33 hi hz0 hz1 hz2 rfl _ _ _ rfl HO.out (Value.int .i64) _ [k] rfl (reads_one (Value.int .i64) _ _ _) (by simp [Value.oneCell']) A1 A2 HBE.out ?_; intro l2 w3 hO3 hg3 hne3)
      have hne4 := iter_apart HO.out (bl_get (bl_alloc (bl_refl W2) (.cells #[.int .i64 k] 3)) HIT.out)
      have hit3 : w3.heap[w.heap.size]? = some (.mapIter (some mb) clock (seen.push e.born) clock) := by
        refine (hg3.block _ (lt_of_get (bl_get (bl_alloc (bl_refl W2) (.cells #[.int .i64 k] 3)) HIT.out)) fun h => ?_).trans (bl_get (bl_alloc (bl_refl _) _) HIT.out)
        exact hne4 h.symm
      have hB3 := bl_grown (bl_alloc HB2.out (.cells #[.int .i64 k] 3)) hg3 (fun j hj => (HO.out.lt j hj).1)
      refine ⟨⟨seen.push e.born, ls ++ [k], HG2.out, ?_, ?_, hB3, hit3⟩, ?_⟩
      · unfold Hid; rw [List.length_append, List.length_singleton]; exact HC2.out
      · rw [List.length_append, List.map_append]; exact hO3
      · rw [mleft_at hit3, HM0.out]; exact HSM.out

end Go.Proofs.YthmdibagcbbgoaaGreat

namespace Go.Proofs.YthmdibagcbbgoaaGreat
open Go.RowKit

theorem held_ms {w w' : World} {a g k : Nat} {x y : Value} (h1 : w.cell? ⟨a, 1, none⟩ = some x) (h2 : w.cell? ⟨g, k, none⟩ = some y) (hb : Below w.heap.size w w') : Below w.heap.size w w' ∧ w'.cell? ⟨a, 1, none⟩ = some x ∧ w'.cell? ⟨g, k, none⟩ = some y :=
  ⟨hb, below_cell hb h1, below_cell hb h2⟩

def Rcv.numbers (r : Rcv) : List Int := sorted r.keys (win r.waits 128)
def Rcv.missing (r : Rcv) : List Int := match r.numbers.getLast? with
  | none => []
  | some t => missed r.numbers (win r.waits ((t - (r.waits : Int)) % 128).toNat)

set_option maxRecDepth 100000 in
set_option maxHeartbeats 1000000 in
theorem rcmissing_any (C D : Nat → Prop) (a : Nat) (r : Rcv) (w : World) (hs : RcvAt C D w a r) (hk : r.kept.length ≤ 1000) :
    Calls Tryz.prog 105 #[.pointer (some ⟨a, 0, none⟩)] w fun e w' => ∃ u, e = .returned u ∧
      w'.ownsRow w.heap.size 3 1 u r.missing.length (r.missing.map (Value.int .i64)) ∧ Below w.heap.size w w' := by
  have HK := Lib.hid (rckept_any C D a r w hs hk)
  obtain ⟨mb, ab, fk, _, _, _, _, hb, _⟩ := hs
  have hle : (sorted r.keys (win r.waits 128)).length ≤ 128 := by have := sorted_le r.keys (win r.waits 128); rw [win_length] at this; exact this
  obtain ⟨ns, hns⟩ : ∃ ns, sorted r.keys (win r.waits 128) = ns := ⟨_, rfl⟩
  have hmiss : r.missing = match ns.getLast? with
      | none => []
      | some t => missed ns (win r.waits ((t - (r.waits : Int)) % 128).toNat) := by unfold Rcv.missing Rcv.numbers; rw [hns]
  rw [hns] at hle HK
  have HB := Lib.hid hb
  have HM := Lib.hid hmiss
  clear hb hmiss hns
  cases hl : ns.getLast? with
  | none =>
    have hn0 : ns = [] := List.getLast?_eq_none_iff.1 hl
    subst hn0
    go_enter Tryz.func105, Tryz.ntmps105
    go_wp2_with fail
    refine HK.out.mono ?_
    rintro e w1 ⟨u, rfl, hu, hb1⟩
    obtain ⟨uo, uc, rfl⟩ := rc_form hu
    have HB1 := Lib.hid hb1
    clear hu hb1
    go_wp2
    go_ret
    refine ⟨_, rfl, ?_, HB1.out⟩
    rw [HM.out]
    exact ⟨rfl, .inl ⟨rfl, rfl⟩⟩
  | some t =>
    have hlen : 0 < ns.length := by cases ns with
      | nil => cases hl
      | cons x r => simp
    have hlt : ns[ns.length - 1]? = some t := by rw [← List.getLast?_eq_getElem?]; exact hl
    have hm2 : r.missing = missed ns (win r.waits ((t - (r.waits : Int)) % 128).toNat) := by rw [HM.out, hl]
    have HM2 := Lib.hid hm2
    have h0 : ((ns.length : Int) == 0) = false := beq_eq_false_iff_ne.2 (by omega)
    clear HM hm2
    go_enter Tryz.func105, Tryz.ntmps105
    go_wp2_with fail
    refine HK.out.mono ?_
    rintro e w1 ⟨u, rfl, hu, hb1⟩
    have hr := Reads.of_owns hu (by unfold maxLen; omega)
    have HR := Lib.hid hr
    obtain ⟨_, uo, uc, rfl, _, hc⟩ := hr
    obtain ⟨bb, oo, rfl, hcell⟩ := hc _ t hlt
    obtain ⟨m, hm⟩ : ∃ m, ns.length = m + 1 := ⟨ns.length - 1, by omega⟩
    rw [hm] at HR hcell hle h0 ⊢
    rw [Nat.add_sub_cancel] at hcell
    have HLEN := Lib.hid hm
    have hb2 := bl_get hb1 HB.out
    obtain ⟨c0, c1, c2, c3⟩ := rc_cells hb2
    have HB1 := Lib.hid hb1
    have f0 : (0 : Int) ≤ (m : Int) := by omega
    have f1 : (m : Int) < (m : Int) + 1 := by omega
    have f2 : (m : Int) < ((m + 1 : Nat) : Int) := by omega
    have f3 : (m : Int) + 1 - 1 = (m : Int) := by omega
    have f4 : ((m + 1 : Nat) : Int) - 1 = (m : Int) := by omega
    have f5 : IntKind.i64.wrap (m : Int) = (m : Int) := IntWalk.i64_in _ (by omega)
    have f6 : m < m + 1 := by omega
    have f7 : wrap64 (m : Int) = (m : Int) := by unfold wrap64; omega
    clear hu hb1 hc hl hb2 hlt hlen hm
    go_wp2_with fail
    go_region_held3 (fun w' => Below w1.heap.size w1 w' ∧ w'.cell? ⟨a, 1, none⟩ = some (.int .i64 r.waits) ∧ w'.cell? ⟨bb, oo + m, none⟩ = some (.int .i64 t))
      (exact held_ms c1 hcell (by first | assumption | exact bl_drew (bl_refl _) | exact bl_refl _))
      (first | (go_at_call 110; refine (missing_any _ _ _ ns _ (HR.out.below (by first | assumption | exact bl_drew (bl_refl _)))).mono ?_; rintro e w' ⟨u2, rfl, hO2, hb2⟩; have hB2 : Below w1.heap.size w1 w' := bl_trans (by first | assumption | exact bl_drew (bl_refl _)) hb2))
    all_goals
      go_wp2
      go_ret
      refine ⟨u2, rfl, ?_, bl_trans HB1.out hB2⟩
      rw [HM2.out]
      exact ownsRow_mono hO2 HB1.out.size

end Go.Proofs.YthmdibagcbbgoaaGreat

namespace Go.Proofs.YthmdibagcbbgoaaGreat
open Go.RowKit

theorem zero_bytes (w : World) : (zeroValue 44).run Tryz.prog w = .ok (.slice none 0 0) w := by kernel_rfl
theorem zero_int (w : World) : (zeroValue 3).run Tryz.prog w = .ok (.int .i64 0) w := by kernel_rfl

theorem quiet_same {P : Program} {f : FuncId} {args : Array Value} {w : World} {n : Nat} {v : Value} (h : Calls P f args (w.drewN n) fun e w' => e = .returned v ∧ w.drewN n = w') : Calls P f args (w.drewN n) fun e w'' => e = .returned v ∧ ∃ m, w'' = w.drewN m :=
  h.mono fun _ _ ⟨he, hm⟩ => ⟨he, n, hm.symm⟩
/-- What check says. -/
def Rcv.chk (r : Rcv) (ns : Int) (len : Nat) : Int := if ns < 0 ∨ 128 ≤ ns then 1 else if len = 0 then 2 else if 121 < len then 3 else if ¬ (ns - (r.waits : Int)) % 128 < (r.size : Int) then 7 else if ns ∈ r.keys then 5 else 0

set_option maxRecDepth 100000 in
set_option maxHeartbeats 1000000 in
theorem rccheck_nil (ns : Int) (v : Value) (w : World) :
    Calls Tryz.prog 103 #[.pointer none, .int .i64 ns, v] w fun e w' => e = .returned (.int .i64 7) ∧ w = w' := by
  go_enter Tryz.func103, Tryz.ntmps103
  go_wp2
  go_ret
  exact ⟨rfl, rfl⟩

set_option maxRecDepth 100000 in
set_option maxHeartbeats 1000000 in
theorem rccheck_any (C D : Nat → Prop) (a : Nat) (r : Rcv) (ns : Int) (ao : Option Addr) (n cap : Nat) (w : World) (hs : RcvAt C D w a r) :
    Calls Tryz.prog 103 #[.pointer (some ⟨a, 0, none⟩), .int .i64 ns, .slice ao n cap] w fun e w' => e = .returned (.int .i64 (r.chk ns n)) ∧ ∃ k, w' = w.drewN k := by
  obtain ⟨mb, ab, fk, _, _, _, hne, hb, hM, _, hkeys, _⟩ := hs
  obtain ⟨es, clock, hmb, hE⟩ := hM
  obtain ⟨c0, c1, c2, c3⟩ := rc_cells hb
  have w0 : ∃ k, w = w.drewN k := ⟨0, rfl⟩
  by_cases h1 : ns < 0
  · have e : r.chk ns n = 1 := by unfold Rcv.chk; rw [if_pos (.inl h1)]
    rw [e]
    clear e hb hE
    go_enter Tryz.func103, Tryz.ntmps103
    go_wp2
    go_ret
    exact ⟨rfl, w0⟩
  · by_cases h2 : 128 ≤ ns
    · have e : r.chk ns n = 1 := by unfold Rcv.chk; rw [if_pos (.inr h2)]
      rw [e]
      clear e hb hE
      go_enter Tryz.func103, Tryz.ntmps103
      go_wp2
      go_ret
      exact ⟨rfl, w0⟩
    · have h12 : ¬ (ns < 0 ∨ 128 ≤ ns) := by omega
      by_cases h3 : n = 0
      · have e : r.chk ns n = 2 := by unfold Rcv.chk; rw [if_neg h12, if_pos h3]
        rw [e]
        clear e hb hE
        subst h3
        go_enter Tryz.func103, Tryz.ntmps103
        go_wp2
        go_ret
        exact ⟨rfl, w0⟩
      · have h3' : ((n : Int) == 0) = false := beq_eq_false_iff_ne.2 (by omega)
        by_cases h4 : 121 < n
        · have e : r.chk ns n = 3 := by unfold Rcv.chk; rw [if_neg h12, if_neg h3, if_pos h4]
          have h4' : (121 : Int) < (n : Int) := by omega
          rw [e]
          clear e hb hE
          go_enter Tryz.func103, Tryz.ntmps103
          go_wp2
          go_ret
          exact ⟨rfl, w0⟩
        · have h4' : ¬ (121 : Int) < (n : Int) := by omega
          by_cases h5 : (ns - (r.waits : Int)) % 128 < (r.size : Int)
          · have hd : decide ((ns - (r.waits : Int)) % 128 < (r.size : Int)) = true := decide_eq_true h5
            have hkm : ns ∈ r.keys ↔ ns ∈ fk.map (·.1) := by rw [hkeys]; rfl
            have hlk := fun W : World => fun hW : W.heap[mb]? = some (.map es clock) => run_lookup_map (P := Tryz.prog) (w := W) (t := 87) Tryz.underlying87 Tryz.underlying3 (zero_bytes W) hW hE ns true
            cases hp : pos fk ns with
            | none =>
              have hnk : ns ∉ r.keys := fun h => pos_none hp (hkm.1 h)
              have e : r.chk ns n = 0 := by unfold Rcv.chk; rw [if_neg h12, if_neg h3, if_neg h4, if_neg (fun h => h h5), if_neg hnk]
              rw [e]
              simp only [hp] at hlk
              clear e hb hE hp h5 hnk hkm hkeys h12
              go_enter Tryz.func103, Tryz.ntmps103
              go_wp2_with fail
              go_quiet ((go_at_call 70; exact quiet_same (in_any _ _ _ _)))
              rw [hd]
              have c2' : (w.drewN nq).cell? ⟨a, 2, none⟩ = some (.map (some mb)) := c2
              have hl := hlk (w.drewN nq) hmb
              go_wp2
              go_ret
              exact ⟨rfl, nq, rfl⟩
            | some y =>
              have hyk : ns ∈ r.keys := by
                rw [hkm]
                exact List.mem_map.2 ⟨_, List.mem_of_getElem? (pos_some (j := y.1) (v := y.2) hp), rfl⟩
              have e : r.chk ns n = 5 := by unfold Rcv.chk; rw [if_neg h12, if_neg h3, if_neg h4, if_neg (fun h => h h5), if_pos hyk]
              rw [e]
              simp only [hp] at hlk
              clear e hb hE hp h5 hyk hkm hkeys h12
              go_enter Tryz.func103, Tryz.ntmps103
              go_wp2_with fail
              go_quiet ((go_at_call 70; exact quiet_same (in_any _ _ _ _)))
              rw [hd]
              have c2' : (w.drewN nq).cell? ⟨a, 2, none⟩ = some (.map (some mb)) := c2
              have hl := hlk (w.drewN nq) hmb
              go_wp2
              go_ret
              exact ⟨rfl, nq, rfl⟩
          · have hd : decide ((ns - (r.waits : Int)) % 128 < (r.size : Int)) = false := decide_eq_false h5
            have e : r.chk ns n = 7 := by unfold Rcv.chk; rw [if_neg h12, if_neg h3, if_neg h4, if_pos h5]
            rw [e]
            clear e hb hE h5
            go_enter Tryz.func103, Tryz.ntmps103
            go_wp2_with fail
            go_quiet ((go_at_call 70; exact quiet_same (in_any _ _ _ _)))
            rw [hd]
            go_wp2
            go_ret
            exact ⟨rfl, nq, rfl⟩

end Go.Proofs.YthmdibagcbbgoaaGreat
