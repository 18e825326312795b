/- recv.Kept, Missing. Conditions: as they stand. -/
import Derived.Test.YtagbaoakablfpaaRcv
import Derived.Test.YtagbaoakablfpaaWinSort
import Derived.Test.YtagbaoakablfpaaWinMiss
import Derived.Test.YtagbaoakablfpaaApp
namespace Go.Proofs.Ytagbaoakablfpaa
open Go.RowKit

theorem sorted_congr {l l' : List Int} (h : ∀ j, hasN l j = hasN l' j) (ys : List N7) : sorted l ys = sorted l' ys := by
  unfold sorted
  congr 1
  refine List.filter_congr fun x _ => h x.1
theorem hasN_mem {l l' : List Int} (h : ∀ x, x ∈ l ↔ x ∈ l') (j : Int) : hasN l j = hasN l' j := by
  unfold hasN
  rw [Bool.eq_iff_iff, List.any_eq_true, List.any_eq_true]
  constructor
  · rintro ⟨x, hx, hj⟩; exact ⟨x, (h x).1 hx, hj⟩
  · rintro ⟨x, hx, hj⟩; exact ⟨x, (h x).2 hx, hj⟩
theorem run_range_map {P : Program} {w : World} {t K E : TypeId} {b : Nat} {es : Array MapEntry} {clock : Nat} (ht : P.underlying t = some (.map K E)) (hb : w.heap[b]? = some (.map es clock)) :
    (Instr.range t (.map (some b))).run P w = .ok (.pointer (some ⟨w.heap.size, 0, none⟩)) (w.alloc (.mapIter (some b) clock #[] clock)) := by
  simp [Instr.range, run_underlying ht, MapKept.run_getObj_map hb, Result.andThen]
/-- The keys that were gone over. -/
structure Gone (es : Array MapEntry) (seen : Array Nat) (ls : List Int) : Prop where
  len : seen.size = ls.length
  mem : ∀ e ∈ es.toList, seen.contains e.born = true → ∃ k ∈ ls, e.key = .int .i64 k
  back : ∀ k ∈ ls, ∃ e ∈ es.toList, e.key = .int .i64 k
theorem Gone.start (es : Array MapEntry) : Gone es #[] [] := ⟨rfl, fun e _ h => by simp at h, fun k hk => by simp at hk⟩
theorem Gone.next {es : Array MapEntry} {seen : Array Nat} {ls : List Int} {clock : Nat} {f : List (Int × Value)} (h : Gone es seen ls) (hE : Ents es clock f) {e : MapEntry} (he : e ∈ (leftOf es seen).toList) : ∃ k, e.key = .int .i64 k ∧ Gone es (seen.push e.born) (ls ++ [k]) := by
  obtain ⟨hm, hns⟩ := mem_left he
  obtain ⟨j, hj, hej⟩ := List.mem_iff_getElem.1 hm
  have hjf : j < f.length := by rw [← hE.len]; exact hj
  obtain ⟨e', he', hk, _⟩ := hE.at_ (List.getElem?_eq_getElem hjf)
  rw [List.getElem?_eq_getElem hj, hej] at he'
  cases he'
  refine ⟨f[j].1, hk, ⟨by simp [h.len], fun e2 h2 hc => ?_, fun k hk2 => ?_⟩⟩
  · rw [Array.contains_push] at hc
    rcases Bool.or_eq_true _ _ ▸ hc with hc | hc
    · obtain ⟨k, hk3, hke⟩ := h.mem e2 h2 hc
      exact ⟨k, by simp [hk3], hke⟩
    · have hb : e2.born = e.born := by simpa using hc
      obtain ⟨j2, hj2, he2⟩ := List.mem_iff_getElem.1 h2
      have : j2 = j := by
        have hn := hE.born
        have h1 : (es.toList.map (·.born))[j2]'(by simpa using hj2) = (es.toList.map (·.born))[j]'(by simpa using hj) := by simp [he2, hej, hb]
        exact (List.getElem_inj hn).1 h1
      subst this
      rw [hej] at he2
      subst he2
      exact ⟨_, by simp, hk⟩
  · rcases List.mem_append.1 hk2 with h3 | h3
    · exact h.back k h3
    · simp at h3; subst h3; exact ⟨e, hm, hk⟩
theorem Gone.all {es : Array MapEntry} {seen : Array Nat} {ls : List Int} {clock : Nat} {f : List (Int × Value)} (h : Gone es seen ls) (hE : Ents es clock f) (h0 : (leftOf es seen).size = 0) : ∀ k, k ∈ ls ↔ k ∈ f.map (·.1) := by
  intro k
  constructor
  · intro hk
    obtain ⟨e, he, hek⟩ := h.back k hk
    have h1 : (e.key, e.val) ∈ es.toList.map (fun e => (e.key, e.val)) := List.mem_map.2 ⟨e, he, rfl⟩
    rw [hE.same] at h1
    obtain ⟨x, hx, hxe⟩ := List.mem_map.1 h1
    injection hxe with hx1 _
    rw [hek] at hx1
    injection hx1 with _ hx2
    exact List.mem_map.2 ⟨x, hx, hx2⟩
  · intro hk
    obtain ⟨x, hx, rfl⟩ := List.mem_map.1 hk
    obtain ⟨j, hj, hxj⟩ := List.mem_iff_getElem.1 hx
    obtain ⟨e, he, hek, _⟩ := hE.at_ (x := x) (List.getElem?_eq_some_iff.2 ⟨hj, hxj⟩)
    have hm := List.mem_of_getElem? he
    have hs : seen.contains e.born = true := by
      cases hc : seen.contains e.born with
      | true => rfl
      | false =>
        have : e ∈ (leftOf es seen) := by
          unfold leftOf
          rw [Array.mem_filter]
          exact ⟨by simpa using hm, by rw [hc]; rfl⟩
        have h2 := Array.size_pos_of_mem this
        omega
    obtain ⟨k, hk2, hke⟩ := h.mem e hm hs
    rw [hek] at hke
    injection hke with _ hke2
    rw [hke2]; exact hk2
theorem left_le (es : Array MapEntry) (seen : Array Nat) : (leftOf es seen).size ≤ es.size := Array.size_filter_le
/-- How many are left to go over. -/
def mleft (es : Array MapEntry) (it : Nat) (w : World) : Nat := match w.heap[it]? with
  | some (.mapIter _ _ seen _) => (leftOf es seen).size
  | _ => 0
theorem mleft_at {es : Array MapEntry} {it : Nat} {w : World} {m : Option Nat} {a c : Nat} {seen : Array Nat} (h : w.heap[it]? = some (.mapIter m a seen c)) : mleft es it w = (leftOf es seen).size := by unfold mleft; rw [h]

theorem rc_form {w : World} {base : Nat} {e : TypeId} {s : Nat} {v : Value} {n : Nat} {xs : List Value} (h : w.ownsRow base e s v n xs) : ∃ ao cap, v = .slice ao n cap := by
  rcases h.2 with ⟨rfl, h0⟩ | ⟨g, cap, cur, rfl, _⟩
  · exact ⟨none, 0, by rw [h0]⟩
  · exact ⟨_, _, rfl⟩
theorem iter_apart {w : World} {base : Nat} {e : TypeId} {s : Nat} {v : Value} {n : Nat} {xs : List Value} (h : w.ownsRow base e s v n xs) {it : Nat} {m : Option Nat} {a c : Nat} {seen : Array Nat} (hi : w.heap[it]? = some (.mapIter m a seen c)) : v.ownBlock ≠ some it := by
  intro ho
  rcases h.2 with ⟨rfl, h0⟩ | ⟨g, cap, cur, rfl, _, h3, _⟩
  · cases ho
  · have : g = it := by simpa [Value.ownBlock] using ho
    rw [this, hi] at h3
    cases h3
theorem infoByte8 : (Try.prog.info? 5).map (fun i => (i.zero, i.size, i.bytes)) = some (some (.int .u8 0), 1, 1) := by kernel_rfl
def Rcv.keys (r : Rcv) : List Int := r.kept.map (·.1)

set_option maxRecDepth 100000 in
set_option maxHeartbeats 1000000 in
theorem rckept_any (C D : Nat → Prop) (a : Nat) (r : Rcv) (w : World) (hs : RcvAt C D w a r) (hk : r.kept.length ≤ 1000) :
    Calls Try.prog 15 #[.pointer (some ⟨a, 0, none⟩)] w fun e w' => ∃ u, e = .returned u ∧
      w'.ownsRow w.heap.size 3 1 u (sorted r.keys (win r.waits 128)).length ((sorted r.keys (win r.waits 128)).map (Value.int .i64)) ∧ Below w.heap.size w w' := by
  obtain ⟨mb, ab, fk, _, _, _, hne, hb, hM, _, hkeys, _⟩ := hs
  obtain ⟨es, clock, hmb, hE⟩ := hM
  obtain ⟨c0, c1, c2, c3⟩ := rc_cells hb
  have hfl : fk.length = r.kept.length := by have := congrArg List.length hkeys; simpa using this
  have hrg := run_range_map (P := Try.prog) (t := 54) Try.underlying54 hmb
  have hcnt : Hid (([] : List Int).length + (leftOf es #[]).size ≤ 1000) := by
    unfold Hid
    have h1 := left_le es #[]
    have h2 := hE.len
    simp only [Array.length_toList] at h2
    simp only [List.length_nil]
    omega
  have HE := Lib.hid hE
  have hba : mb < w.heap.size := lt_of_get hmb
  obtain ⟨i0, hi, hz0, hz1, hz2⟩ := info_parts infoInt
  have HB := Lib.hid hb
  clear hE hb
  go_enter Try.func15, Try.ntmps15
  go_wp2_with fail
  go_loopw [3] (fun l wr => ∃ (seen : Array Nat) (ls : List Int), Hid (Gone es seen ls) ∧ Hid (ls.length + (leftOf es seen).size ≤ 1000) ∧ wr.ownsRow w.heap.size 3 1 l ls.length (ls.map (Value.int .i64)) ∧ Below w.heap.size w wr ∧ wr.heap[w.heap.size]? = some (.mapIter (some mb) clock seen clock)) (fun _ wr => mleft es w.heap.size wr)
  case atStart => exact ⟨#[], [], Gone.start es, hcnt, ⟨rfl, .inl ⟨rfl, rfl⟩⟩, bl_alloc (bl_refl w) _, heap_alloc_new _ _⟩
  case round =>
    obtain ⟨seen, ls, hG, hC, hO, hB, hit⟩ := hrel
    have hmb2 := bl_get hB hmb
    obtain ⟨lo, lc, rfl⟩ := rc_form hO
    rcases run_next_at (P := Try.prog) wr 0 w.heap.size mb clock clock seen es clock hit hmb2 HE.out.old (Nat.le_refl _) with ⟨h0, hrun⟩ | ⟨e, he, w1, hw1, hrun⟩
    · have hall := hG.out.all HE.out h0
      have hmem : ∀ j, hasN ls j = hasN r.keys j := hasN_mem fun x => by rw [hall x, hkeys]; rfl
      have hsrt := sorted_congr hmem (win r.waits 128)
      have hll : ls.length ≤ maxLen := by have := hC.out; unfold maxLen; omega
      have HS := Lib.hid (sort_any (r.waits : Int) _ ls wr (Reads.of_owns hO hll))
      have HSRT := Lib.hid hsrt
      have hb2 := bl_get hB HB.out
      obtain ⟨d0, d1, d2, d3⟩ := rc_cells hb2
      have HBB := Lib.hid hB
      clear hall hmem hsrt hO hB hit hmb2 hG hC hb2
      go_wp2_with fail
      refine HS.out.mono ?_
      rintro e w' ⟨u, rfl, hu, hb⟩
      rw [HSRT.out] at hu
      have HU := Lib.hid (ownsRow_mono hu HBB.out.size)
      have HBF := Lib.hid (bl_trans HBB.out hb)
      clear hu hb
      go_wp2
      go_ret
      exact ⟨u, rfl, HU.out, HBF.out⟩
    · obtain ⟨k, hek, hG2⟩ := hG.out.next HE.out he
      have hsm := left_shrinks es seen e he
      have hm0 := mleft_at (es := es) hit
      have hB1 : Below w.heap.size w w1 := by rcases hw1 with rfl | rfl; exact hB; exact bl_drew hB
      have hO1 : w1.ownsRow w.heap.size 3 1 (.slice lo ls.length lc) ls.length (ls.map (Value.int .i64)) := by rcases hw1 with rfl | rfl; exact hO; exact hO
      have hi1 : w1.heap[w.heap.size]? = some (.mapIter (some mb) clock seen clock) := by rcases hw1 with rfl | rfl; exact hit; exact hit
      have hit2 : (w1.putObj w.heap.size (.mapIter (some mb) clock (seen.push e.born) clock)).heap[w.heap.size]? = some (.mapIter (some mb) clock (seen.push e.born) clock) := World.putObj_heap_same (lt_of_get hi1)
      have hB2 : Below w.heap.size w (w1.putObj w.heap.size (.mapIter (some mb) clock (seen.push e.born) clock)) := ⟨hB1.os, hB1.tape, hB1.output, by simpa using hB1.size, fun j hj => (World.putObj_heap_other (by omega)).trans (hB1.block j hj)⟩
      have hO2 := ownsRow_putObj hO1 (.mapIter (some mb) clock (seen.push e.born) clock) hi1 rfl
      replace hrun : (Instr.next (.pointer (some ⟨w.heap.size, 0, none⟩)) false 0).run Try.prog wr = .ok (.tuple #[.bool true, e.key, e.val]) (w1.putObj w.heap.size (.mapIter (some mb) clock (seen.push e.born) clock)) := hrun
      generalize w1.putObj w.heap.size (.mapIter (some mb) clock (seen.push e.born) clock) = W2 at hit2 hB2 hO2 hrun
      have hen := run_entry_at (P := Try.prog) W2 w.heap.size mb clock seen es clock e hit2 (bl_get hB2 hmb) (mem_left he).1 HE.out.born
      rw [hek] at hrun hen
      have HO := Lib.hid (hO2.alloc (.cells #[.int .i64 k] 3))
      have HG2 := Lib.hid hG2
      have HIT := Lib.hid hit2
      have HB2 := Lib.hid hB2
      have HBE := Lib.hid (bl_alloc hB2 (.cells #[.int .i64 k] 3)).size
      have HSM := Lib.hid hsm
      have HM0 := Lib.hid hm0
      have hC2 : ls.length + 1 + (leftOf es (seen.push e.born)).size ≤ 1000 := by have := hC.out; omega
      have hll : ls.length ≤ 1000 := by omega
      have HC2 := Lib.hid hC2
      have A1 : ls.length + 1 ≤ maxLen := by unfold maxLen; omega
      have A2 : (ls.length + 1) * 8 ≤ 140737488355328 := by omega
      clear he hw1 hB1 hO1 hi1 hit2 hB2 hO2 hG2 hG hsm hm0 hO hB hit hmb2 hek
      go_wp2_with (at_builtin; refine wpList_append_r _ rfl _ _ 28 rfl w.heap.size 3 i0 (.int .i64 0) 8 Try.underlying28 hi hz0 hz1 hz2 rfl _ _ _ rfl HO.out (Value.int .i64) _ [k] rfl (reads_one (Value.int .i64) _ _ _) (by simp [Value.oneCell']) A1 A2 HBE.out ?_; intro l2 w3 hO3 hg3 hne3)
      have hne4 := iter_apart HO.out (bl_get (bl_alloc (bl_refl W2) (.cells #[.int .i64 k] 3)) HIT.out)
      have hit3 : w3.heap[w.heap.size]? = some (.mapIter (some mb) clock (seen.push e.born) clock) := by
        refine (hg3.block _ (lt_of_get (bl_get (bl_alloc (bl_refl W2) (.cells #[.int .i64 k] 3)) HIT.out)) fun h => ?_).trans (bl_get (bl_alloc (bl_refl _) _) HIT.out)
        exact hne4 h.symm
      have hB3 := bl_grown (bl_alloc HB2.out (.cells #[.int .i64 k] 3)) hg3 (fun j hj => (HO.out.lt j hj).1)
      refine ⟨⟨seen.push e.born, ls ++ [k], HG2.out, ?_, ?_, hB3, hit3⟩, ?_⟩
      · unfold Hid; rw [List.length_append, List.length_singleton]; exact HC2.out
      · rw [List.length_append, List.map_append]; exact hO3
      · rw [mleft_at hit3, HM0.out]; exact HSM.out

end Go.Proofs.Ytagbaoakablfpaa
