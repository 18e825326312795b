/- The contract of sender.Again. Contracts of the reference functions of layer 6 that only compute: Reduce, Way, In, Next, for every int. Contracts of the reference functions of layer 6 on lists: Each, Has, Sort, Missing. Conditions: as they stand. -/
import Derived.WalkKit
import Derived.Lib.Hide
import Derived.BigQuiet
import Derived.Deep.QuietTactic
import Derived.Deep.RegionHeld3
import Derived.Deep.DrawnRows
import Derived.Test.YthmdibagcbbgoaaM12
import Derived.Test.YthmdibagcbbgoaaM04
import Derived.Test.YthmdibagcbbgoaaProg
import Derived.Test.YthmdibagcbbgoaaM00
import Derived.Maps.AppendAt
import Derived.Test.YthmdibagcbbgoaaM05
namespace Go.Proofs.Ythmdibagcbbgoaa
open Go.RowKit
attribute [local go_sem ↓] Go.wp_at_zero Go.wp_at_succ

/-- What is told where a payload is asked for once more. -/
def Snd.againE (s : Snd) (ns : Int) : Int := if ns < 0 ∨ 127 < ns then 1 else if (ns - s.base) % 128 < (s.under : Int) then 0 else 4
def Snd.againP (s : Snd) (ns : Int) : List Int := if s.againE ns = 0 then s.ps.getD ((ns - s.base) % 128).toNat [] else []
theorem againE_zero {s : Snd} {ns : Int} (h : s.againE ns = 0) : (0 ≤ ns ∧ ns ≤ 127) ∧ (ns - s.base) % 128 < (s.under : Int) := by
  unfold Snd.againE at h
  by_cases h1 : ns < 0 ∨ 127 < ns
  · rw [if_pos h1] at h; omega
  rw [if_neg h1] at h
  by_cases h2 : (ns - s.base) % 128 < (s.under : Int)
  · omega
  · rw [if_neg h2] at h; omega
theorem quiet_left' {P : Program} {f : FuncId} {args : Array Value} {w : World} {n : Nat} {v : Value} (h : Calls P f args (w.drewN n) fun e w' => e = .returned v ∧ w.drewN n = w') : Calls P f args (w.drewN n) fun e w'' => e = .returned v ∧ ∃ m, w'' = w.drewN m :=
  h.mono fun _ _ ⟨he, hm⟩ => ⟨he, n, hm.symm⟩

set_option maxRecDepth 100000 in
set_option maxHeartbeats 1000000 in
theorem again_bad (a : Nat) (s : Snd) (ao : Option Addr) (n cap : Nat) (ns : Int) (w : World) (hb : w.heap[a]? = some (.cells #[.int .i64 s.size, .int .i64 s.base, .slice ao n cap, .int .i64 s.under] 86 (0, 0))) (h : s.againE ns ≠ 0) :
    Calls Try.prog 28 #[.pointer (some ⟨a, 0, none⟩), .int .i64 ns] w fun e w' => e = .returned (.tuple #[.slice none 0 0, .int .i64 (s.againE ns)]) ∧ Below w.heap.size w w' := by
  obtain ⟨c0, c1, c2, c3⟩ := cells_of4 hb
  unfold Snd.againE at *
  by_cases h1 : ns < 0
  · rw [if_pos (.inl h1)] at *
    clear h
    go_enter Try.func28, Try.ntmps28
    go_wp2
    go_ret2
    exact ⟨rfl, bl_refl w⟩
  by_cases h2 : 127 < ns
  · rw [if_pos (.inr h2)] at *
    clear h
    have h3 : 128 ≤ ns := by omega
    go_enter Try.func28, Try.ntmps28
    go_wp2
    go_ret2
    exact ⟨rfl, bl_refl w⟩
  rw [if_neg (by omega)] at *
  by_cases h3 : (ns - s.base) % 128 < (s.under : Int)
  · rw [if_pos h3] at h
    exact absurd rfl h
  · rw [if_neg h3] at *
    have h4 : ¬ 128 ≤ ns := by omega
    have h5 : decide ((ns - s.base) % 128 < (s.under : Int)) = false := by simpa using h3
    have h5 := Lib.hid h5
    clear h h2 h3 hb
    go_enter Try.func28, Try.ntmps28
    go_wp2_with fail
    go_quiet ((go_at_call 47; exact quiet_left' (in_any _ _ _ _)))
    rw [h5.out]
    go_wp2
    go_ret2
    exact ⟨rfl, bl_drewN (bl_refl w) _⟩

theorem held_12x {w w' : World} {g gx ox : Nat} {a b c d x : Value} {t : TypeId} (hb : w.heap[g]? = some (.cells #[a, b, c, d] t (0, 0))) (hx : w.cell? ⟨gx, ox, none⟩ = some x) (h : Below w.heap.size w w') : Below w.heap.size w w' ∧ w'.cell? ⟨g, 1, none⟩ = some b ∧ w'.cell? ⟨g, 2, none⟩ = some c ∧ w'.cell? ⟨gx, ox, none⟩ = some x :=
  ⟨h, (cells_of4 (bl_get h hb)).2.1, (cells_of4 (bl_get h hb)).2.2.1, below_cell h hx⟩

set_option maxRecDepth 100000 in
set_option maxHeartbeats 1000000 in
theorem again_yes (a size base under ns m : Nat) (g off n cap : Nat) (x : Value) (p : List Int) (w : World) (hb : w.heap[a]? = some (.cells #[.int .i64 size, .int .i64 base, .slice (some ⟨g, off, none⟩) n cap, .int .i64 under] 86 (0, 0)))
    (hns : ns < 128) (hm : Hid (((ns : Int) - base) % 128 = (m : Nat))) (hmu : m < under) (hun : under ≤ n) (hx : w.cell? ⟨g, off + m, none⟩ = some x) (hxr : Reads (Value.int .u8) w x p) (hpl : p.length ≤ 121) :
    Calls Try.prog 28 #[.pointer (some ⟨a, 0, none⟩), .int .i64 ns] w fun e w' => ∃ u : Value, e = .returned (.tuple #[u, .int .i64 0]) ∧ Below w.heap.size w w' ∧
      w'.ownsRow w.heap.size 5 1 u p.length (p.map (Value.int .u8)) := by
  obtain ⟨i0, hi, hz0, hz1, hz2⟩ := info_parts infoByte'
  obtain ⟨c0, c1, c2, c3⟩ := cells_of4 hb
  have e1 : (0 : Int) ≤ (m : Int) := by omega
  have e2 : (m : Int) < (n : Int) := by omega
  have e3 : ¬ (128 : Int) ≤ (ns : Int) := by omega
  have h5 : decide (((ns : Int) - base) % 128 < (under : Int)) = true := by rw [hm.out]; simpa using hmu
  have h5 := Lib.hid h5
  obtain ⟨xo, xc, rfl⟩ : ∃ xo xc, x = .slice xo p.length xc := by
    obtain ⟨_, xo, xc, h, _⟩ := hxr
    exact ⟨xo, xc, h⟩
  go_enter Try.func28, Try.ntmps28
  go_wp2_with fail
  go_quiet ((go_at_call 47; exact quiet_left' (in_any _ _ _ _)))
  rw [h5.out]
  have hB1 := bl_drewN (bl_refl w) nq
  generalize w.drewN nq = W at hB1 ⊢
  have hbW := bl_get hB1 hb
  have hxW := below_cell hB1 hx
  have hrW := hxr.below hB1
  clear c0 c1 c2 c3 hb hx hxr
  have hs1 := hB1.size
  go_wp2_with fail
  go_region_held3 (fun w' => Below W.heap.size W w' ∧ w'.cell? ⟨a, 1, none⟩ = some (.int .i64 base) ∧ w'.cell? ⟨a, 2, none⟩ = some (.slice (some ⟨g, off, none⟩) n cap) ∧ w'.cell? ⟨g, off + m, none⟩ = some (.slice xo p.length xc))
    (exact held_12x hbW hxW (by first | assumption | exact bl_drew (bl_refl _) | exact bl_alloc (bl_drew (bl_refl _)) _ | exact bl_alloc (by assumption) _))
    (first
      | (go_at_call 48; refine (way_any _ _ _).mono ?_; rintro e w' ⟨rfl, rfl⟩; rw [hm.out])
      | (refine step_of_wp (by rfl) (wp_append_r _ (.tmp 25) (.tmp 37) _ rfl W.heap.size 5 i0 (.int .u8 0) 1 Try.underlying22 hi hz0 hz1 hz2 (by rfl) _ _ _ (by rfl) (owns_empty W.drew 5 (Nat.le_refl _)) (Value.int .u8) _ p (by rfl) (hrW.below (bl_alloc (bl_drew (bl_refl _)) _)) (by intros; rfl) (by simp [maxLen]; omega) (by simp; omega) (by simp) ?_); intro u W2 hO2 hg2; have hB2 : Below W.heap.size W W2 := bl_grown (bl_alloc (bl_drew (bl_refl _)) _) hg2 (by intro k hk; cases hk; exact Nat.le_refl _)))
  all_goals
    go_wp2
    go_ret2
    exact ⟨u, rfl, bl_trans hB1 hB2, owns_mono2 (by simpa using hO2) hs1⟩

theorem sagain_any (F : Nat → Prop) (a : Nat) (s : Snd) (hok : s.Ok) (ns : Int) (w : World) (hs : SndAt F w a s) :
    Calls Try.prog 28 #[.pointer (some ⟨a, 0, none⟩), .int .i64 ns] w fun e w' => ∃ u, e = .returned (.tuple #[u, .int .i64 (s.againE ns)]) ∧
      Byt (fun k => w.heap.size ≤ k) w' u (s.againP ns) ∧ Below w.heap.size w w' := by
  obtain ⟨h1, h2, av, vs, D, hb, hA, hl, hav, hD, hp⟩ := hs
  by_cases hE : s.againE ns = 0
  · obtain ⟨⟨hn0, hn1⟩, hmu⟩ := againE_zero hE
    have hP : s.againP ns = s.ps.getD ((ns - s.base) % 128).toNat [] := by unfold Snd.againP; rw [if_pos hE]
    rw [hE, hP]
    have hm0 : 0 ≤ (ns - s.base) % 128 := by omega
    obtain ⟨m, hm⟩ := Int.eq_ofNat_of_zero_le hm0
    have hu1 := hok.under1
    rw [hm, Int.toNat_natCast]
    obtain ⟨ns, rfl⟩ := Int.eq_ofNat_of_zero_le hn0
    obtain ⟨x, hx⟩ := get_some (xs := vs) (k := m) (by omega)
    obtain ⟨q, hq⟩ := get_some (xs := s.ps) (k := m) (by omega)
    have hbq := hp _ x q hx hq
    have hpay := hok.pay q (List.mem_of_getElem? hq)
    rw [List.getD_eq_getElem?_getD, hq]
    obtain ⟨ao, cap, rfl, _⟩ := hA.form
    obtain ⟨g, off, rfl, hcell⟩ := hA.at_ hx
    refine (again_yes a s.size s.base s.under ns m g off vs.length cap x q w hb (by omega) hm (by omega) (by omega) hcell hbq.1.1 hpay.2).mono ?_
    rintro e w' ⟨u, rfl, hB, hO⟩
    exact ⟨u, rfl, ⟨(Rd.of_owns hO (by unfold maxLen; omega)).mono (fun k hk => hk.1), hbq.2⟩, hB⟩
  · have hP : s.againP ns = [] := by unfold Snd.againP; rw [if_neg hE]
    rw [hP]
    obtain ⟨ao, cap, rfl, _⟩ := hA.form
    refine (again_bad a s ao vs.length cap ns w hb hE).mono ?_
    rintro e w' ⟨rfl, hB⟩
    exact ⟨_, rfl, ⟨⟨Reads.nil _ _, fun k hk => by simp [Value.ownBlock] at hk⟩, fun n hn => by simp at hn⟩, hB⟩

end Go.Proofs.Ythmdibagcbbgoaa

namespace Go.Proofs.Ythmdibagcbbgoaa
open Go.RowKit

end Go.Proofs.Ythmdibagcbbgoaa

namespace Go.Proofs.Ythmdibagcbbgoaa
open Go.RowKit

def vals (l : List N7) : List Int := l.map (·.1)

theorem hasN_take {l : List Int} {k : Nat} {x : Int} (hx : l[k]? = some x) (j : Int) : hasN (l.take (k + 1)) j = (hasN (l.take k) j || x % 128 == j) := by
  rw [take_snoc' hx, hasN_snoc]

theorem vals_get {l : List N7} {k : Nat} (h : k < (vals l).length) : ∃ x : N7, l[k]? = some x ∧ (vals l)[k]? = some x.1 := by
  have h' : k < l.length := by simpa [vals] using h
  exact ⟨l[k], List.getElem?_eq_getElem h', by simp [vals, h']⟩

end Go.Proofs.Ythmdibagcbbgoaa
