/- The walk of the statement ControlPuts. Conditions: the arguments' own. -/
import Derived.WalkKit
import Derived.Lib.Hide
import Derived.RegionTactic
import Derived.Test.YtcglpdbnggekdaaCtlAwake
import Derived.Test.YtcglpdbnggekdaaCtlRput
import Derived.Test.YtcglpdbnggekdaaCtlPlain
namespace Go.Proofs.Ytcglpdbnggekdaa
open Go.RowKit

theorem turn_u8 {x : Int} (h : (Lit.int .u8 x).wf = true) : IntKind.u8.wrap (255 - x) = 255 - x ∧ (Lit.int .u8 (255 - x)).wf = true := by
  have := bounds_u8 h
  exact ⟨by rw [IntKind.wrap_u8]; omega, Go.WalkArith.wf_u8 (by omega)⟩
theorem own_slice {w : World} {base : Nat} {e : TypeId} {s : Nat} {ao : Option Addr} {cap n : Nat} {xs : List Value} (h : w.ownsRow base e s (.slice ao n cap) n xs) (hn : 0 < n) : ∃ g, ao = some ⟨g, 0, none⟩ ∧ base ≤ g ∧ g < w.heap.size := by
  rcases h.2 with ⟨h1, h0⟩ | ⟨g, cap, cur, h1, hb, hg, _⟩
  · omega
  · cases h1
    exact ⟨g, rfl, hb, lt_of_get hg⟩
/-- What a stored byte does to the list. -/
theorem set_wf {xs : List Int} {n i : Nat} {x : Int} (h : xs.length = n ∧ ∀ y ∈ xs, (Lit.int .u8 y).wf = true) (hx : (Lit.int .u8 x).wf = true) : (xs.set i x).length = n ∧ ∀ y ∈ xs.set i x, (Lit.int .u8 y).wf = true := by
  refine ⟨by rw [List.length_set]; exact h.1, fun y hy => ?_⟩
  rcases List.mem_or_eq_of_mem_set hy with h1 | h1
  · exact h.2 y h1
  · rw [h1]; exact hx

set_option maxRecDepth 100000 in
set_option maxHeartbeats 1000000 in
theorem walkControlPuts (k : Int) (_ : (Lit.int .i64 k).wf = true) (ns : Int) (_ : (Lit.int .i64 ns).wf = true) (nr : Int) (_ : (Lit.int .i64 nr).wf = true) (p : Bool) (me : Int) (_ : (Lit.int .i64 me).wf = true) (peer : Int) (_ : (Lit.int .i64 peer).wf = true) (ao : Option Addr) (cap : Nat) (xs : List Int) (w : World) (hr : Reads (Value.int .u8) w (.slice ao xs.length cap) xs) (wx : ∀ n ∈ xs, (Lit.int .u8 n).wf = true) (hle : xs.length * 1 ≤ reachBytes) :
    Calls Try.prog 3 #[.agg #[.int .i64 k, .int .i64 ns, .int .i64 nr, .bool p, .int .i64 me, .int .i64 peer, .slice ao xs.length cap]] w fun e w' => e = .returned (.bool true) ∧ Below w.heap.size w w' := by
  unfold reachBytes at hle
  have hm := hr.1
  have hm2 := hm
  unfold maxLen at hm2
  obtain ⟨L, hL, hLl⟩ : ∃ L : List Int, Hid ((Ctl.mk k ns nr p me peer xs).out = L) ∧ L.length ≤ maxLen := ⟨_, rfl, by
    by_cases h : (Ctl.mk k ns nr p me peer xs).chk = 0
    · rw [Ctl.out_ok h]
      have hd := (chk_zero (show chkN k ns nr me peer xs.length = 0 from h)).2.2.2
      have hs : (Ctl.mk k ns nr p me peer xs).sec.length ≤ 2 := by unfold Ctl.sec; (repeat' split) <;> simp
      simp [Ctl.bytes, be_length, maxLen]; omega
    · rw [Ctl.out_bad h]; simp⟩
  obtain ⟨E, hE⟩ : ∃ E : Int, Hid ((Ctl.mk k ns nr p me peer xs).chk = E) := ⟨_, rfl⟩
  have wx := Lib.hid wx
  go_enter Try.func3, Try.ntmps3
  go_wp2_with fail
  have hbx := heap_alloc_new w (.cells #[.int .i64 k, .int .i64 ns, .int .i64 nr, .bool p, .int .i64 me, .int .i64 peer, .slice ao xs.length cap] 24)
  have hB := bl_alloc (bl_refl w) (.cells #[.int .i64 k, .int .i64 ns, .int .i64 nr, .bool p, .int .i64 me, .int .i64 peer, .slice ao xs.length cap] 24)
  have hr := hr.below hB
  generalize w.alloc (.cells #[.int .i64 k, .int .i64 ns, .int .i64 nr, .bool p, .int .i64 me, .int .i64 peer, .slice ao xs.length cap] 24) = W0 at hbx hB hr ⊢
  refine (copied_any ⟨k, ns, nr, p, me, peer, xs⟩ ao cap _ hr (by show xs.length ≤ _; omega)).mono ?_
  rintro e W1 ⟨ao1, cap1, rfl, hO, hb⟩
  simp only [Ctl.val] at hO ⊢
  have hO := owns_mono hO hB.size
  have hbx := bl_get hb hbx
  have hr := hr.below hb
  have hB := bl_trans hB hb
  clear hb
  go_wp2_with fail
  have hbo := heap_alloc_new W1 (.cells #[.int .i64 k, .int .i64 ns, .int .i64 nr, .bool p, .int .i64 me, .int .i64 peer, .slice ao1 xs.length cap1] 24)
  have hfar : ∀ g, (Value.slice ao1 xs.length cap1).ownBlock = some g → g < W1.heap.size := fun g hg => (hO.lt g hg).2
  have hb := bl_alloc (bl_refl W1) (.cells #[.int .i64 k, .int .i64 ns, .int .i64 nr, .bool p, .int .i64 me, .int .i64 peer, .slice ao1 xs.length cap1] 24)
  have hO := owns_below' hO hb
  have hbx := bl_get hb hbx
  have hr := hr.below hb
  have hB := bl_trans hB hb
  have hs2 : W1.heap.size < (W1.alloc (.cells #[.int .i64 k, .int .i64 ns, .int .i64 nr, .bool p, .int .i64 me, .int .i64 peer, .slice ao1 xs.length cap1] 24)).heap.size := by simp
  clear hb
  generalize hg1 : W1.heap.size = g1 at hbo hfar hs2 ⊢
  generalize W1.alloc (.cells #[.int .i64 k, .int .i64 ns, .int .i64 nr, .bool p, .int .i64 me, .int .i64 peer, .slice ao1 xs.length cap1] 24) = W2 at hO hbo hbx hB hr hs2 ⊢
  clear hg1
  refine (cput_any ⟨k, ns, nr, p, me, peer, xs⟩ ao1 cap1 _ (Reads.of_owns hO hm)).mono ?_
  rintro e W3 ⟨u, rfl, hu, hb⟩
  rw [hE.out]
  rw [hL.out] at hu
  have hu := (Rd.of_owns hu hLl).mono (G := fun i => g1 < i) (fun i hi => by omega)
  have hs3 := hb.size
  have hO := owns_below' hO hb
  have hbx := bl_get hb hbx
  have hbo := bl_get hb hbo
  have hr := hr.below hb
  have hB := bl_trans hB hb
  clear hb
  obtain ⟨d0, d1, d2, d3, d4, d5, d6⟩ := cells_of7 hbx
  go_wp2_with fail
  refine (rput_any ⟨k, ns, nr, p, me, peer, xs⟩ ao cap _ hr).mono ?_
  rintro e W4 ⟨v, rfl, hv, hb⟩
  rw [hE.out]
  rw [hL.out] at hv
  have hv := (Rd.of_owns hv hLl).mono (G := fun i => g1 < i) (fun i hi => by omega)
  have hu := hu.below hb
  have hO := owns_below' hO hb
  have hbo := bl_get hb hbo
  have hB := bl_trans hB hb
  clear hb d0 d1 d2 d3 d4 d5 d6 hbx hr hs2 hs3
  go_wp2_with fail
  go_loopw [8] (fun kk wr => ∃ (i : Nat) (ys : List Int), i ≤ xs.length ∧ kk = .int .i64 i ∧ Hid (ys.length = xs.length ∧ ∀ n ∈ ys, (Lit.int .u8 n).wf = true) ∧ wr.ownsRow w.heap.size 5 1 (.slice ao1 xs.length cap1) xs.length (ys.map (Value.int .u8)) ∧
      wr.heap[g1]? = some (.cells #[.int .i64 k, .int .i64 ns, .int .i64 nr, .bool p, .int .i64 me, .int .i64 peer, .slice ao1 xs.length cap1] 24) ∧ Below w.heap.size w wr ∧ Rd (fun i => g1 < i) (Value.int .u8) wr u L ∧ Rd (fun i => g1 < i) (Value.int .u8) wr v L)
    (fun kk _ => xs.length - (intOf kk).toNat)
  case atStart => exact ⟨0, xs, by omega, rfl, ⟨rfl, wx.out⟩, hO, hbo, hB, hu, hv⟩
  case round =>
    clear hO hB hu hv hbo
    obtain ⟨i, ys, hile, rfl, hys, hO, hbo, hB, hu, hv⟩ := hrel
    have d6 := (cells_of7 hbo).2.2.2.2.2.2
    by_cases hlt : i < xs.length
    · obtain ⟨g, rfl, hg1, hg2⟩ := own_slice hO (by omega)
      obtain ⟨x, hx⟩ := get_some (xs := ys) (k := i) (by have := hys.out.1; omega)
      have hxw := turn_u8 (hys.out.2 x (List.mem_of_getElem? hx))
      have hc : wr.cell? ⟨g, i, none⟩ = some (.int .u8 x) := by rw [hO.cellAt i (by omega), List.getElem?_map, hx]; rfl
      have hz := hO.frozenAt i
      have hst := hO.stored i (.int .u8 (255 - x))
      have hys2 : Hid ((ys.set i (255 - x)).length = xs.length ∧ ∀ n ∈ ys.set i (255 - x), (Lit.int .u8 n).wf = true) := set_wf hys.out hxw.2
      rw [show (Value.int .u8 (255 - x)) = (Value.int .u8) (255 - x) from rfl, ← List.map_set] at hst
      have HST := Lib.hid hst
      have hgl := hfar g rfl
      have hwx := hxw.1
      have hcap : xs.length ≤ cap1 := by
        rcases hO.2 with ⟨h1, _⟩ | ⟨_, _, _, h1, _, _, h2, _⟩
        · cases h1
        · cases h1; exact h2
      clear hst hxw hx hys
      have HF : Fr (fun j => j = g) wr ((wr.setCell ⟨g, i, none⟩ (.int .u8 (255 - x))).drew) := ((Fr.refl (fun j => j = g) _).setCell (p := ⟨g, i, none⟩) (.inl rfl) _).drew
      go_wp2
      go_region
      all_goals
        go_wp2
        go_roundw
        case rel =>
          exact ⟨i + 1, ys.set i (255 - x), by omega, by go_num, hys2, HST.out.1, HF.get hbo (by omega), bl_fr hB HF (by intro j hj; omega), hu.fr HF (by intro j hj; omega), hv.fr HF (by intro j hj; omega)⟩
        case measure => simp [intOf]; omega
    · have hi2 : i = xs.length := by omega
      have c1 := conv_reads hu.1
      have c2 := conv_reads hv.1
      go_wp2_with fail
      refine (awake_any _).mono ?_
      rintro e w' ⟨rfl, hb⟩
      go_wp2
      go_ret
      exact ⟨rfl, bl_trans hB hb⟩

end Go.Proofs.Ytcglpdbnggekdaa
