/- The contract of portageref11.All. Conditions: the lists' bulk is at most 2^20. -/
import Derived.Test.YtaembdlidaogdaaRecKeep
import Derived.Test.YtaembdlidaogdaaRecPutR
import Derived.Test.YtaembdlidaogdaaRecScanR
namespace Go.Proofs.Ytaembdlidaogdaa
open Go.RowKit

def AllR (l : List (List Int)) (w : World) (e : Ending) (w' : World) : Prop :=
  ∃ o k vs, e = .returned (.tuple #[o, k]) ∧ KA w.heap.size o k (keepL l) vs w' ∧ Below w.heap.size w w'

set_option maxRecDepth 100000 in
set_option maxHeartbeats 1000000 in
theorem rall_any (v : Value) (l : List (List Int)) (w : World) (hl : ListsAt w.heap.size w v l) (hbk : bulkL l ≤ 1048576) :
    Calls Try.prog 17 #[v] w (AllR l w) := by
  obtain ⟨ao, cap, rfl, hcap⟩ := hl.form
  have hlen : l.length ≤ 1048576 := Nat.le_trans (bulkL_len l) hbk
  obtain ⟨i0, hi, hz0, hz1, hz2⟩ := info_parts infoByte
  obtain ⟨j0, hj, hy0, hy1, hy2⟩ := info_parts infoBytes
  have HL := Lib.hid hl
  have HBK := Lib.hid hbk
  clear hl hbk
  go_enter Try.func17, Try.ntmps17
  go_wp2
  go_loopw [4, 5, 6] (fun o k ii wr => ∃ (i : Nat) (ks : List (List Int)) (vs : List Value), i ≤ l.length ∧ Hid (ks = keepL (l.take i)) ∧ ii = .int .i64 i ∧ KA w.heap.size o k ks vs wr ∧ Below w.heap.size w wr) (fun _ _ ii _ => l.length - (intOf ii).toNat)
  case atStart =>
    refine ⟨0, [], [], by omega, rfl, rfl, ⟨?_, rfl, ?_, fun i x p hx => by simp at hx⟩, bl_alloc (bl_alloc (bl_refl w) _) _⟩
    · exact owns_bl (owns_empty w 5 (Nat.le_refl _)) (bl_alloc (bl_refl _) _)
    · have := owns_empty (w.alloc (.cells #[] 5)) (base := w.heap.size) 22 (by simp)
      rw [World.size_alloc] at this
      exact this
  case round =>
    obtain ⟨i, ks, vs, hil, hks, rfl, hK, hB⟩ := hrel
    have hsz := hB.size
    by_cases hlt : i < l.length
    · obtain ⟨p, hp⟩ := get_some hlt
      obtain ⟨b, o1, x, rfl, hbl, hcell, hx⟩ := (HL.out.below hB).at_ hp
      obtain ⟨xo, xc, rfl⟩ := hx.form
      have hlt' : (i : Int) < (l.length : Int) := by omega
      have hnx := keep_next hp
      have hkl : (rowB ks).length ≤ 9437184 := by
        have h1 := rowB_le (l.take i)
        have h2 := bulkL_take l i
        rw [← hks.out] at h1
        have := HBK.out
        omega
      have hkl2 : ks.length ≤ 1048576 := by
        have h1 := keep_le (l.take i)
        rw [← hks.out, List.length_take] at h1
        have := HBK.out
        omega
      have hput := rrecput_any _ p (Lib.hid hx.2.1) wr hx.1
      obtain ⟨oo, oc, rfl⟩ := owns_form3 hK.out
      obtain ⟨ko, kc, rfl⟩ := owns_form3 hK.kept
      have HPUT := Lib.hid hput
      have HK := Lib.hid hK
      have HX := Lib.hid hx
      have HB := Lib.hid hB
      have HNX := Lib.hid hnx
      have HKL := Lib.hid hkl
      have HKL2 := Lib.hid hkl2
      have HC0 := Lib.hid hcell
      have HSZ := Lib.hid hsz
      clear hput hK hx hp hB hnx hkl hkl2 hsz
      by_cases hE : recE p = 0
      · have hpl := recE_zero hE
        have hOp : recO p = recB p := by unfold recO; rw [if_pos hE]
        have hrl := recB_length p
        have HKN := Lib.hid (show keepL (l.take (i + 1)) = ks ++ [p] by rw [HNX.out, keep_yes hE, hks.out])
        have A1 : Hid ((rowB ks).length + (recB p).length ≤ maxLen) := by unfold Hid; rw [hrl]; have := HKL.out; unfold maxLen; omega
        have A2 : Hid (((rowB ks).length + (recB p).length) * 1 ≤ 140737488355328) := by unfold Hid; rw [hrl]; have := HKL.out; omega
        have B1 : Hid (ks.length + 1 ≤ maxLen) := by unfold Hid; have := HKL2.out; unfold maxLen; omega
        have B2 : Hid ((ks.length + 1) * 24 ≤ 140737488355328) := by unfold Hid; have := HKL2.out; omega
        have HRM : Hid ((recB p).length ≤ maxLen) := by unfold Hid; rw [hrl]; unfold maxLen; omega
        clear hpl hrl
        go_wp2_with fail
        refine HPUT.out.mono ?_
        rintro e w1 ⟨u, rfl, hu, hb1⟩
        rw [hOp] at hu
        rw [hE]
        have HK1 := Lib.hid (HK.out.bl HSZ.out hb1)
        have HX1 := Lib.hid (HX.out.below ⟨hb1.os, hb1.tape, hb1.output, hb1.size, fun k hk => hb1.block k (by have := HSZ.out; omega)⟩)
        have HU := Lib.hid (Reads.of_owns hu HRM.out)
        have HB1 := Lib.hid (bl_trans HB.out hb1)
        have HS1 := Lib.hid HB1.out.size
        have HC := Lib.hid (show w.cell? ⟨b, o1 + i, none⟩ = some (.slice xo p.length xc) from (HB.out.cell (p := ⟨b, _, none⟩) hbl).symm.trans HC0.out)
        obtain ⟨uo, uc, rfl⟩ := owns_form3 hu
        have NXT := Lib.hid (show ∀ (o2 : Value) (w2 : World) (m : Nat) (ys : List Value), w2.ownsRow w.heap.size 5 1 o2 m ys → w1.grownBy w2 (Value.slice oo (rowB ks).length oc).ownBlock → w2.cell? ⟨b, o1 + i, none⟩ = some (.slice xo p.length xc) from fun o2 w2 m ys hO hg =>
          ((HB1.out.trans (HK1.out.mid HS1.out hO hg).2).cell (p := ⟨b, _, none⟩) hbl).trans HC.out)
        have KEP := Lib.hid (show ∀ (o2 : Value) (w2 : World) (m : Nat) (ys : List Value), w2.ownsRow w.heap.size 5 1 o2 m ys → w1.grownBy w2 (Value.slice oo (rowB ks).length oc).ownBlock → (w2.alloc (.cells #[.slice xo p.length xc] 22)).ownsRow w.heap.size 22 1 (.slice ko ks.length kc) ks.length vs ∧ w.heap.size ≤ (w2.alloc (.cells #[.slice xo p.length xc] 22)).heap.size from fun o2 w2 m ys hO hg =>
          ⟨owns_bl (HK1.out.mid HS1.out hO hg).1 (bl_alloc (bl_refl _) _), (bl_alloc (HB1.out.trans (HK1.out.mid HS1.out hO hg).2) _).size⟩)
        clear hu hb1 hcell
        go_wp2_with (first
          | (at_builtin; refine wpList_append_r _ rfl _ _ 22 rfl w.heap.size 5 i0 (.int .u8 0) 1 Try.underlying22 hi hz0 hz1 hz2 rfl _ _ _ rfl HK1.out.out (Value.int .u8) _ (recB p) rfl HU.out (by intros; rfl) A1.out A2.out HS1.out ?_; intro o2 w2 hO2 hg2 hne2; have hcell2 := NXT.out _ _ _ _ hO2 hg2)
          | (at_builtin; refine wpList_append_r _ rfl _ _ 30 rfl w.heap.size 22 j0 (.slice none 0 0) 24 Try.underlying30 hj hy0 hy1 hy2 rfl _ _ _ rfl (KEP.out _ _ _ _ hO2 hg2).1 id _ [.slice xo p.length xc] rfl (reads_one id _ _ _) (by simp [Value.oneCell']) B1.out B2.out (KEP.out _ _ _ _ hO2 hg2).2 ?_; intro k4 w4 hO4 hg4 hne4))
        obtain ⟨hp1, hp2⟩ := HK1.out.push HS1.out HX1.out hO2 hg2 hO4 hg4
        have HP1 := Lib.hid hp1
        have HP2 := Lib.hid hp2
        clear hp1 hp2 hO2 hg2 hne2 hO4 hg4 hne4 hcell2
        go_roundw
        case rel => exact ⟨i + 1, ks ++ [p], vs ++ [.slice xo p.length xc], by omega, HKN.out.symm, by go_num, HP1.out, HB1.out.trans HP2.out⟩
        case measure => simp [intOf]; omega
      · have hE' : (recE p == 0) = false := by simpa using hE
        have HKN := Lib.hid (show keepL (l.take (i + 1)) = ks by rw [HNX.out, keep_no hE, List.append_nil, hks.out])
        have HEH := Lib.hid hE'
        clear hE
        go_wp2_with fail
        refine HPUT.out.mono ?_
        rintro e w1 ⟨u, rfl, -, hb1⟩
        have HK1 := Lib.hid (HK.out.bl HSZ.out hb1)
        have HB1 := Lib.hid (bl_trans HB.out hb1)
        clear hb1 hcell
        go_wp2
        go_roundw
        case rel => exact ⟨i + 1, ks, vs, by omega, HKN.out.symm, by go_num, HK1.out, HB1.out⟩
        case measure => simp [intOf]; omega
    · obtain rfl : i = l.length := by omega
      have hks2 := hks.out
      rw [List.take_length] at hks2
      subst hks2
      have HK := Lib.hid hK
      clear hK
      go_wp2
      go_ret2
      exact ⟨_, _, vs, rfl, HK.out, hB⟩

end Go.Proofs.Ytaembdlidaogdaa
