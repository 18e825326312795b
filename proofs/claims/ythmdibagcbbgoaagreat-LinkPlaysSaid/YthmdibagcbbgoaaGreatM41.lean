/- LinkPlays: a call of an end as a plain law; what holds between two calls. No program in sight. (*link.Link).Busy, Resets, where there is an end. An argument that is a struct of seven one-cell fields; a field that is a slice of integers. No program in sight. An argument that is a slice of structs (int, int, []byte): it reads as a list of acts. No program in sight. Conditions: as they stand. -/
import Derived.Test.YthmdibagcbbgoaaGreatM36
import Derived.Test.YthmdibagcbbgoaaGreatM28
import Derived.Test.YthmdibagcbbgoaaGreatM13
import Derived.WalkKit
import Derived.ProofKit
import Derived.OpenShut
import Derived.SizedLaws
import Derived.Lib.SmallJoins
import Derived.Test.YthmdibagcbbgoaaGreatM00
import Derived.Deep.Slices
import Derived.Deep.Fields
import Derived.ChangeSame
import Derived.Test.YthmdibagcbbgoaaGreatM01
namespace Go.Proofs.YthmdibagcbbgoaaGreat
open Go.RowKit

/-- A call: its kind, bytes, a control, a flag. -/
structure ActL where
  k : Int
  p : List Int
  c : Cn
  on : Bool
def Lk.playd (t : Lk) (a : ActL) : Lk := if a.k = 0 then t.push a.p else if a.k = 1 then t.tick else if a.k = 2 then t.recv a.c else if a.k = 3 then t.busied a.on else t

section
variable {t : Lk} {m : Nat}
theorem bnd_of {t' : Lk} (h : Bnd m t.r.asked) (e : t'.r = t.r) : Bnd m t'.r.asked := by rw [e]; exact h
theorem bnd_none {t' : Lk} (e : t'.r.asked = []) : Bnd m t'.r.asked := by rw [e]; exact fun _ hx => (by cases hx)
theorem goes_r (t : Lk) : t.goes.r = t.r := by
  obtain ⟨_, _, h⟩ := goes_went t
  exact h.2.2.2.2.2.2.2.2.2.2.1
theorem bnd_anew : Bnd m t.anew.r.asked := bnd_none rfl
theorem bnd_ua (h : Bnd m t.r.asked) (a b : Int) : Bnd m (t.ua a b).r.asked := by
  unfold Lk.ua
  split
  · split
    · exact h
    · exact bnd_none rfl
  · exact h
theorem bnd_dm (h : Bnd m t.r.asked) (a b : Int) : Bnd m (t.dm a b).r.asked := by
  unfold Lk.dm
  split
  · exact bnd_anew
  · exact h
theorem bnd_sabme (h : Bnd m t.r.asked) (a : Int) (b : Bool) : Bnd m (t.sabme a b).r.asked := by
  show Bnd m (t.sabmed a).r.asked
  unfold Lk.sabmed
  split
  · exact h
  · exact bnd_none rfl
theorem rearm_r (t : Lk) : t.rearm.r = t.r := by unfold Lk.rearm; split <;> rfl
theorem bnd_ready (h : Bnd m t.r.asked) (k nr : Int) (p : Bool) : Bnd m (t.ready k nr p).r.asked := by
  have e : (({ t with busy := (k == 3) } : Lk).ack nr).goes.rearm.r = t.r := by
    rw [rearm_r, goes_r, (ack_r _ nr).1]
  unfold Lk.ready
  split
  · exact bnd_of h e
  · exact bnd_of h e
theorem askAll_r : ∀ (l : List Int) (t : Lk), (t.askAll l).r = t.r
  | [], _ => rfl
  | n :: l, t => askAll_r l (t.ask n)
theorem bnd_takes (hr : t.r.Ok) (h : Bnd m t.r.asked) (hm : m ≤ 800000) (ns : Int) (p : List Int) : Bnd (m + 128) (t.takes ns p).r.asked := by
  unfold Lk.takes
  split
  · exact h.mono (by omega)
  · rw [askAll_r]
    show Bnd (m + 128) (t.r.take ns p).asked
    unfold Rcv.take
    split
    · rename_i hc
      exact (asks_law hr h hm (opn := []) (fun _ hx => (by cases hx)) hc).1
    · exact h.mono (by omega)
theorem bnd_comes (ho : LkOk t) (h : Bnd m t.r.asked) (hm : m ≤ 800000) (ns nr : Int) (p : Bool) (d : List Int) : Bnd (m + 128) (t.comes ns nr p d).r.asked := by
  show Bnd (m + 128) (Lk.takes _ ns d).r.asked
  have e : (t.ack nr).goes.r = t.r := by rw [goes_r, (ack_r t nr).1]
  split
  · exact bnd_takes (by show ({ (t.ack nr).goes.r with asked := [] } : Rcv).Ok; rw [e]; exact forget_ok ho.r) (bnd_none rfl) hm _ _
  · exact bnd_takes (by rw [e]; exact ho.r) (bnd_of h e) hm _ _
theorem again_r (t : Lk) (nr : Int) : (t.again nr).r = t.r := by unfold Lk.again; split <;> rfl
theorem bnd_fits (ho : LkOk t) (h : Bnd m t.r.asked) (hm : m ≤ 800000) (c : Cn) : Bnd (m + 128) (t.fits c).r.asked := by
  have hw : Bnd m t.woke.r.asked := bnd_of h (woke_same t).2.1
  unfold Lk.fits
  split
  · exact bnd_comes (woke_grow t ho).1 hw hm _ _ _ _
  split
  · exact bnd_of (hw.mono (by omega)) (again_r _ _)
  · exact (bnd_ready hw _ _ _).mono (by omega)
theorem bnd_recv (ho : LkOk t) (h : Bnd m t.r.asked) (hm : m ≤ 800000) (c : Cn) : Bnd (m + 128) (t.recv c).r.asked := by
  have h' : Bnd (m + 128) t.r.asked := h.mono (by omega)
  unfold Lk.recv
  split
  · exact h'
  split
  · exact bnd_sabme h' _ _
  split
  · exact bnd_ua h' _ _
  split
  · exact bnd_dm h' _ _
  split
  · exact bnd_fits ho h hm c
  split
  · exact h'
  · exact h'
theorem bnd_push (h : Bnd m t.r.asked) (p : List Int) : Bnd m (t.push p).r.asked := by
  unfold Lk.push
  split
  · exact bnd_of h (goes_r _)
  · exact h
theorem bnd_busied (h : Bnd m t.r.asked) (on : Bool) : Bnd m (t.busied on).r.asked := by
  unfold Lk.busied
  split <;> exact h
theorem bnd_tick (h : Bnd m t.r.asked) : Bnd m t.tick.r.asked := by
  unfold Lk.tick
  split
  · exact h
  split
  · exact h
  · unfold Lk.rung
    split
    · exact h
    split
    · exact bnd_anew
    split
    · exact h
    split
    · exact h
    · exact h
theorem busied_grow (t : Lk) (on : Bool) : Grow 1 0 t (t.busied on) := by
  have h0 : Grow 0 0 t { t with held := on } := fun ho => ⟨⟨ho.me, ho.s, ho.r⟩, by simp, by simp⟩
  unfold Lk.busied
  split
  · exact (h0.trans (answer_grow _)).mono (by omega) (by omega)
  · exact h0.mono (by omega) (by omega)
theorem Clk.busied (h : Clk t) (on : Bool) : Clk (t.busied on) := by
  have h0 : Clk ({ t with held := on } : Lk) := h.of (.inl rfl) (.inl rfl) rfl rfl
  unfold Lk.busied
  split
  · exact h0.send _
  · exact h0

/-- Between two calls. -/
structure PlOk (m : Nat) (t : Lk) : Prop where
  ok : LkOk t
  clk : Clk t
  bnd : Bnd m t.r.asked
  out : t.out.length ≤ 1000
  inn : t.inn.length ≤ 1000
theorem playd_ok (h : PlOk m t) (hm : m ≤ 800000) (a : ActL) (ho : t.out.length ≤ 10) (hi : t.inn.length ≤ 10) : PlOk (m + 128) (t.playd a) := by
  unfold Lk.playd
  split
  · obtain ⟨h1, h2, h3⟩ := push_grow t a.p h.ok
    exact ⟨h1, h.clk.push _, (bnd_push h.bnd _).mono (by omega), by omega, by omega⟩
  split
  · obtain ⟨h1, h2, h3⟩ := tick_grow t h.ok
    exact ⟨h1, h.clk.tick, (bnd_tick h.bnd).mono (by omega), by omega, by omega⟩
  split
  · obtain ⟨h1, h2, h3⟩ := recv_grow t a.c h.ok
    exact ⟨h1, h.clk.recv _, bnd_recv h.ok h.bnd hm _, by omega, by omega⟩
  split
  · obtain ⟨h1, h2, h3⟩ := busied_grow t a.on h.ok
    exact ⟨h1, h.clk.busied _, (bnd_busied h.bnd _).mono (by omega), by omega, by omega⟩
  · exact ⟨h.ok, h.clk, h.bnd.mono (by omega), by omega, by omega⟩
theorem emptied_ok (h : PlOk m t) : PlOk m { t with out := [], inn := [] } := ⟨⟨h.ok.me, h.ok.s, h.ok.r⟩, h.clk.of (.inl rfl) (.inl rfl) rfl rfl, h.bnd, by simp, by simp⟩
end
theorem newd_ok (m s ti tr : Nat) (h : setOk m s ti tr) : PlOk 0 (Lk.new m s ti tr) := by
  unfold setOk at h
  refine ⟨⟨by show m < 65536; omega, ⟨by show 1 ≤ s; omega, by show s ≤ 63; omega, by simp [Lk.new, Lk.setup, Lk.send, Lk.blank], by simp [Lk.new, Lk.setup, Lk.send, Lk.blank], by simp [Lk.new, Lk.setup, Lk.send, Lk.blank], by simp [Lk.new, Lk.setup, Lk.send, Lk.blank], by simp [Lk.new, Lk.setup, Lk.send, Lk.blank]⟩, new_ok (by omega) (by omega)⟩, ⟨Nat.le_refl _, Nat.zero_le _, by show ti ≤ 64; omega, by show tr ≤ 64; omega⟩, fun _ hx => (by cases hx), by show (1 : Nat) ≤ _; omega, by show (0 : Nat) ≤ _; omega⟩

end Go.Proofs.YthmdibagcbbgoaaGreat

namespace Go.Proofs.YthmdibagcbbgoaaGreat
open Go.RowKit

set_option maxRecDepth 100000 in
set_option maxHeartbeats 1000000 in
theorem lresets_any (B : Nat) (col : Nat → Nat) (w : World) (a sg rg : Nat) (ov iv : Value) (t : Lk) (h : LkP B col w a sg rg ov iv t) :
    Calls Tryz.prog 17 #[.pointer (some ⟨a, 0, none⟩)] w fun e w' => e = .returned (.int .i64 t.resets) ∧ w = w' := by
  have e8 := h.c8
  clear h
  go_enter Tryz.func17, Tryz.ntmps17
  go_wp2
  go_ret
  exact ⟨rfl, rfl⟩

set_option maxRecDepth 100000 in
set_option maxHeartbeats 4000000 in
theorem lbusy_any (B : Nat) (col : Nat → Nat) (w : World) (a sg rg : Nat) (ov iv : Value) (t : Lk) (h : LkP B col w a sg rg ov iv t) (on : Bool) (hm : t.out.length ≤ 90000) :
    Calls Tryz.prog 35 #[.pointer (some ⟨a, 0, none⟩), .bool on] w fun e w' => e = .returned (.int .i64 0) ∧ LkTo B col w a sg rg (t.busied on) w' := by
  have e10 := h.c10
  have z10 := h.frozen 10
  obtain ⟨c2, o2, i2, hp2, hc2, HF2, H2⟩ := (h.putTo (t' := { t with held := on }) 10 (.bool on) rfl rfl rfl rfl rfl).openf
  have k2 : (w.setCell ⟨a, 10, none⟩ (.bool on)).cell? ⟨a, 2, none⟩ = some (.bool t.up) := hp2.c2
  have HA := lanswer_any B c2 _ a sg rg _ _ _ hp2 (by show t.out.length ≤ _; omega)
  have HE := Lib.hid (H2.out _ _ hp2.to)
  clear h hp2 hc2 HF2
  by_cases hq : t.held = true ∧ on = false ∧ t.up = true
  · have hb : t.busied on = ({ t with held := on } : Lk).answer := by unfold Lk.busied; rw [if_pos hq]
    rw [hb]
    obtain ⟨q1, rfl, q3⟩ := hq
    rw [q1] at e10
    rw [q3] at k2
    clear hb q1 q3
    go_enter Tryz.func35, Tryz.ntmps35
    go_wp2_with fail
    refine HA.mono ?_
    rintro e w6 ⟨⟨v, rfl⟩, h6⟩
    have hE := H2.out _ _ h6
    clear h6 HA
    go_wp2
    go_ret
    exact ⟨rfl, hE⟩
  · have hb : t.busied on = { t with held := on } := by unfold Lk.busied; rw [if_neg hq]
    rw [hb]
    clear HA hb
    cases hh : t.held with
    | false =>
      rw [hh] at e10
      clear hq
      go_enter Tryz.func35, Tryz.ntmps35
      go_wp2
      go_ret
      exact ⟨rfl, HE.out⟩
    | true =>
      rw [hh] at e10
      cases on with
      | true =>
        clear hq
        go_enter Tryz.func35, Tryz.ntmps35
        go_wp2
        go_ret
        exact ⟨rfl, HE.out⟩
      | false =>
        have hu : t.up = false := by
          cases e : t.up with
          | true => exact absurd ⟨hh, rfl, e⟩ hq
          | false => rfl
        rw [hu] at k2
        clear hq
        go_enter Tryz.func35, Tryz.ntmps35
        go_wp2
        go_ret
        exact ⟨rfl, HE.out⟩

end Go.Proofs.YthmdibagcbbgoaaGreat

namespace Go.Proofs.YthmdibagcbbgoaaGreat
open Go.ChangeShapes Go.WideShapes Go.ChangeAt Go.RowKit Go.Joins Go.Deep

section
variable {H : Type} {enc : TypeId × Value → H} {P : Program} {w : World} {base : Nat} {spare : Nat → Bool} {held : Bool}

theorem array7 {α : Type} {cs : Array α} (h : cs.size = 7) : ∃ c0 c1 c2 c3 c4 c5 c6, cs = #[c0, c1, c2, c3, c4, c5, c6] := by
  obtain ⟨l⟩ := cs
  match l, h with
  | [c0, c1, c2, c3, c4, c5, c6], _ => exact ⟨c0, c1, c2, c3, c4, c5, c6, rfl⟩

theorem trod_struct7 {t : TypeId} {f0 f1 f2 f3 f4 f5 f6 : Field} {fuel : Nat} {cs : List Value} {x : DataW H × List MemPlace} (ht : P.underlying t = some (.struct #[f0, f1, f2, f3, f4, f5, f6])) (h : DataW.trod enc P w base spare held fuel t cs = some x) :
    ∃ y0 y1 y2 y3 y4 y5 y6 n, x = (.agg [y0.1, y1.1, y2.1, y3.1, y4.1, y5.1, y6.1], y0.2 ++ (y1.2 ++ (y2.2 ++ (y3.2 ++ (y4.2 ++ (y5.2 ++ y6.2)))))) ∧ cs.length = P.cellsOf t ∧ DataW.trod enc P w base spare held n f0.type ((cs.drop f0.offset).take (P.cellsOf f0.type)) = some y0 ∧ DataW.trod enc P w base spare held n f1.type ((cs.drop f1.offset).take (P.cellsOf f1.type)) = some y1 ∧ DataW.trod enc P w base spare held n f2.type ((cs.drop f2.offset).take (P.cellsOf f2.type)) = some y2 ∧ DataW.trod enc P w base spare held n f3.type ((cs.drop f3.offset).take (P.cellsOf f3.type)) = some y3 ∧ DataW.trod enc P w base spare held n f4.type ((cs.drop f4.offset).take (P.cellsOf f4.type)) = some y4 ∧ DataW.trod enc P w base spare held n f5.type ((cs.drop f5.offset).take (P.cellsOf f5.type)) = some y5 ∧ DataW.trod enc P w base spare held n f6.type ((cs.drop f6.offset).take (P.cellsOf f6.type)) = some y6 := by
  obtain ⟨xs, n, _, rfl, hl, hlen, hf⟩ := DataW.trod_struct ht h
  match xs, hlen with
  | [y0, y1, y2, y3, y4, y5, y6], _ => exact ⟨y0, y1, y2, y3, y4, y5, y6, n, by simp, hl, by simpa using hf 0 f0 rfl, by simpa using hf 1 f1 rfl, by simpa using hf 2 f2 rfl, by simpa using hf 3 f3 rfl, by simpa using hf 4 f4 rfl, by simpa using hf 5 f5 rfl, by simpa using hf 6 f6 rfl⟩

theorem open_agg7 {r : Reach} {b0 : Nat} {t : TypeId} {f0 f1 f2 f3 f4 f5 f6 : Field} {v : Value} {d : DataW H} {p : List MemPlace} (hs : P.underlying t = some (.struct #[f0, f1, f2, f3, f4, f5, f6])) (hone : oneCellFields P #[f0, f1, f2, f3, f4, f5, f6] = true) (hC : P.cellsOf t = 7)
    (hv : Value.okWide P w r b0 t v) (h : DataW.Trod enc P w base spare held t v d p) :
    ∃ (v0 v1 v2 v3 v4 v5 v6 : Value) (y0 y1 y2 y3 y4 y5 y6 : DataW H × List MemPlace) (n : Nat), v = .agg #[v0, v1, v2, v3, v4, v5, v6] ∧ d = .agg [y0.1, y1.1, y2.1, y3.1, y4.1, y5.1, y6.1] ∧ p = y0.2 ++ (y1.2 ++ (y2.2 ++ (y3.2 ++ (y4.2 ++ (y5.2 ++ y6.2))))) ∧ DataW.trod enc P w base spare held n f0.type [v0] = some y0 ∧ DataW.trod enc P w base spare held n f1.type [v1] = some y1 ∧ DataW.trod enc P w base spare held n f2.type [v2] = some y2 ∧ DataW.trod enc P w base spare held n f3.type [v3] = some y3 ∧ DataW.trod enc P w base spare held n f4.type [v4] = some y4 ∧ DataW.trod enc P w base spare held n f5.type [v5] = some y5 ∧ DataW.trod enc P w base spare held n f6.type [v6] = some y6 := by
  obtain ⟨cs, rfl, hsz⟩ := okWide_struct hs hv
  obtain ⟨c0, c1, c2, c3, c4, c5, c6, rfl⟩ := array7 (hsz.trans hC)
  obtain ⟨fuel, hf⟩ := h
  obtain ⟨y0, y1, y2, y3, y4, y5, y6, n, hx, _, h0, h1, h2, h3, h4, h5, h6⟩ := trod_struct7 hs hf
  obtain ⟨o0, k0⟩ := hone_of hone 0 f0 rfl
  obtain ⟨o1, k1⟩ := hone_of hone 1 f1 rfl
  obtain ⟨o2, k2⟩ := hone_of hone 2 f2 rfl
  obtain ⟨o3, k3⟩ := hone_of hone 3 f3 rfl
  obtain ⟨o4, k4⟩ := hone_of hone 4 f4 rfl
  obtain ⟨o5, k5⟩ := hone_of hone 5 f5 rfl
  obtain ⟨o6, k6⟩ := hone_of hone 6 f6 rfl
  simp only [Prod.mk.injEq] at hx
  exact ⟨c0, c1, c2, c3, c4, c5, c6, y0, y1, y2, y3, y4, y5, y6, n, rfl, hx.1, hx.2, by simpa [Value.cells, o0, k0] using h0, by simpa [Value.cells, o1, k1] using h1, by simpa [Value.cells, o2, k2] using h2, by simpa [Value.cells, o3, k3] using h3, by simpa [Value.cells, o4, k4] using h4, by simpa [Value.cells, o5, k5] using h5, by simpa [Value.cells, o6, k6] using h6⟩

/-- A field that is a slice of integers reads as a list. -/
theorem open_reads_cell {t e : TypeId} {k : IntKind} {B fuel : Nat} {c : Value} {y : DataW H × List MemPlace}
    (hT : P.underlying t = some (.slice e)) (hE : P.underlying e = some (.int k)) (hC : P.cellsOf e = 1)
    (h : DataW.trod enc P w 0 (fun _ => true) true fuel t [c] = some y)
    (hsz : ∀ el sp, y.1 = .slice el sp → (el.length + sp.length) * B ≤ reachBytes) :
    ∃ (xs : List Int) (ao : Option Addr) (cap : Nat), c = .slice ao xs.length cap ∧ Reads (Value.int k) w (.slice ao xs.length cap) xs ∧ (∀ n ∈ xs, (Lit.int k n).wf = true) ∧ xs.length * B ≤ reachBytes := by
  rcases open_ints hT hE hC h with ⟨hcs, _⟩ | ⟨a, l, cc, zs, hcs, _, hl, hm, hz, hx, hcell, hwz⟩
  · simp at hcs
    subst hcs
    exact ⟨[], none, 0, rfl, Reads.nil _ _, by simp, by simp⟩
  · simp at hcs
    subst hcs
    have hs := hsz (lits k (zs.take l)) (lits k (zs.drop l)) (by rw [hx])
    simp only [lits, List.length_map, List.length_take, List.length_drop] at hs
    have hz' : zs.length = cc := by simpa using hz
    have hlen : (zs.take l).length = l := by rw [List.length_take]; omega
    refine ⟨zs.take l, some a, cc, by rw [hlen], ⟨by rw [hlen]; omega, some a, cc, rfl, ⟨by rw [hlen]; omega, fun h => by cases h⟩, fun i x hx => ?_⟩, fun n hn => hwz n (List.mem_of_mem_take hn), ?_⟩
    · have hi : i < l := by have := (List.getElem?_eq_some_iff.1 hx).1; omega
      have hx' : zs[i]? = some x := by rw [List.getElem?_take, if_pos hi] at hx; exact hx
      have hci := hcell i (by omega)
      obtain ⟨b, off, spot⟩ := a
      have hspot : spot = none := by simpa [Addr.add] using World.cell?_spot (hcell 0 (by omega))
      subst hspot
      refine ⟨b, off, rfl, ?_⟩
      rw [Addr.add_lit] at hci
      rw [hci, List.getD_eq_getElem?_getD, hx']
      rfl
    · rw [hlen]
      refine Nat.le_trans (Nat.mul_le_mul_right _ ?_) hs
      omega

theorem sized_field {ts : List TypeId} {ds : List (DataW H)} (h : (DataW.weightsEach P ts ds).all (· ≤ reachBytes) = true) {j i : Nat} {t tf e : TypeId} {fs : Array Field} {parts el sp : List (DataW H)} (ht : ts[j]? = some t) (hd : ds[j]? = some (.agg parts))
    (hu : P.underlying t = some (.struct fs)) (hf : (fs.toList.map (·.type))[i]? = some tf) (hp : parts[i]? = some (.slice el sp)) (hus : P.underlying tf = some (.slice e)) : (el.length + sp.length) * P.bytesOf e ≤ reachBytes := by
  have := List.all_eq_true.1 h _ (DataW.weights_mem_each ht hd ((el.length + sp.length) * P.bytesOf e) (by
    simp only [DataW.weights, hu]
    exact DataW.weights_mem_each hf hp _ (by simp [DataW.weights, hus])))
  simpa using this

end
end Go.Proofs.YthmdibagcbbgoaaGreat

namespace Go.Proofs.YthmdibagcbbgoaaGreat
open Go.ChangeShapes Go.WideShapes Go.Deep Go.ChangeAt Go.RowKit

/-- A call: its kind, a number, bytes. -/
structure Act3 where
  k : Int
  n : Int
  p : List Int

/-- Bytes that lie below B where there are any. -/
def ByB (B : Nat) (w : World) (v : Value) (p : List Int) : Prop := Reads (Value.int .u8) w v p ∧ (∀ n ∈ p, (Lit.int .u8 n).wf = true) ∧ (p ≠ [] → ∀ k, v.ownBlock = some k → k < B)
theorem ByB.below {B : Nat} {w w' : World} {v : Value} {p : List Int} (h : ByB B w v p) (hb : Below B w w') : ByB B w' v p := by
  obtain ⟨hr, hw, hl⟩ := h
  refine ⟨?_, hw, hl⟩
  cases p with
  | nil =>
    obtain ⟨hm, ao, cap, hv, hlc, hc⟩ := hr
    exact ⟨hm, ao, cap, hv, hlc, fun i y hy => by simp at hy⟩
  | cons x r =>
    have h' : Rd (fun k => k < B) (Value.int .u8) w v (x :: r) := ⟨hr, fun k hk => hl (by simp) k hk⟩
    exact (h'.fr (G := fun k => B ≤ k) ⟨hb.os, hb.tape, hb.output, hb.size, fun k _ hn => hb.block k (by omega)⟩ (fun k hk => by omega)).1

/-- The slice value reads as a list of acts; all that it has lies below B. -/
def ActsAt (B : Nat) (w : World) (v : Value) (l : List Act3) : Prop :=
  l.length ≤ maxLen ∧ ∃ ao cap, v = .slice ao l.length cap ∧ l.length ≤ cap ∧ ∀ (i : Nat) (c : Act3), l[i]? = some c → ∃ b o x, ao = some ⟨b, o, none⟩ ∧ b < B ∧
    w.cell? ⟨b, o + i * 3, none⟩ = some (.int .i64 c.k) ∧ w.cell? ⟨b, o + (i * 3 + 1), none⟩ = some (.int .i64 c.n) ∧ w.cell? ⟨b, o + (i * 3 + 2), none⟩ = some x ∧ ByB B w x c.p ∧ c.p.length ≤ 140737488351232 ∧ (Lit.int .i64 c.k).wf = true ∧ (Lit.int .i64 c.n).wf = true
theorem ActsAt.below {B : Nat} {w w' : World} {v : Value} {l : List Act3} (h : ActsAt B w v l) (hb : Below B w w') : ActsAt B w' v l := by
  obtain ⟨hm, ao, cap, hv, hl, hc⟩ := h
  refine ⟨hm, ao, cap, hv, hl, fun i c hi => ?_⟩
  obtain ⟨b, o, x, ha, hlt, h0, h1, h2, hx, hle⟩ := hc i c hi
  have keep : ∀ {j : Nat} {u : Value}, w.cell? ⟨b, j, none⟩ = some u → w'.cell? ⟨b, j, none⟩ = some u := fun h => (hb.cell (p := ⟨b, _, none⟩) hlt).trans h
  exact ⟨b, o, x, ha, hlt, keep h0, keep h1, keep h2, hx.below hb, hle⟩
theorem ActsAt.at_ {B : Nat} {w : World} {ao : Option Addr} {n cap : Nat} {l : List Act3} (h : ActsAt B w (.slice ao n cap) l) {i : Nat} {c : Act3} (hi : l[i]? = some c) : ∃ b o x, ao = some ⟨b, o, none⟩ ∧ b < B ∧
    w.cell? ⟨b, o + i * 3, none⟩ = some (.int .i64 c.k) ∧ w.cell? ⟨b, o + (i * 3 + 1), none⟩ = some (.int .i64 c.n) ∧ w.cell? ⟨b, o + (i * 3 + 2), none⟩ = some x ∧ ByB B w x c.p ∧ c.p.length ≤ 140737488351232 ∧ (Lit.int .i64 c.k).wf = true ∧ (Lit.int .i64 c.n).wf = true := by
  obtain ⟨hm, ao', cap', hv, hl, hc⟩ := h
  cases hv
  exact hc i c hi
/-- The first of them. -/
theorem ActsAt.take {B : Nat} {w : World} {ao : Option Addr} {cap : Nat} {l : List Act3} (h : ActsAt B w (.slice ao l.length cap) l) (k : Nat) (hk : k ≤ l.length) : ActsAt B w (.slice ao k cap) (l.take k) := by
  obtain ⟨hm, ao', cap', hv, hl, hc⟩ := h
  cases hv
  have : (l.take k).length = k := by simp; omega
  refine ⟨by omega, ao, cap, by rw [this], by omega, fun i c hi => ?_⟩
  rw [List.getElem?_take] at hi
  split at hi
  · exact hc i c hi
  · cases hi

theorem list_of {α : Type} {Q : Nat → α → Prop} : ∀ (n : Nat), (∀ i, i < n → ∃ a, Q i a) → ∃ l : List α, l.length = n ∧ ∀ (i : Nat) a, l[i]? = some a → Q i a
  | 0, _ => ⟨[], rfl, fun i a h => by simp at h⟩
  | n + 1, h => by
    obtain ⟨l, hl, hq⟩ := list_of n (fun i hi => h i (by omega))
    obtain ⟨a, ha⟩ := h n (by omega)
    refine ⟨l ++ [a], by simp [hl], fun i b hb => ?_⟩
    by_cases hi : i < l.length
    · rw [List.getElem?_append_left hi] at hb; exact hq i b hb
    · have hlt := (List.getElem?_eq_some_iff.1 hb).1
      simp only [List.length_append, List.length_singleton] at hlt
      subst hl
      have e : i = l.length := by omega
      subst e
      rw [List.getElem?_append_right (Nat.le_refl _), Nat.sub_self] at hb
      cases hb
      exact ha

theorem weights_mem_all {H : Type} {P : Program} {e : TypeId} {d : DataW H} {n : Nat} (hn : n ∈ d.weights P e) : ∀ {l : List (DataW H)}, d ∈ l → n ∈ DataW.weightsAll P e l
  | [], h => by simp at h
  | x :: r, h => by
    simp only [DataW.weightsAll, List.mem_append]
    rcases List.mem_cons.1 h with h | h
    · subst h; exact .inl hn
    · exact .inr (weights_mem_all hn h)

section
variable {H : Type} {enc : TypeId × Value → H} {P : Program} {w : World} {base : Nat} {spare : Nat → Bool} {held : Bool}
theorem open_slice_fields {t e : TypeId} {fs : Array Field} {fuel : Nat} {cs : List Value} {x : DataW H × List MemPlace} (ht : P.underlying t = some (.slice e)) (he : P.underlying e = some (.struct fs))
    (hone : oneCellFields P fs = true) (hC : P.cellsOf e = fs.size) (h : DataW.trod enc P w base spare held fuel t cs = some x) :
    (cs = [.slice none 0 0] ∧ x = (.nil, [])) ∨
    ∃ (a : Addr) (len cap m : Nat) (D : Nat → DataW H) (Pl : Nat → List MemPlace), cs = [.slice (some a) len cap] ∧ base ≤ a.block ∧ len ≤ cap ∧ cap ≤ maxLen ∧ m = (if spare a.block then cap else len) ∧
      x = (.slice ((List.range len).map D) ((List.range (m - len)).map fun j => D (len + j)), MemPlace.row a (m * fs.size) ++ (List.range m).flatMap Pl) ∧
      ∀ i, i < m → ∃ (ys : List (DataW H × List MemPlace)) (n : Nat), D i = .agg (ys.map (·.1)) ∧ Pl i = ys.flatMap (·.2) ∧ ys.length = fs.size ∧
        ∀ (j : Nat) (f : Field), fs[j]? = some f → ∃ (v : Value) (y : DataW H × List MemPlace), w.cell? (a.add (i * fs.size + j)) = some v ∧ ys[j]? = some y ∧ DataW.trod enc P w base spare held n f.type [v] = some y := by
  rcases open_slice ht h with h0 | ⟨a, len, cap, m, n, D, Pl, hcs, hb, hl, hm, hmm, hx, hi⟩
  · exact .inl h0
  · refine .inr ⟨a, len, cap, m, D, Pl, hcs, hb, hl, hm, hmm, by rw [hC] at hx; exact hx, fun i him => ?_⟩
    obtain ⟨cs', hc, ht'⟩ := hi i him
    rw [hC] at hc
    obtain ⟨ys, n', hn', hy, hlen, hyl, hf⟩ := DataW.trod_struct he ht'
    obtain ⟨_, hcl, hat⟩ := World.cells?_some hc
    simp only [Prod.mk.injEq] at hy
    refine ⟨ys, n', hy.1, hy.2, hyl, fun j f hj => ?_⟩
    obtain ⟨ho, hk⟩ := hone_of hone j f hj
    have hjl : j < fs.size := (Array.getElem?_eq_some_iff.1 hj).1
    have hcell := hat j hjl
    have hv : cs'[j]? = some (cs'[j]'(by omega)) := List.getElem?_eq_getElem (by omega)
    have h1 := hf j f hj
    rw [ho, hk] at h1
    have hone' : (cs'.drop j).take 1 = [cs'[j]'(by omega)] := by
      rw [List.drop_eq_getElem_cons (by omega)]
      rfl
    rw [hone'] at h1
    have hys : ys[j]? = some (ys[j]'(by omega)) := List.getElem?_eq_getElem (by omega)
    refine ⟨_, _, ?_, hys, h1.trans hys⟩
    rw [← Go.Deep.add_add, hcell, hv]

theorem open_acts {r : Reach} {b0 : Nat} {t e ti tb tu : TypeId} {f0 f1 f2 : Field} {v : Value} {d : DataW H} {p : List MemPlace}
    (hT : P.underlying t = some (.slice e)) (hE : P.underlying e = some (.struct #[f0, f1, f2])) (hone : oneCellFields P #[f0, f1, f2] = true) (hC : P.cellsOf e = 3)
    (hf0 : f0.type = ti) (hf1 : f1.type = ti) (hf2 : f2.type = tb) (hI : P.underlying ti = some (.int .i64)) (hB : P.underlying tb = some (.slice tu)) (hU : P.underlying tu = some (.int .u8)) (hCu : P.cellsOf tu = 1) (hbu : P.bytesOf tu = 1)
    (hv : Value.okWide P w r b0 t v) (h : DataW.Trod enc P w 0 (fun _ => true) true t v d p)
    (hsz : ∀ el sp, d = .slice el sp → ∀ x ∈ el, ∀ parts es ss, x = .agg parts → parts[2]? = some (.slice es ss) → (es.length + ss.length) * P.bytesOf tu ≤ reachBytes) :
    ∃ l : List Act3, ActsAt w.heap.size w v l := by
  obtain ⟨a0, len0, cap0, rfl⟩ := okWide_slice hT hv
  obtain ⟨fuel, hf⟩ := h
  rcases open_slice_fields hT hE hone (by rw [hC]; rfl) hf with ⟨hcs, _⟩ | ⟨a, len, cap, m, D, Pl, hcs, _, hl, hm, hmm, hx, hi⟩
  · simp [Value.cells] at hcs
    obtain ⟨rfl, rfl, rfl⟩ := hcs
    exact ⟨[], by simp, none, 0, rfl, by simp, fun i c hc => by simp at hc⟩
  · simp [Value.cells] at hcs
    obtain ⟨rfl, rfl, rfl⟩ := hcs
    rw [if_pos rfl] at hmm
    subst hmm
    simp only [Prod.mk.injEq] at hx
    -- each element, opened
    obtain ⟨b, off, spot⟩ := a
    have key : ∀ i, i < len0 → ∃ c : Act3, b < w.heap.size ∧ spot = none ∧ ∃ x, w.cell? ⟨b, off + i * 3, none⟩ = some (.int .i64 c.k) ∧ w.cell? ⟨b, off + (i * 3 + 1), none⟩ = some (.int .i64 c.n) ∧ w.cell? ⟨b, off + (i * 3 + 2), none⟩ = some x ∧ ByB w.heap.size w x c.p ∧ c.p.length ≤ 140737488351232 ∧ (Lit.int .i64 c.k).wf = true ∧ (Lit.int .i64 c.n).wf = true := by
      intro i hil
      obtain ⟨ys, n, hD, hPl, hyl, hg⟩ := hi i (by omega)
      obtain ⟨v0, y0, hc0, hy0, ht0⟩ := hg 0 f0 rfl
      obtain ⟨v1, y1, hc1, hy1, ht1⟩ := hg 1 f1 rfl
      obtain ⟨v2, y2, hc2, hy2, ht2⟩ := hg 2 f2 rfl
      rw [hf0] at ht0
      rw [hf1] at ht1
      rw [hf2] at ht2
      have hsp : spot = none := by
        obtain ⟨_, _, _, _, _, g⟩ := hi 0 (by omega)
        obtain ⟨_, _, gc, _, _⟩ := g 0 f0 rfl
        simpa [Addr.add] using World.cell?_spot gc
      subst hsp
      have s3 : (#[f0, f1, f2] : Array Field).size = 3 := rfl
      rw [s3, Addr.add_lit] at hc0 hc1 hc2
      obtain ⟨z0, e0, _, g0⟩ := DataW.trod_int hI ht0
      obtain ⟨z1, e1, _, g1⟩ := DataW.trod_int hI ht1
      have q0 : v0 = .int .i64 z0 := by simpa using e0
      have q1 : v1 = .int .i64 z1 := by simpa using e1
      subst q0 q1
      obtain ⟨xs, xo, xc, hx2, hrd, hwf, hle⟩ := open_reads_cell (B := 1) hB hU hCu ht2 (fun es ss hes => by
        have := hsz _ _ hx.1 (D i) (List.mem_map.2 ⟨i, List.mem_range.2 hil, rfl⟩) _ es ss hD (by rw [List.getElem?_map, hy2]; simp [hes])
        rwa [hbu] at this)
      refine ⟨⟨z0, z1, xs⟩, cell_lt hc0, rfl, v2, by simpa using hc0, hc1, hc2, ⟨by rw [hx2]; exact hrd, hwf, fun hne k hk => ?_⟩, by show xs.length ≤ _; simp only [reachBytes] at hle; omega, g0, g1⟩
      -- the bytes' block is one of the argument's
      rw [hx2] at hk
      cases xo with
      | none => simp [Value.ownBlock] at hk
      | some ax =>
        simp [Value.ownBlock] at hk
        subst hk
        obtain ⟨_, ao', cap', hv', _, hcc⟩ := hrd
        cases hv'
        obtain ⟨y, hy⟩ := get_some (xs := xs) (k := 0) (List.length_pos_iff.2 hne)
        obtain ⟨bb, oo, hbb, hcell⟩ := hcc 0 y hy
        cases hbb
        exact cell_lt hcell
    obtain ⟨l, hll, hq⟩ := list_of (Q := fun i (c : Act3) => b < w.heap.size ∧ spot = none ∧ ∃ x, w.cell? ⟨b, off + i * 3, none⟩ = some (.int .i64 c.k) ∧ w.cell? ⟨b, off + (i * 3 + 1), none⟩ = some (.int .i64 c.n) ∧ w.cell? ⟨b, off + (i * 3 + 2), none⟩ = some x ∧ ByB w.heap.size w x c.p ∧ c.p.length ≤ 140737488351232 ∧ (Lit.int .i64 c.k).wf = true ∧ (Lit.int .i64 c.n).wf = true) len0 key
    refine ⟨l, by omega, some ⟨b, off, spot⟩, m, by rw [hll], by omega, fun i c hc => ?_⟩
    obtain ⟨h1, h2, x, h3⟩ := hq i c hc
    exact ⟨b, off, x, by rw [h2], h1, h3⟩

theorem sized_in {ts : List TypeId} {ds : List (DataW H)} (h : (DataW.weightsEach P ts ds).all (· ≤ reachBytes) = true) {j i : Nat} {t te tf e : TypeId} {fs : Array Field} {el0 sp0 parts el sp : List (DataW H)} (ht : ts[j]? = some t) (hd : ds[j]? = some (.slice el0 sp0))
    (hu0 : P.underlying t = some (.slice te)) (hx : DataW.agg parts ∈ el0) (hu : P.underlying te = some (.struct fs)) (hf : (fs.toList.map (·.type))[i]? = some tf) (hp : parts[i]? = some (.slice el sp)) (hus : P.underlying tf = some (.slice e)) : (el.length + sp.length) * P.bytesOf e ≤ reachBytes := by
  have := List.all_eq_true.1 h _ (DataW.weights_mem_each ht hd ((el.length + sp.length) * P.bytesOf e) (by
    simp only [DataW.weights, hu0]
    refine List.mem_cons_of_mem _ (List.mem_append_left _ (weights_mem_all ?_ hx))
    simp only [DataW.weights, hu]
    exact DataW.weights_mem_each hf hp _ (by simp [DataW.weights, hus])))
  simpa using this
end

end Go.Proofs.YthmdibagcbbgoaaGreat
