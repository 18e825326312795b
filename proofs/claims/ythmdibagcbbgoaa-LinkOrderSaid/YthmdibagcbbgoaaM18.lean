/- (*link.Link).setup, reset, anew, heard, answer, data. (*link.Link).data, answer. (*link.Link).goes: payloads go out. Conditions: as they stand. -/
import Derived.Test.YthmdibagcbbgoaaM17
namespace Go.Proofs.Ythmdibagcbbgoaa
open Go.RowKit

def Lk.setup (t : Lk) (poll : Bool) : Lk := { t.send ⟨5, 0, 0, poll, 0, 0, []⟩ with left := t.timer }
def Lk.reset (t : Lk) : Lk := { t with s := ⟨t.s.size, 0, [], 0⟩, r := ⟨t.r.size, 0, [], []⟩, resets := wrap64 (t.resets + 1), left := 0, tried := 0, busy := false }
def Lk.anew (t : Lk) : Lk := (({ t with me := (t.me + 1) % 65536, up := false, peer := -1 } : Lk).reset).setup false
def Lk.heard (t : Lk) : Lk := { t with up := true, left := 0, tried := 0 }
def Lk.answer (t : Lk) : Lk := t.send ⟨if t.held then 3 else 2, 0, t.r.waits, false, 0, t.peer, []⟩
def Lk.dat (t : Lk) (ns : Int) (p : List Int) (poll : Bool) : Lk := t.send ⟨1, ns, t.r.waits, poll, 0, t.peer, p⟩

theorem byt_nil (F : Nat → Prop) (w : World) : Byt F w (.slice none 0 0) [] := ⟨⟨Reads.nil _ _, fun k hk => by simp [Value.ownBlock] at hk⟩, fun n hn => by simp at hn⟩
section
variable {B : Nat} {col : Nat → Nat} {w w' w2 : World} {c n a sg rg : Nat} {ov iv : Value} {t t' : Lk}
/-- The receiver was turned. -/
theorem LkP.rcvd (h : LkP B col w a sg rg ov iv t) (hf : Fr (fun k => col k = 3) w w') {C D : Nat → Prop} {r' : Rcv} (hr : RcvAt C D w' rg r') (hC : ∀ k, C k → col k = 3 ∨ (n = 3 ∧ w.heap.size ≤ k ∧ k < w'.heap.size)) (hD : ∀ k, D k → col k = 7 ∨ (n = 7 ∧ w.heap.size ≤ k ∧ k < w'.heap.size)) : LkP B (paint col w w' n) w' a sg rg ov iv { t with r := r' } :=
  ⟨h.cols.paint hf.size, h.cols.keep h.own (by omega), hf.get h.hb (fun e => by have := h.own; omega), snd_turn h.snd h.cols hf (by omega), hr.mono (fun k hk => by
    rcases hC k hk with h1 | ⟨h1, h2, h3⟩
    · exact h.cols.keep h1 (by omega)
    · rw [paint_new h2 h3]; exact h1) (fun k hk => by
    rcases hD k hk with h1 | ⟨h1, h2, h3⟩
    · exact h.cols.keep h1 (by omega)
    · rw [paint_new h2 h3]; exact h1) (fun k hk e => by omega), h.out.turn h.cols hf (by omega) (by omega) (by omega), h.inn.turn h.cols hf (by omega) (by omega) (by omega)⟩
theorem LkP.putTo (h : LkP B col w a sg rg ov iv t) (j : Nat) (v : Value) (hc : (t.cells sg rg ov iv).setIfInBounds j v = t'.cells sg rg ov iv) (hs : t'.s = t.s) (hr : t'.r = t.r) (ho : t'.out = t.out) (hi : t'.inn = t.inn) : LkTo B col w a sg rg t' (w.setCell ⟨a, j, none⟩ v) :=
  ⟨⟨_, _, _, h.put j v hc hs hr ho hi, fun _ _ _ => rfl⟩, (fr_cell w a j v).mono fun k hk => .inl (by subst hk; have := h.own; omega)⟩
/-- The pieces one behind the other. -/
theorem LkTo.bind (h : LkTo B col w a sg rg t w') (k : ∀ col1 ov1 iv1, LkP B col1 w' a sg rg ov1 iv1 t → LkTo B col1 w' a sg rg t' w2) : LkTo B col w a sg rg t' w2 := by
  obtain ⟨⟨c1, o1, i1, h1, hc⟩, hf⟩ := h
  exact LkTo.then_ hf.size hc hf (k c1 o1 i1 h1)
theorem LkTo.open_ (h : LkTo B col w a sg rg t w') : ∃ c1 o1 i1, LkP B c1 w' a sg rg o1 i1 t ∧ (∀ k, k < w.heap.size → c1 k ≠ 0 → c1 k = col k) ∧ Hid (∀ t2 w2, LkTo B c1 w' a sg rg t2 w2 → LkTo B col w a sg rg t2 w2) := by
  obtain ⟨⟨c1, o1, i1, h1, hc⟩, hf⟩ := h
  exact ⟨c1, o1, i1, h1, hc, fun t2 w2 h2 => LkTo.then_ hf.size hc hf h2⟩
theorem LkTo.openf (h : LkTo B col w a sg rg t w') : ∃ c1 o1 i1, LkP B c1 w' a sg rg o1 i1 t ∧ (∀ k, k < w.heap.size → c1 k ≠ 0 → c1 k = col k) ∧ Hid (Fr (fun k => 1 ≤ col k ∧ col k ≤ 5) w w') ∧ Hid (∀ t2 w2, LkTo B c1 w' a sg rg t2 w2 → LkTo B col w a sg rg t2 w2) := by
  obtain ⟨⟨c1, o1, i1, h1, hc⟩, hf⟩ := h
  exact ⟨c1, o1, i1, h1, hc, hf, fun t2 w2 h2 => LkTo.then_ hf.size hc hf h2⟩
theorem LkP.sentTo (h : LkP B col w a sg rg ov iv t) (hf : Fr (fun k => k = sg) w w') {F : Nat → Prop} {s' : Snd} (hs : SndAt F w' sg s') (hF : ∀ k, F k → col k = 2 ∨ (w.heap.size ≤ k ∧ k < w'.heap.size)) : LkTo B col w a sg rg { t with s := s' } w' := by
  have hsg : col sg = 2 := h.snd.2.1
  have hf2 : Fr (fun k => col k = 2) w w' := hf.mono fun k hk => .inl (by subst hk; exact hsg)
  exact ⟨⟨_, _, _, h.sent (n := 2) hf2 hs (fun k hk => (hF k hk).elim .inl (fun h => .inr ⟨rfl, h⟩)), fun k hk _ => paint_old hk⟩, hf2.mono fun k hk => .inl (by omega)⟩
end

set_option maxRecDepth 100000 in
set_option maxHeartbeats 2000000 in
theorem lsetup_any (B : Nat) (col : Nat → Nat) (w : World) (a sg rg : Nat) (ov iv : Value) (t : Lk) (h : LkP B col w a sg rg ov iv t) (poll : Bool) (hm : t.out.length ≤ 100000) :
    Calls Try.prog 26 #[.pointer (some ⟨a, 0, none⟩), .bool poll] w fun e w' => (∃ v, e = .returned v) ∧ LkTo B col w a sg rg (t.setup poll) w' := by
  have HS := lsend_any B col w a sg rg ov iv t h ⟨5, 0, 0, poll, 0, 0, []⟩ _ (byt_nil _ _) hm
  go_enter Try.func26, Try.ntmps26
  go_wp2_with fail
  refine HS.mono ?_
  rintro e w1 ⟨⟨v, rfl⟩, h1⟩
  have H1 := Lib.hid h1
  obtain ⟨⟨c1, o1, i1, hp, _⟩, _⟩ := h1
  have e4 := hp.c4
  have e6 := hp.c6
  have z6 := hp.frozen 6
  clear hp HS
  go_wp2
  go_end0
  exact ⟨⟨_, rfl⟩, H1.out.bind fun c1 o1 i1 hp => hp.putTo 6 _ rfl rfl rfl rfl rfl⟩

set_option maxRecDepth 100000 in
set_option maxHeartbeats 2000000 in
theorem lheard_any (B : Nat) (col : Nat → Nat) (w : World) (a sg rg : Nat) (ov iv : Value) (t : Lk) (h : LkP B col w a sg rg ov iv t) :
    Calls Try.prog 51 #[.pointer (some ⟨a, 0, none⟩)] w fun e w' => (∃ v, e = .returned v) ∧ LkTo B col w a sg rg t.heard w' := by
  have H1 := Lib.hid h
  have e2 := h.c2
  have e6 := h.c6
  have e7 := h.c7
  have z2 := h.frozen 2
  have z6 := h.frozen 6
  have z7 := h.frozen 7
  clear h
  go_enter Try.func51, Try.ntmps51
  go_wp2
  go_end0
  refine ⟨⟨_, rfl⟩, ?_⟩
  refine (H1.out.putTo (t' := { t with up := true }) 2 (.bool true) rfl rfl rfl rfl rfl).bind fun c1 o1 i1 h1 => ?_
  refine (h1.putTo (t' := { t with up := true, left := 0 }) 6 (.int .i64 0) rfl rfl rfl rfl rfl).bind fun c1 o1 i1 h1 => ?_
  exact h1.putTo 7 (.int .i64 0) rfl rfl rfl rfl rfl

set_option maxRecDepth 100000 in
set_option maxHeartbeats 2000000 in
theorem lreset_any (B : Nat) (col : Nat → Nat) (w : World) (a sg rg : Nat) (ov iv : Value) (t : Lk) (h : LkP B col w a sg rg ov iv t) :
    Calls Try.prog 46 #[.pointer (some ⟨a, 0, none⟩)] w fun e w' => (∃ v, e = .returned v) ∧ LkTo B col w a sg rg t.reset w' := by
  have HS := sreset_any _ sg t.s w h.snd
  have e11 := h.c11
  have hsg : col sg = 2 := h.snd.2.1
  have HP := Lib.hid h
  clear h
  go_enter Try.func46, Try.ntmps46
  go_wp2_with fail
  refine HS.mono ?_
  rintro e w1 ⟨u, rfl, _, hs1, hf1⟩
  have h1 := HP.out.sentTo hf1 hs1 (fun k hk => .inl hk)
  have H1 := Lib.hid h1
  obtain ⟨⟨c1, o1, i1, hp, hc1⟩, hF1⟩ := h1
  have e12 := hp.c12
  obtain ⟨mb, ab, fk, hR⟩ := hp.rcv
  have hrg : c1 rg = 3 := hR.ca
  have HR := rcreset_any rg t.r.size _ _ _ w1 hR.hb
  have HP1 := Lib.hid hp
  have HC1 := Lib.hid hc1
  have HF1 := Lib.hid hF1
  clear hs1 hf1 HS hp hR e11 hc1 hF1
  go_wp2_with fail
  refine HR.mono ?_
  rintro e w2 ⟨⟨v, rfl⟩, hr2, hf2⟩
  have hf2' : Fr (fun k => c1 k = 3) w1 w2 := hf2.mono fun k hk => .inl (by subst hk; exact hrg)
  have h2 := HP1.out.rcvd (n := 3) hf2' hr2 (fun k hk => hk.elim (fun e => .inl (by subst e; exact hrg)) (fun h => .inr ⟨rfl, h⟩)) (fun k hk => hk.elim)
  have H2 : Hid (LkTo B c1 w1 a sg rg { t with s := ⟨t.s.size, 0, [], 0⟩, r := ⟨t.r.size, 0, [], []⟩ } w2) := ⟨⟨_, _, _, h2, fun k hk _ => paint_old hk⟩, hf2'.mono fun k hk => .inl (by omega)⟩
  have g8 := h2.c8
  have g6 := h2.c6
  have g7 := h2.c7
  have g9 := h2.c9
  have z8 := h2.frozen 8
  have z6 := h2.frozen 6
  have z7 := h2.frozen 7
  have z9 := h2.frozen 9
  clear h2 hf2' hf2 hr2 HR e12
  go_wp2
  go_end0
  refine ⟨⟨_, rfl⟩, ?_⟩
  refine LkTo.then_ HF1.out.size HC1.out HF1.out ?_
  refine H2.out.bind fun c o i h => ?_
  refine (h.putTo (t' := { t with s := ⟨t.s.size, 0, [], 0⟩, r := ⟨t.r.size, 0, [], []⟩, resets := wrap64 (t.resets + 1) }) 8 (.int .i64 (wrap64 (t.resets + 1))) rfl rfl rfl rfl rfl).bind fun c1 o1 i1 h1 => ?_
  refine (h1.putTo (t' := { t with s := ⟨t.s.size, 0, [], 0⟩, r := ⟨t.r.size, 0, [], []⟩, resets := wrap64 (t.resets + 1), left := 0 }) 6 (.int .i64 0) rfl rfl rfl rfl rfl).bind fun c1 o1 i1 h1 => ?_
  refine (h1.putTo (t' := { t with s := ⟨t.s.size, 0, [], 0⟩, r := ⟨t.r.size, 0, [], []⟩, resets := wrap64 (t.resets + 1), left := 0, tried := 0 }) 7 (.int .i64 0) rfl rfl rfl rfl rfl).bind fun c1 o1 i1 h1 => ?_
  exact h1.putTo 9 (.bool false) rfl rfl rfl rfl rfl

set_option maxRecDepth 100000 in
set_option maxHeartbeats 2000000 in
theorem lanew_any (B : Nat) (col : Nat → Nat) (w : World) (a sg rg : Nat) (ov iv : Value) (t : Lk) (h : LkP B col w a sg rg ov iv t) (hme : t.me < 65536) (hm : t.out.length ≤ 100000) :
    Calls Try.prog 27 #[.pointer (some ⟨a, 0, none⟩)] w fun e w' => (∃ v, e = .returned v) ∧ LkTo B col w a sg rg t.anew w' := by
  have e0 := h.c0
  have e1 := h.c1
  have e2 := h.c2
  have z0 := h.frozen 0
  have z1 := h.frozen 1
  have z2 := h.frozen 2
  have m1 : (t.me : Int) < 65536 := by omega
  have H3 : LkTo B col w a sg rg { t with me := (t.me + 1) % 65536, up := false, peer := -1 } (((w.setCell ⟨a, 0, none⟩ (.int .i64 (((t.me : Int) + 1) % 65536))).setCell ⟨a, 2, none⟩ (.bool false)).setCell ⟨a, 1, none⟩ (.int .i64 (-1))) := by
    refine (h.putTo (t' := { t with me := (t.me + 1) % 65536 }) 0 (.int .i64 (((t.me : Int) + 1) % 65536)) ?_ rfl rfl rfl rfl).bind fun c1 o1 i1 h1 => ?_
    · rw [show ((t.me : Int) + 1) % 65536 = (((t.me + 1) % 65536 : Nat) : Int) by omega]; rfl
    refine (h1.putTo (t' := { t with me := (t.me + 1) % 65536, up := false }) 2 (.bool false) rfl rfl rfl rfl rfl).bind fun c1 o1 i1 h1 => ?_
    exact h1.putTo 1 (.int .i64 (-1)) rfl rfl rfl rfl rfl
  obtain ⟨c3, o3, i3, hp3, _, H3⟩ := H3.open_
  have HR := lreset_any B c3 _ a sg rg o3 i3 _ hp3
  clear h hp3
  go_enter Try.func27, Try.ntmps27
  go_wp2_with fail
  refine HR.mono ?_
  rintro e w4 ⟨⟨v, rfl⟩, h4⟩
  obtain ⟨c4, o4, i4, hp4, _, H4⟩ := h4.open_
  have HS := lsetup_any B c4 w4 a sg rg o4 i4 _ hp4 false hm
  clear hp4 h4 HR
  go_wp2_with fail
  refine HS.mono ?_
  rintro e w5 ⟨⟨v, rfl⟩, h5⟩
  have H5 := H3.out _ _ (H4.out _ _ h5)
  clear h5 HS
  go_wp2
  go_end0
  exact ⟨⟨_, rfl⟩, H5⟩

end Go.Proofs.Ythmdibagcbbgoaa

namespace Go.Proofs.Ythmdibagcbbgoaa
open Go.RowKit

/-- send at a world in which nothing of the end was turned. -/
theorem lsend_at (B : Nat) (col : Nat → Nat) (w : World) (a sg rg : Nat) (ov iv : Value) (t : Lk) (h : LkP B col w a sg rg ov iv t) (c : Cn) (x : Value) (hx : Byt (fun k => col k = 7) w x c.data) (hm : t.out.length ≤ 100000) (W : World) (hb : Below w.heap.size w W) :
    Calls Try.prog 31 #[.pointer (some ⟨a, 0, none⟩), .agg #[.int .i64 c.kind, .int .i64 c.ns, .int .i64 c.nr, .bool c.p, .int .i64 c.me, .int .i64 c.peer, x]] W fun e w' => (∃ v, e = .returned v) ∧ LkTo B col w a sg rg (t.send c) w' := by
  refine (lsend_any B _ W a sg rg ov iv t (h.skip (n := 0) hb) c x ((hx.below hb).mono fun k hk => h.cols.keep hk (by omega)) hm).mono ?_
  rintro e w' ⟨hv, h1⟩
  exact ⟨hv, LkTo.then_ hb.size (fun k hk _ => paint_old hk) (.of_below hb) h1⟩

set_option maxRecDepth 100000 in
set_option maxHeartbeats 2000000 in
theorem ldata_any (B : Nat) (col : Nat → Nat) (w : World) (a sg rg : Nat) (ov iv : Value) (t : Lk) (h : LkP B col w a sg rg ov iv t) (ns : Int) (p : List Int) (poll : Bool) (x : Value) (hx : Byt (fun k => col k = 7) w x p) (hm : t.out.length ≤ 100000) :
    Calls Try.prog 29 #[.pointer (some ⟨a, 0, none⟩), .int .i64 ns, x, .bool poll] w fun e w' => (∃ v, e = .returned v) ∧ LkTo B col w a sg rg (t.dat ns p poll) w' := by
  obtain ⟨xo, xc, rfl⟩ : ∃ xo xc, x = .slice xo p.length xc := by
    obtain ⟨⟨⟨_, ao, cap, h, _⟩, _⟩, _⟩ := hx
    exact ⟨ao, cap, h⟩
  have HW := fun W : World => fun hb : Below w.heap.size w W => rcwaits_any _ _ rg t.r W (h.rcv.below hb)
  have HS := lsend_at B col w a sg rg ov iv t h ⟨1, ns, t.r.waits, poll, 0, t.peer, p⟩ (.slice xo p.length xc) hx hm
  have e1 := h.c1
  have e12 := h.c12
  clear h hx
  go_enter Try.func29, Try.ntmps29
  go_wp2_with fail
  go_region_held3 (fun w' => w'.cell? ⟨a, 1, none⟩ = some (.int .i64 t.peer) ∧ w'.cell? ⟨a, 12, none⟩ = some (.pointer (some ⟨rg, 0, none⟩)))
    (first | exact ⟨e1, e12⟩ | exact ⟨hp4.c1, hp4.c12⟩)
    (first | (go_at_call 32; refine (HW _ (bl_drew (bl_refl _))).mono ?_; rintro e w3 ⟨rfl, rfl⟩) | (go_at_call 31; refine (HS _ (bl_drew (bl_refl _))).mono ?_; rintro e w4 ⟨⟨v, rfl⟩, h4⟩; obtain ⟨c4, o4, i4, hp4, _⟩ := h4.open_))
  go_wp2
  go_end0
  exact ⟨⟨_, rfl⟩, h4⟩

set_option maxRecDepth 100000 in
set_option maxHeartbeats 2000000 in
theorem lanswer_any (B : Nat) (col : Nat → Nat) (w : World) (a sg rg : Nat) (ov iv : Value) (t : Lk) (h : LkP B col w a sg rg ov iv t) (hm : t.out.length ≤ 100000) :
    Calls Try.prog 38 #[.pointer (some ⟨a, 0, none⟩)] w fun e w' => (∃ v, e = .returned v) ∧ LkTo B col w a sg rg t.answer w' := by
  have HW := fun W : World => fun hb : Below w.heap.size w W => rcwaits_any _ _ rg t.r W (h.rcv.below hb)
  have HS := lsend_at B col w a sg rg ov iv t h ⟨if t.held then 3 else 2, 0, t.r.waits, false, 0, t.peer, []⟩ _ (byt_nil _ _) hm
  have e1 := h.c1
  have e12 := h.c12
  have e10 := h.c10
  have hq : t.answer = t.send ⟨if t.held then 3 else 2, 0, t.r.waits, false, 0, t.peer, []⟩ := rfl
  rw [← hq] at HS
  clear h hq
  cases hh : t.held with
  | false =>
    rw [hh] at HS e10
    simp only [Bool.false_eq_true, if_false] at HS
    go_enter Try.func38, Try.ntmps38
    go_wp2_with fail
    go_region_held3 (fun w' => w'.cell? ⟨a, 1, none⟩ = some (.int .i64 t.peer) ∧ w'.cell? ⟨a, 12, none⟩ = some (.pointer (some ⟨rg, 0, none⟩)))
      (first | exact ⟨e1, e12⟩ | exact ⟨hp4.c1, hp4.c12⟩)
      (first | (go_at_call 32; refine (HW _ (bl_drew (bl_refl _))).mono ?_; rintro e w3 ⟨rfl, rfl⟩) | (go_at_call 31; refine (HS _ (bl_drew (bl_refl _))).mono ?_; rintro e w4 ⟨⟨v, rfl⟩, h4⟩; obtain ⟨c4, o4, i4, hp4, _⟩ := h4.open_))
    go_wp2
    go_end0
    exact ⟨⟨_, rfl⟩, h4⟩
  | true =>
    rw [hh] at HS e10
    simp only [if_true] at HS
    go_enter Try.func38, Try.ntmps38
    go_wp2_with fail
    go_region_held3 (fun w' => w'.cell? ⟨a, 1, none⟩ = some (.int .i64 t.peer) ∧ w'.cell? ⟨a, 12, none⟩ = some (.pointer (some ⟨rg, 0, none⟩)))
      (first | exact ⟨e1, e12⟩ | exact ⟨hp4.c1, hp4.c12⟩)
      (first | (go_at_call 32; refine (HW _ (bl_drew (bl_refl _))).mono ?_; rintro e w3 ⟨rfl, rfl⟩) | (go_at_call 31; refine (HS _ (bl_drew (bl_refl _))).mono ?_; rintro e w4 ⟨⟨v, rfl⟩, h4⟩; obtain ⟨c4, o4, i4, hp4, _⟩ := h4.open_))
    go_wp2
    go_end0
    exact ⟨⟨_, rfl⟩, h4⟩

end Go.Proofs.Ythmdibagcbbgoaa

namespace Go.Proofs.Ythmdibagcbbgoaa
open Go.RowKit

/-- One payload goes out. -/
def Lk.goOne (t : Lk) : Lk := { (({ t with s := t.s.send } : Lk).dat t.s.sendN t.s.sendP false) with left := if t.left = 0 then t.timer else t.left }
def goesN : Nat → Lk → Lk
  | 0, t => t
  | n + 1, t => if t.up = true ∧ t.busy = false ∧ t.s.can = true then goesN n t.goOne else t
def Lk.goes (t : Lk) : Lk := goesN 64 t
theorem snd_send_ok {s : Snd} (h : s.Ok) : s.send.Ok := by
  unfold Snd.send
  split
  · rename_i hc
    simp only [Snd.can, Bool.and_eq_true, decide_eq_true_eq] at hc
    exact ⟨h.size1, h.size2, h.base, by simp only; omega, by simp only; omega, h.len, h.pay⟩
  · exact h

/-- The end while payloads go out. -/
structure Going (B : Nat) (col : Nat → Nat) (w : World) (a sg rg : Nat) (t : Lk) (j : Nat) (wr : World) : Prop where
  ex : ∃ tj : Lk, LkTo B col w a sg rg tj wr ∧ tj.s.Ok ∧ t.goes = goesN (64 - j) tj ∧ j ≤ tj.s.under ∧ tj.out.length = t.out.length + j

/-- How many payloads are under way, as memory has it. -/
def under8 (w : World) (a : Nat) : Nat := match w.heap[a]? with
  | some (.cells cs _ _) => match cs[3]? with
    | some (Value.int _ n) => n.toNat
    | _ => 0
  | _ => 0
theorem under8_eq {F : Nat → Prop} {w : World} {a : Nat} {s : Snd} (h : SndAt F w a s) : under8 w a = s.under := by
  obtain ⟨_, _, av, vs, D, hb, _⟩ := h
  unfold under8
  rw [hb]
  simp

theorem snd_send_no {s : Snd} (h : s.can = false) : s.send = s := by unfold Snd.send; rw [if_neg (by rw [h]; decide)]
theorem rd_lt9 {α : Type} {f : α → Value} {w : World} {v : Value} {xs : List α} (h : Reads f w v xs) (hne : xs ≠ []) : ∀ k, v.ownBlock = some k → k < w.heap.size := by
  intro k hk
  obtain ⟨_, ao, cap, rfl, _, hc⟩ := h
  obtain ⟨x, hx⟩ := get_some (xs := xs) (k := 0) (List.length_pos_iff.2 hne)
  obtain ⟨b, o, rfl, hcell⟩ := hc 0 x hx
  have := cell_lt hcell
  simp [Value.ownBlock] at hk
  omega
theorem sendP_ne9 {s : Snd} (hok : s.Ok) (hc : s.can = true) : s.sendP ≠ [] := by
  unfold Snd.sendP
  rw [if_pos hc]
  simp only [Snd.can, Bool.and_eq_true, decide_eq_true_eq] at hc
  rw [List.getD_eq_getElem?_getD, List.getElem?_eq_getElem hc.1, Option.getD_some]
  intro e
  have := (hok.pay _ (List.getElem_mem hc.1)).1
  rw [e] at this
  simp at this

set_option maxRecDepth 100000 in
set_option maxHeartbeats 2000000 in
theorem lgoes_any (B : Nat) (col : Nat → Nat) (w : World) (a sg rg : Nat) (ov iv : Value) (t : Lk) (h : LkP B col w a sg rg ov iv t) (hok : t.s.Ok) (hm : t.out.length ≤ 90000) :
    Calls Try.prog 24 #[.pointer (some ⟨a, 0, none⟩)] w fun e w' => (∃ v, e = .returned v) ∧ LkTo B col w a sg rg t.goes w' := by
  have H0 : Hid (Going B col w a sg rg t 0 w) := ⟨⟨t, h.to, hok, rfl, Nat.zero_le _, rfl⟩⟩
  clear h
  go_enter Try.func24, Try.ntmps24
  go_wp2_with fail
  go_step3
  go_wp2_with fail
  go_step3
  go_wp2_with fail
  go_loopw [2] (fun _ wr => ∃ j : Nat, Hid (Going B col w a sg rg t j wr)) (fun _ wr => 64 - under8 wr sg)
  case atStart => exact ⟨0, H0⟩
  case round =>
    clear H0
    obtain ⟨j, HJ⟩ := hrel
    obtain ⟨tj, h1, hokj, hg, hju, hol⟩ := HJ.out.ex
    obtain ⟨c1, o1, i1, hp, hc1, H1⟩ := h1.open_
    have e2 := hp.c2
    have e9 := hp.c9
    have e11 := hp.c11
    have hun := under8_eq hp.snd
    have HSd := ssend_any _ sg tj.s hokj wr hp.snd
    have HP := Lib.hid hp
    have hj64 : j ≤ 63 := by have := hokj.under2; have := hokj.size2; omega
    obtain ⟨q, hq⟩ : ∃ q, 64 - j = q + 1 := ⟨63 - j, by omega⟩
    rw [hq] at hg
    have HG := Lib.hid hg
    have HO := Lib.hid hol
    clear hp hg hol h1
    by_cases hgo : tj.up = true ∧ tj.busy = false
    · obtain ⟨hup, hbz⟩ := hgo
      rw [hup] at e2
      rw [hbz] at e9
      go_wp2_with fail
      refine HSd.mono ?_
      rintro e w2 ⟨u, rfl, hu2, hs2, hf2⟩
      obtain ⟨uo, uc, rfl⟩ : ∃ uo uc, u = .slice uo tj.s.sendP.length uc := by
        obtain ⟨⟨⟨_, ao, cap, h, _⟩, _⟩, _⟩ := hu2
        exact ⟨ao, cap, h⟩
      cases hcan : tj.s.can with
      | false =>
        have hend : t.goes = tj := by rw [HG.out]; unfold goesN; rw [if_neg (by rw [hcan]; simp)]
        have h2 := HP.out.sentTo hf2 hs2 (fun k hk => .inl hk)
        rw [snd_send_no hcan] at h2
        have hE := H1.out _ _ h2
        rw [← hend] at hE
        clear hf2 hs2 hu2 HSd h2
        go_wp2
        try rw [Exit.noGoto_normal]
        go_end0
        exact ⟨⟨_, rfl⟩, hE⟩
      | true =>
        have hsg : c1 sg = 2 := HP.out.snd.2.1
        have hf2' : Fr (fun k => c1 k = 2) wr w2 := hf2.mono fun k hk => .inl (by subst hk; exact hsg)
        have h2 := HP.out.sent (n := 7) hf2' hs2 (fun k hk => .inl hk)
        have hx2 : Byt (fun k => paint c1 wr w2 7 k = 7) w2 (.slice uo tj.s.sendP.length uc) tj.s.sendP := ⟨⟨hu2.1.1, fun k hk => paint_new (hu2.1.2 k hk) (rd_lt9 hu2.1.1 (sendP_ne9 hokj hcan) k hk)⟩, hu2.2⟩
        have HD := ldata_any B _ w2 a sg rg _ _ _ h2 tj.s.sendN tj.s.sendP false _ hx2 (by have := HO.out; show tj.out.length ≤ _; omega)
        have H2 : Hid (∀ t' w', LkTo B (paint c1 wr w2 7) w2 a sg rg t' w' → LkTo B c1 wr a sg rg t' w') := fun t' w' h => LkTo.then_ hf2'.size (fun k hk _ => paint_old hk) (hf2'.mono fun k hk => .inl (by omega)) h
        clear hf2 hs2 hu2 HSd h2 hx2 hf2'
        go_wp2_with fail
        refine HD.mono ?_
        rintro e w3 ⟨⟨v, rfl⟩, h3⟩
        obtain ⟨c3, o3, i3, hp3, _, H3⟩ := h3.open_
        have e6 := hp3.c6
        have e4 := hp3.c4
        have z6 := hp3.frozen 6
        have HP3 := Lib.hid hp3
        have hun3 := under8_eq hp3.snd
        clear hp3 h3 HD
        have hstep : t.goes = goesN q tj.goOne := by rw [HG.out]; conv => lhs; unfold goesN
                                                     rw [if_pos ⟨hup, hbz, hcan⟩]
        have HN : Hid (∀ W : World, LkTo B c3 w3 a sg rg tj.goOne W → Going B col w a sg rg t (j + 1) W ∧ 64 - under8 W sg < 64 - under8 wr sg) := by
          intro W hW
          have hall := H1.out _ _ (H2.out _ _ (H3.out _ _ hW))
          have hun9 : under8 W sg = tj.s.under + 1 := by
            obtain ⟨⟨_, _, _, hq9, _⟩, _⟩ := hall
            rw [under8_eq hq9.snd]
            show tj.s.send.under = _
            unfold Snd.send
            rw [if_pos hcan]
          refine ⟨⟨tj.goOne, hall, snd_send_ok hokj, ?_, ?_, ?_⟩, ?_⟩
          · rw [hstep, show 64 - (j + 1) = q by omega]
          · show j + 1 ≤ tj.s.send.under
            unfold Snd.send
            rw [if_pos hcan]
            show j + 1 ≤ tj.s.under + 1
            omega
          · show (tj.out ++ [_]).length = _
            rw [List.length_append, HO.out]
            simp
            omega
          · have := hokj.under2
            have := hokj.size2
            omega
        clear hstep hun
        by_cases hl : tj.left = 0
        · have e6' : w3.cell? ⟨a, 6, none⟩ = some (.int .i64 (tj.left : Int)) := e6
          have e4' : w3.cell? ⟨a, 4, none⟩ = some (.int .i64 (tj.timer : Int)) := e4
          rw [hl] at e6'
          have hg1 : tj.goOne = { (({ tj with s := tj.s.send } : Lk).dat tj.s.sendN tj.s.sendP false) with left := tj.timer } := by unfold Lk.goOne; rw [if_pos hl]
          have hW := HP3.out.putTo (t' := tj.goOne) 6 (.int .i64 (tj.timer : Int)) (by rw [hg1]; rfl) rfl rfl rfl rfl
          obtain ⟨hN1, hN2⟩ := HN.out _ hW
          have HN1 := Lib.hid hN1
          have HN2 := Lib.hid hN2
          clear hW hN1 hN2 HN e4 e6 hg1
          go_wp2
          go_roundw
          case rel => exact ⟨j + 1, HN1⟩
          case measure => exact HN2.out
        · have e6' : w3.cell? ⟨a, 6, none⟩ = some (.int .i64 (tj.left : Int)) := e6
          have hg1 : tj.goOne = (({ tj with s := tj.s.send } : Lk).dat tj.s.sendN tj.s.sendP false) := by unfold Lk.goOne; rw [if_neg hl]; rfl
          have hW : LkTo B c3 w3 a sg rg tj.goOne w3 := by rw [hg1]; exact HP3.out.to
          obtain ⟨hN1, hN2⟩ := HN.out _ hW
          have HN1 := Lib.hid hN1
          have HN2 := Lib.hid hN2
          clear hW hN1 hN2 HN e4 e6 hg1
          go_wp2
          go_roundw
          case rel => exact ⟨j + 1, HN1⟩
          case measure => exact HN2.out
    · have hend : t.goes = tj := by
        rw [HG.out]
        unfold goesN
        rw [if_neg (fun h => hgo ⟨h.1, h.2.1⟩)]
      have hE : Hid (LkTo B col w a sg rg t.goes wr) := by rw [hend]; exact H1.out _ _ HP.out.to
      cases hup : tj.up with
      | false =>
        rw [hup] at e2
        go_wp2
        try rw [Exit.noGoto_normal]
        go_end0
        exact ⟨⟨_, rfl⟩, hE.out⟩
      | true =>
        have hbz : tj.busy = true := by
          cases hb : tj.busy with
          | true => rfl
          | false => exact absurd ⟨hup, hb⟩ hgo
        rw [hup] at e2
        rw [hbz] at e9
        go_wp2
        try rw [Exit.noGoto_normal]
        go_end0
        exact ⟨⟨_, rfl⟩, hE.out⟩

end Go.Proofs.Ythmdibagcbbgoaa
