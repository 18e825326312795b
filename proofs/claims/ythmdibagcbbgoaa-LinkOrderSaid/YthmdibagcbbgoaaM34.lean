/- Two ends and what is on its way between them: what every operation of an end leaves right. The plain law. No program in sight. Conditions: as they stand. -/
import Derived.Test.YthmdibagcbbgoaaM32
import Derived.Test.YthmdibagcbbgoaaM33
namespace Go.Proofs.Ythmdibagcbbgoaa
open Go.RowKit

theorem drained (L : List (List Int)) (S : Nat) : ∀ (f : Nat) (r : Rcv) (W : Nat), r.Ok → r.waits = W % 128 → W ≤ S →
    (∀ x ∈ r.kept, ∃ A : Nat, W ≤ A ∧ A < W + 63 ∧ A < S ∧ x.1 = ((A % 128 : Nat) : Int) ∧ L[A]? = some x.2) →
    (r.drain f).1 = (L.drop W).take (r.drain f).1.length ∧ W + (r.drain f).1.length ≤ S ∧
      ∀ x ∈ (r.drain f).2.kept, ∃ A : Nat, W + (r.drain f).1.length ≤ A ∧ A < W + (r.drain f).1.length + 63 ∧ A < S ∧ x.1 = ((A % 128 : Nat) : Int) ∧ L[A]? = some x.2
  | 0, r, W, h, hw, hS, hk => ⟨by simp [Rcv.drain], by simpa [Rcv.drain] using hS, hk⟩
  | f + 1, r, W, h, hw, hS, hk => by
    rw [Rcv.drain]
    cases hp : pos r.kept r.waits with
    | none => exact ⟨by simp, by simpa using hS, hk⟩
    | some y =>
      have hm := List.mem_of_getElem? (pos_some (j := y.1) (v := y.2) hp)
      obtain ⟨A, a1, a2, a3, a4, a5⟩ := hk _ hm
      simp only at a4 a5
      obtain rfl : A = W := by omega
      have hnk : ∀ x ∈ r.next.kept, ∃ B : Nat, A + 1 ≤ B ∧ B < A + 1 + 63 ∧ B < S ∧ x.1 = ((B % 128 : Nat) : Int) ∧ L[B]? = some x.2 := by
        intro x hx
        obtain ⟨B, b1, b2, b3, b4, b5⟩ := hk x ((dropK_sub r.kept r.waits).subset hx)
        have hne : x.1 ≠ (r.waits : Int) := dropK_ne h.nodup x hx
        refine ⟨B, ?_, by omega, b3, b4, b5⟩
        rcases Nat.lt_or_ge A B with h1 | h1
        · exact h1
        · obtain rfl : B = A := by omega
          exact absurd (by rw [b4, hw]) hne
      obtain ⟨g1, g2, g3⟩ := drained L S f r.next (A + 1) h.next (by simp only [Rcv.next]; omega) (by omega) hnk
      have hlt := (List.getElem?_eq_some_iff.1 a5).1
      have e : L.drop A = y.2 :: L.drop (A + 1) := by
        rw [List.drop_eq_getElem_cons hlt]
        congr 1
        exact (List.getElem?_eq_some_iff.1 a5).2
      refine ⟨?_, by simp; omega, fun x hx => ?_⟩
      · rw [e, List.length_cons, List.take_succ_cons, ← g1]
      · obtain ⟨B, b1, b2, b3⟩ := g3 x hx
        exact ⟨B, by simp; omega, by simp; omega, b3⟩

/-- The second end takes a payload. -/
theorem Dir.took {xm : Nat} {xp : Int} {s : Snd} {ym : Nat} {yp : Int} {r : Rcv} {f : Fly} {p0 q : List Fly} {Q : Int → List Nat} {W M A n : Nat} {D : List Nat} (h : Dir xm xp s ym yp r.waits r.kept (f :: p0) q Q W M A n D) (hr : r.Ok) (hk : f.c.kind = 1) (e1 : f.c.me = yp) (e2 : f.c.peer = ym) :
    ∃ W' M' E, Dir xm xp s ym yp (r.take f.c.ns f.c.data).waits (r.take f.c.ns f.c.data).kept (f :: p0) q Q W' M' A n (D ++ E) ∧ r.tells f.c.ns f.c.data = E.map enc := by
  by_cases hc : r.chk f.c.ns f.c.data.length = 0
  · have hP := (hr.put hc f.c.data).1
    have hwin := (hP.keys f.c.ns (by simp [Rcv.keys, Rcv.with_])).2.2
    have hsz : (r.with_ f.c.ns f.c.data).size ≤ 63 := hr.size2
    have hww : (r.with_ f.c.ns f.c.data).waits = W % 128 := h.r1
    obtain ⟨x1, x2, x3, x4, x5⟩ := h.f1 f (by simp) hk e2
    obtain ⟨y1, y2⟩ := x3 e1
    obtain ⟨z1, z2⟩ := h.r2
    have hWk : W ≤ f.k := by omega
    rw [e1] at x2
    have hkl : f.k < (Q yp).length := by simpa using (List.getElem?_eq_some_iff.1 x2).1
    obtain ⟨g1, g2, g3⟩ := drained ((Q yp).map enc) (max M (f.k + 1)) (r.with_ f.c.ns f.c.data).kept.length (r.with_ f.c.ns f.c.data) W hP hww (by omega) (by
      intro x hx
      have hx' : x ∈ r.kept ++ [(f.c.ns, f.c.data)] := hx
      rcases List.mem_append.1 hx' with hx | hx
      · obtain ⟨k, k1, k2, k3, k4⟩ := h.r3 x hx
        exact ⟨k, k1, k2, by omega, k4⟩
      · simp at hx
        subst hx
        exact ⟨f.k, hWk, y2, by omega, x1, x2⟩)
    obtain ⟨_, _, d3, d4⟩ := drain_ok (r.with_ f.c.ns f.c.data).kept.length _ hP
    have e3 : r.take f.c.ns f.c.data = r.took f.c.ns f.c.data := by unfold Rcv.take; rw [if_pos hc]
    have e4 : r.tells f.c.ns f.c.data = ((r.with_ f.c.ns f.c.data).drain (r.with_ f.c.ns f.c.data).kept.length).1 := by unfold Rcv.tells; rw [if_pos hc]; rfl
    have e5 : (r.took f.c.ns f.c.data).waits = ((r.with_ f.c.ns f.c.data).drain (r.with_ f.c.ns f.c.data).kept.length).2.waits := rfl
    have e6 : (r.took f.c.ns f.c.data).kept = ((r.with_ f.c.ns f.c.data).drain (r.with_ f.c.ns f.c.data).kept.length).2.kept := rfl
    rw [e3, e4, e5, e6, d4, hww]
    generalize ((r.with_ f.c.ns f.c.data).drain (r.with_ f.c.ns f.c.data).kept.length).1 = T at g1 g2 g3
    generalize ((r.with_ f.c.ns f.c.data).drain (r.with_ f.c.ns f.c.data).kept.length).2.kept = K at g3
    have hE : ∀ v ∈ ((Q yp).drop W).take T.length, v ∈ Q yp ∧ v ∈ (Q yp).drop W := fun v hv => ⟨List.mem_of_mem_drop (List.mem_of_mem_take hv), List.mem_of_mem_take hv⟩
    have hq := (h.q1 yp).1
    refine ⟨W + T.length, max M (f.k + 1), ((Q yp).drop W).take T.length, ⟨h.m0, h.m1, h.m2, h.m3, h.m4, h.q1, h.q3, h.q2, h.q4, ⟨List.pairwise_append.2 ⟨h.d1.1, (hq.sublist (List.drop_sublist _ _)).sublist (List.take_sublist _ _), fun v hv u hu => h.d3 v hv u (hE u hu).2⟩, fun v hv => ?_⟩, fun m hm v hv u hu => ?_, fun v hv u hu => ?_, by omega, ⟨g2, by omega⟩, g3, fun g hg k1 k2 => ?_, h.f2, h.s1, fun k => ⟨fun k2 => ?_, (h.s2 k).2⟩, fun g hg k1 k2 k3 => ?_, h.a2⟩, ?_⟩
    · rcases List.mem_append.1 hv with hv | hv
      · exact h.d1.2 v hv
      · exact (h.q1 yp).2 v (hE v hv).1
    · rcases List.mem_append.1 hv with hv | hv
      · exact h.d2 m hm v hv u hu
      · exact h.q3 yp m hm v (hE v hv).1 u hu
    · rw [← List.drop_drop] at hu
      rcases List.mem_append.1 hv with hv | hv
      · exact h.d3 v hv u (List.mem_of_mem_drop hu)
      · have hp : (((Q yp).drop W).take T.length ++ ((Q yp).drop W).drop T.length).Pairwise (· < ·) := by rw [List.take_append_drop]; exact hq.sublist (List.drop_sublist _ _)
        exact (List.pairwise_append.1 hp).2.2 v hv u hu
    · obtain ⟨w1, w2, w3, w4, w5⟩ := h.f1 g hg k1 k2
      refine ⟨w1, w2, fun e => ?_, w4, w5⟩
      obtain ⟨v1, v2⟩ := w3 e
      have : f.k < g.k + 63 := by
        rcases List.mem_cons.1 hg with hg | hg
        · subst hg; omega
        · exact (List.pairwise_cons.1 h.f2).1 g hg hk k1 e2 k2 (by rw [e1, e])
      omega
    · obtain ⟨t1, t2⟩ := (h.s2 k).1 k2
      have := x5 (by rw [e1, k2]) k
      omega
    · obtain ⟨w1, w2, w3⟩ := h.a1 g hg k1 k2 k3
      exact ⟨w1, by omega, w3⟩
    · rw [g1, ← List.map_drop, ← List.map_take]
      congr 2
      rw [List.length_map, List.length_take, List.length_drop]
      have : T.length ≤ (Q yp).length - W := by omega
      omega
  · have e3 : r.take f.c.ns f.c.data = r := by unfold Rcv.take; rw [if_neg hc]
    have e4 : r.tells f.c.ns f.c.data = [] := by unfold Rcv.tells; rw [if_neg hc]
    rw [e3, e4]
    exact ⟨W, M, [], by rw [List.append_nil]; exact h, rfl⟩

/-- Two ends; wy is on its way to the second one, wx to the first one (behind what each still holds); nx, ny were pushed; ix, iy came in. -/
structure Sys (x y : Lk) (wy wx : List Cn) (nx ny : Nat) (ix iy : List Nat) : Prop where
  okx : LkOk x
  oky : LkOk y
  ex : ∃ p q : List Fly, p.map (·.c) = wy ++ x.out ∧ q.map (·.c) = wx ++ y.out ∧
    (∃ Q W M A E, Dir x.me x.peer x.s y.me y.peer y.r.waits y.r.kept p q Q W M A nx (iy ++ E) ∧ y.inn = E.map enc) ∧
    (∃ Q W M A E, Dir y.me y.peer y.s x.me x.peer x.r.waits x.r.kept q p Q W M A ny (ix ++ E) ∧ x.inn = E.map enc)
section
variable {x y : Lk} {wy wx : List Cn} {nx ny : Nat} {ix iy : List Nat} {c : Cn}
theorem Sys.swap (h : Sys x y wy wx nx ny ix iy) : Sys y x wx wy ny nx iy ix := by
  obtain ⟨p, q, e1, e2, d1, d2⟩ := h.ex
  exact ⟨h.oky, h.okx, q, p, e2, e1, d2, d1⟩
/-- Nothing that matters is another one. -/
theorem Sys.same (h : Sys x y wy wx nx ny ix iy) {x' : Lk} (ok : LkOk x') (e1 : x'.me = x.me) (e2 : x'.peer = x.peer) (e3 : x'.s = x.s) (e4 : x'.r.waits = x.r.waits) (e5 : x'.r.kept = x.r.kept) (e6 : x'.out = x.out) (e7 : x'.inn = x.inn) : Sys x' y wy wx nx ny ix iy :=
  ⟨ok, h.oky, by rw [e1, e2, e3, e4, e5, e6, e7]; exact h.ex⟩
theorem Sys.send (h : Sys x y wy wx nx ny ix iy) (c : Cn) (hk : c.kind ≤ 3 → c.peer = x.peer ∧ c.nr = x.r.waits) (hd : c.kind = 1 → ∃ j, j < x.s.under ∧ c.ns = (((x.s.base + j) % 128 : Nat) : Int) ∧ x.s.ps[j]? = some c.data) : Sys (x.send c) y wy wx nx ny ix iy := by
  obtain ⟨p, q, e1, e2, ⟨Q, W, M, A, E, D1, i1⟩, ⟨Q', W', M', A', E', D2, i2⟩⟩ := h.ex
  have hu : x.s.under ≤ 63 := by have := h.okx.s.under2; have := h.okx.s.size2; omega
  obtain ⟨j, hj⟩ : ∃ j, c.kind = 1 → j < x.s.under ∧ c.ns = (((x.s.base + j) % 128 : Nat) : Int) ∧ x.s.ps[j]? = some c.data := by
    by_cases h1 : c.kind = 1
    · obtain ⟨j, hj⟩ := hd h1
      exact ⟨j, fun _ => hj⟩
    · exact ⟨0, fun e => absurd e h1⟩
  refine ⟨(send_grow x c h.okx).1, h.oky, p ++ [⟨{ c with me := x.me }, A + j, W'⟩], q, ?_, e2, ⟨Q, W, M, A, E, ?_, i1⟩, ⟨Q', W', M', A', E', ?_, i2⟩⟩
  · rw [List.map_append, e1]; simp [Lk.send]
  · refine D1.sends hu D2.m1 rfl (fun k => (hk k).1) fun k e => ?_
    obtain ⟨j1, j2, j3⟩ := hj k
    obtain ⟨s1, s2, s3⟩ := D1.s1 e
    refine ⟨by simp only; rw [j2, s2]; omega, ?_, by simp only; omega, by simp only; omega⟩
    show ((Q x.me).map enc)[A + j]? = some c.data
    rw [s1, List.map_drop, List.getElem?_drop] at j3
    exact j3
  · exact D2.answers fun k => ⟨(hk k).2, rfl⟩
theorem Sys.drop (h : Sys x y wy (c :: wx) nx ny ix iy) : Sys x y wy wx nx ny ix iy := by
  obtain ⟨p, q, e1, e2, ⟨Q, W, M, A, E, D1, i1⟩, ⟨Q', W', M', A', E', D2, i2⟩⟩ := h.ex
  cases q with
  | nil => cases e2
  | cons g q0 =>
    simp only [List.map_cons, List.cons_append, List.cons.injEq] at e2
    exact ⟨h.okx, h.oky, p, q0, e1, e2.2, ⟨Q, W, M, A, E, D1.sub (List.Sublist.refl _) (List.sublist_cons_self _ _), i1⟩, ⟨Q', W', M', A', E', D2.sub (List.sublist_cons_self _ _) (List.Sublist.refl _), i2⟩⟩
/-- The sender sends a payload that waited: it lies under way. -/
theorem Sys.sent (h : Sys x y wy wx nx ny ix iy) : Sys { x with s := x.s.send } y wy wx nx ny ix iy := by
  obtain ⟨p, q, e1, e2, ⟨Q, W, M, A, E, D1, i1⟩, d2⟩ := h.ex
  have hs : x.s.send.ps = x.s.ps ∧ x.s.send.base = x.s.base ∧ x.s.under ≤ x.s.send.under := by
    unfold Snd.send
    split
    · exact ⟨rfl, rfl, by simp only; omega⟩
    · exact ⟨rfl, rfl, Nat.le_refl _⟩
  exact ⟨⟨h.okx.me, snd_send_ok h.okx.s, h.okx.r⟩, h.oky, p, q, e1, e2, ⟨Q, W, M, A, E, D1.under hs.1 hs.2.1 hs.2.2, i1⟩, d2⟩
theorem Sys.goOne (h : Sys x y wy wx nx ny ix iy) (hc : x.s.can = true) : Sys x.goOne y wy wx nx ny ix iy := by
  have hb : x.s.under < x.s.ps.length ∧ x.s.under < x.s.size := by simpa [Snd.can] using hc
  have h1 := h.sent.send ⟨1, x.s.sendN, x.r.waits, false, 0, x.peer, x.s.sendP⟩ (fun _ => ⟨rfl, rfl⟩) (fun _ => ⟨x.s.under, by
    show x.s.under < x.s.send.under
    unfold Snd.send
    rw [if_pos hc]
    simp only
    omega, by
    show ((x.s.sendN : Nat) : Int) = (((x.s.send.base + x.s.under) % 128 : Nat) : Int)
    unfold Snd.send Snd.sendN
    rw [if_pos hc, if_pos hc], by
    show x.s.send.ps[x.s.under]? = some x.s.sendP
    unfold Snd.send Snd.sendP
    rw [if_pos hc, if_pos hc]
    show x.s.ps[x.s.under]? = some (x.s.ps[x.s.under]?.getD [])
    rw [List.getElem?_eq_getElem hb.1]
    rfl⟩)
  exact h1.same ⟨h1.okx.me, h1.okx.s, h1.okx.r⟩ rfl rfl rfl rfl rfl rfl rfl
theorem Sys.goesN (n : Nat) : ∀ {x : Lk}, Sys x y wy wx nx ny ix iy → Sys (goesN n x) y wy wx nx ny ix iy := by
  induction n with
  | zero => exact fun h => h
  | succ n ih =>
    intro x h
    show Sys (if x.up = true ∧ x.busy = false ∧ x.s.can = true then Proofs.Ythmdibagcbbgoaa.goesN n x.goOne else x) y wy wx nx ny ix iy
    split
    · rename_i hc
      exact ih (h.goOne hc.2.2)
    · exact h
theorem Sys.goes (h : Sys x y wy wx nx ny ix iy) : Sys x.goes y wy wx nx ny ix iy := h.goesN 64
theorem Sys.head (h : Sys x y wy (c :: wx) nx ny ix iy) : ∃ (p q0 : List Fly) (g : Fly), g.c = c ∧ p.map (·.c) = wy ++ x.out ∧ (g :: q0).map (·.c) = (c :: wx) ++ y.out ∧
    (∃ Q W M A E, Dir x.me x.peer x.s y.me y.peer y.r.waits y.r.kept p (g :: q0) Q W M A nx (iy ++ E) ∧ y.inn = E.map enc) ∧
    (∃ Q W M A E, Dir y.me y.peer y.s x.me x.peer x.r.waits x.r.kept (g :: q0) p Q W M A ny (ix ++ E) ∧ x.inn = E.map enc) := by
  obtain ⟨p, q, e1, e2, d1, d2⟩ := h.ex
  cases q with
  | nil => cases e2
  | cons g q0 =>
    have e2' := e2
    simp only [List.map_cons, List.cons_append, List.cons.injEq] at e2'
    exact ⟨p, q0, g, e2'.1, e1, e2, d1, d2⟩
theorem Sys.ackS (h : Sys x y wy (c :: wx) nx ny ix iy) (hk : c.kind ≤ 3) (e1 : c.me = x.peer) (e2 : c.peer = x.me) : Sys { x with s := x.s.ack c.nr } y wy (c :: wx) nx ny ix iy := by
  obtain ⟨p, q0, g, rfl, h1, h2, ⟨Q, W, M, A, E, D1, i1⟩, ⟨Q', W', M', A', E', D2, i2⟩⟩ := h.head
  have hu : x.s.under ≤ 63 := by have := h.okx.s.under2; have := h.okx.s.size2; omega
  obtain ⟨B, D3⟩ := D1.acked hu hk e1 e2 (D2.m4 g (by simp) hk).2
  exact ⟨⟨h.okx.me, Snd.ack_ok h.okx.s _, h.okx.r⟩, h.oky, p, g :: q0, h1, h2, ⟨Q, W, M, B, E, D3, i1⟩, ⟨Q', W', M', A', E', D2, i2⟩⟩
theorem Sys.ack (h : Sys x y wy (c :: wx) nx ny ix iy) (hk : c.kind ≤ 3) (e1 : c.me = x.peer) (e2 : c.peer = x.me) : Sys (x.ack c.nr) y wy (c :: wx) nx ny ix iy := by
  have h1 := h.ackS hk e1 e2
  unfold Lk.ack
  split
  · exact h1.same ⟨h1.okx.me, h1.okx.s, h1.okx.r⟩ rfl rfl rfl rfl rfl rfl rfl
  · exact h1
theorem Sys.push (h : Sys x y wy wx nx ny ix iy) : Sys (x.push (enc nx)) y wy wx (if x.pushE (enc nx) = 0 then nx + 1 else nx) ny ix iy := by
  unfold Lk.push Lk.pushE
  by_cases hu : x.up = true
  · by_cases he : x.s.pushE (enc nx) = 0
    · rw [if_pos ⟨hu, he⟩, if_pos (by rw [if_pos hu]; exact he)]
      refine Sys.goes ?_
      obtain ⟨p, q, e1, e2, ⟨Q, W, M, A, E, D1, i1⟩, d2⟩ := h.ex
      have hs : x.s.push (enc nx) = { x.s with ps := x.s.ps ++ [enc nx] } := by unfold Snd.push; rw [if_pos he]
      obtain ⟨Q', D3⟩ := D1.pushed (s' := x.s.push (enc nx)) (by rw [hs]) (by rw [hs]) (by rw [hs])
      exact ⟨⟨h.okx.me, Snd.push_ok h.okx.s _, h.okx.r⟩, h.oky, p, q, e1, e2, ⟨Q', W, M, A, E, D3, i1⟩, d2⟩
    · rw [if_neg (fun k => he k.2), if_neg (by rw [if_pos hu]; exact he)]
      exact h
  · rw [if_neg (fun k => hu k.1), if_neg (by rw [if_neg hu]; decide)]
    exact h
theorem Sys.turn (h : Sys x y wy (c :: wx) nx ny ix iy) (hne : c.me ≠ x.peer) : Sys (({ x with peer := c.me } : Lk).reset) y wy (c :: wx) nx ny ix iy := by
  obtain ⟨p, q0, g, rfl, h1, h2, ⟨Q, W, M, A, E, D1, i1⟩, ⟨Q', W', M', A', E', D2, i2⟩⟩ := h.head
  have hm := D2.m3 g (by simp)
  have hlt : x.peer < g.c.me := by omega
  have ok : LkOk ({ x with peer := g.c.me } : Lk) := ⟨h.okx.me, h.okx.s, h.okx.r⟩
  exact ⟨(reset_grow _ ok).1, h.oky, p, g :: q0, h1, h2, ⟨Q, W, M, 0, E, D1.turned hlt hm.2 x.s.size, i1⟩, ⟨Q', 0, 0, A', E', D2.turns hlt fun f hf k e => (D1.m4 f hf k).2 e, i2⟩⟩
theorem Sys.fresh (h : Sys x y wy wx nx ny ix iy) {x' : Lk} (ok : LkOk x') (e1 : x'.me = x.me + 1) (e2 : x'.peer = -1) (e3 : x'.r.waits = 0) (e4 : x'.r.kept = []) (e5 : x'.out = x.out) (e6 : x'.inn = x.inn) : Sys x' y wy wx nx ny ix iy := by
  obtain ⟨p, q, h1, h2, ⟨Q, W, M, A, E, D1, i1⟩, ⟨Q', W', M', A', E', D2, i2⟩⟩ := h.ex
  refine ⟨ok, h.oky, p, q, by rw [e5]; exact h1, h2, ⟨Q, W, M, A, E, by rw [e1, e2]; exact D1.anew _, i1⟩, ⟨_, 0, 0, 0, E', by rw [e1, e2, e3, e4]; exact D2.fresh D1.m1 fun g hg => (D1.m3 g hg).2, by rw [e6]; exact i2⟩⟩
theorem Sys.setup (h : Sys x y wy wx nx ny ix iy) (b : Bool) : Sys (x.setup b) y wy wx nx ny ix iy := by
  have h1 := h.send ⟨5, 0, 0, b, 0, 0, []⟩ (fun k => absurd k (by show ¬ (5 : Int) ≤ 3; decide)) (fun k => absurd k (by show ¬ (5 : Int) = 1; decide))
  exact h1.same ⟨h1.okx.me, h1.okx.s, h1.okx.r⟩ rfl rfl rfl rfl rfl rfl rfl
theorem Sys.anew (h : Sys x y wy wx nx ny ix iy) (hm : x.me + 1 < 65536) : Sys x.anew y wy wx nx ny ix iy := by
  unfold Lk.anew
  refine Sys.setup ?_ false
  rw [Nat.mod_eq_of_lt hm]
  have ok : LkOk ({ x with me := x.me + 1, up := false, peer := -1 } : Lk) := ⟨hm, h.okx.s, h.okx.r⟩
  exact h.fresh (reset_grow _ ok).1 rfl rfl rfl rfl rfl rfl
theorem Sys.taken (h : Sys x y wy (c :: wx) nx ny ix iy) (hk : c.kind = 1) (e1 : c.me = x.peer) (e2 : c.peer = x.me) : Sys (x.taken c.ns c.data) y wy (c :: wx) nx ny ix iy := by
  obtain ⟨p, q0, g, rfl, h1, h2, ⟨Q, W, M, A, E, D1, i1⟩, ⟨Q', W', M', A', E', D2, i2⟩⟩ := h.head
  obtain ⟨W2, M2, F, D3, i3⟩ := D2.took h.okx.r hk e1 e2
  refine ⟨⟨h.okx.me, h.okx.s, (h.okx.r.take _ _).1⟩, h.oky, p, g :: q0, h1, h2, ⟨Q, W, M, A, E, ?_, i1⟩, ⟨Q', W2, M2, A', E' ++ F, by rw [← List.append_assoc]; exact D3, ?_⟩⟩
  · exact D1
  · show x.inn ++ x.r.tells g.c.ns g.c.data = _
    rw [i2, i3, List.map_append]
theorem Sys.heard (h : Sys x y wy wx nx ny ix iy) : Sys x.heard y wy wx nx ny ix iy := h.same ⟨h.okx.me, h.okx.s, h.okx.r⟩ rfl rfl rfl rfl rfl rfl rfl
theorem Sys.woke (h : Sys x y wy wx nx ny ix iy) : Sys x.woke y wy wx nx ny ix iy := by
  unfold Lk.woke
  split
  · exact h
  · exact h.heard
theorem woke_me (x : Lk) : x.woke.me = x.me ∧ x.woke.peer = x.peer := by
  unfold Lk.woke
  split <;> exact ⟨rfl, rfl⟩
theorem Sys.answer (h : Sys x y wy wx nx ny ix iy) : Sys x.answer y wy wx nx ny ix iy :=
  h.send _ (fun _ => ⟨rfl, rfl⟩) (fun k => by
    have : (if x.held = true then (3 : Int) else 2) = 1 := k
    split at this <;> omega)
theorem Sys.ask (h : Sys x y wy wx nx ny ix iy) (n : Int) : Sys (x.ask n) y wy wx nx ny ix iy :=
  h.send _ (fun k => absurd k (by show ¬ (4 : Int) ≤ 3; decide)) (fun k => absurd k (by show ¬ (4 : Int) = 1; decide))
theorem Sys.askAll (l : List Int) : ∀ {x : Lk}, Sys x y wy wx nx ny ix iy → Sys (x.askAll l) y wy wx nx ny ix iy := by
  induction l with
  | nil => exact fun h => h
  | cons n l ih => exact fun h => ih (h.ask n)
theorem askAll_me (l : List Int) : ∀ x : Lk, (x.askAll l).me = x.me ∧ (x.askAll l).peer = x.peer := by
  induction l with
  | nil => exact fun x => ⟨rfl, rfl⟩
  | cons n l ih => exact fun x => ih (x.ask n)
theorem goes_me (x : Lk) : x.goes.me = x.me ∧ x.goes.peer = x.peer := by
  obtain ⟨_, _, h3⟩ := goes_went x
  obtain ⟨a1, a2, _⟩ := h3
  exact ⟨a1, a2⟩
theorem ack_me (x : Lk) (nr : Int) : (x.ack nr).me = x.me ∧ (x.ack nr).peer = x.peer := by
  unfold Lk.ack
  split <;> exact ⟨rfl, rfl⟩
theorem Sys.forget (h : Sys x y wy wx nx ny ix iy) : Sys x.forget y wy wx nx ny ix iy := h.same ⟨h.okx.me, h.okx.s, forget_ok h.okx.r⟩ rfl rfl rfl rfl rfl rfl rfl
theorem Sys.comes (h : Sys x y wy (c :: wx) nx ny ix iy) (hk : c.kind = 1) (e1 : c.me = x.peer) (e2 : c.peer = x.me) : Sys (x.comes c.ns c.nr c.p c.data) y wy (c :: wx) nx ny ix iy ∧ (x.comes c.ns c.nr c.p c.data).me = x.me := by
  have h1 := (h.ack (by omega) e1 e2).goes
  obtain ⟨m1, m2⟩ := goes_me (x.ack c.nr)
  obtain ⟨m3, m4⟩ := ack_me x c.nr
  have hm : (x.ack c.nr).goes.me = x.me ∧ (x.ack c.nr).goes.peer = x.peer := ⟨m1.trans m3, m2.trans m4⟩
  unfold Lk.comes
  generalize (x.ack c.nr).goes = z at h1 hm ⊢
  have key : ∀ z : Lk, Sys z y wy (c :: wx) nx ny ix iy → z.me = x.me → z.peer = x.peer → Sys (z.takes c.ns c.data).answer y wy (c :: wx) nx ny ix iy ∧ (z.takes c.ns c.data).answer.me = x.me := by
    intro z hz g1 g2
    unfold Lk.takes
    split
    · exact ⟨hz.answer, g1⟩
    · have := (hz.taken hk (by rw [g2]; exact e1) (by rw [g1]; exact e2)).askAll (z.r.wants c.ns c.data)
      exact ⟨this.answer, (askAll_me _ _).1.trans g1⟩
  cases hp : c.p with
  | true =>
    rw [if_pos rfl]
    exact key z.forget h1.forget hm.1 hm.2
  | false =>
    rw [if_neg (by decide)]
    exact key z h1 hm.1 hm.2
theorem Sys.ready (h : Sys x y wy (c :: wx) nx ny ix iy) (hk : c.kind ≤ 3) (e1 : c.me = x.peer) (e2 : c.peer = x.me) (b : Bool) : Sys (x.ready c.kind c.nr b) y wy (c :: wx) nx ny ix iy ∧ (x.ready c.kind c.nr b).me = x.me := by
  have h0 : Sys ({ x with busy := (c.kind == 3) } : Lk) y wy (c :: wx) nx ny ix iy := h.same ⟨h.okx.me, h.okx.s, h.okx.r⟩ rfl rfl rfl rfl rfl rfl rfl
  have h1 := (h0.ack hk e1 e2).goes
  have m1 := (goes_me (({ x with busy := (c.kind == 3) } : Lk).ack c.nr)).1.trans (ack_me ({ x with busy := (c.kind == 3) } : Lk) c.nr).1
  have hr : ∀ z : Lk, Sys z y wy (c :: wx) nx ny ix iy → Sys z.rearm y wy (c :: wx) nx ny ix iy ∧ z.rearm.me = z.me := by
    intro z hz
    unfold Lk.rearm
    split
    · exact ⟨hz.same ⟨hz.okx.me, hz.okx.s, hz.okx.r⟩ rfl rfl rfl rfl rfl rfl rfl, rfl⟩
    · exact ⟨hz, rfl⟩
  obtain ⟨h2, m2⟩ := hr _ h1
  unfold Lk.ready
  split
  · exact ⟨h2.answer, m2.trans m1⟩
  · exact ⟨h2, m2.trans m1⟩
theorem Sys.again (h : Sys x y wy wx nx ny ix iy) (nr : Int) : Sys (x.again nr) y wy wx nx ny ix iy ∧ (x.again nr).me = x.me := by
  unfold Lk.again
  split
  · rename_i he
    have ho := h.okx.s
    refine ⟨h.send _ (fun _ => ⟨rfl, rfl⟩) (fun _ => ?_), rfl⟩
    unfold Snd.againP
    rw [if_pos he]
    unfold Snd.againE at he
    split at he
    · cases he
    split at he
    · rename_i h1 h2
      have hb := ho.base
      have hlt : ((nr - x.s.base) % 128).toNat < x.s.ps.length := by have := ho.under1; omega
      refine ⟨((nr - x.s.base) % 128).toNat, by omega, by simp only; omega, ?_⟩
      show x.s.ps[((nr - x.s.base) % 128).toNat]? = some (x.s.ps[((nr - x.s.base) % 128).toNat]?.getD [])
      rw [List.getElem?_eq_getElem hlt]
      rfl
    · cases he
  · exact ⟨h, rfl⟩
theorem Sys.sabme (h : Sys x y wy (c :: wx) nx ny ix iy) (b : Bool) : Sys (x.sabme c.me b) y wy (c :: wx) nx ny ix iy ∧ (x.sabme c.me b).me = x.me := by
  have h1 : Sys (x.sabmed c.me) y wy (c :: wx) nx ny ix iy ∧ (x.sabmed c.me).me = x.me := by
    unfold Lk.sabmed
    split
    · exact ⟨h, rfl⟩
    · rename_i hne
      have h2 := h.turn hne
      exact ⟨h2.same ⟨h2.okx.me, h2.okx.s, h2.okx.r⟩ rfl rfl rfl rfl rfl rfl rfl, rfl⟩
  exact ⟨h1.1.send _ (fun k => absurd k (by show ¬ (6 : Int) ≤ 3; decide)) (fun k => absurd k (by show ¬ (6 : Int) = 1; decide)), h1.2⟩
theorem Sys.ua (h : Sys x y wy (c :: wx) nx ny ix iy) : Sys (x.ua c.peer c.me) y wy (c :: wx) nx ny ix iy ∧ (x.ua c.peer c.me).me = x.me := by
  unfold Lk.ua
  split
  · split
    · exact ⟨h.heard, rfl⟩
    · rename_i hne
      exact ⟨(h.turn hne).heard, rfl⟩
  · exact ⟨h, rfl⟩
theorem anew_me (hm : x.me + 1 < 65536) : x.anew.me = x.me + 1 := by
  show (x.me + 1) % 65536 = x.me + 1
  omega
theorem Sys.dm (h : Sys x y wy wx nx ny ix iy) (hm : x.me + 1 < 65536) (a b : Int) : Sys (x.dm a b) y wy wx nx ny ix iy ∧ (x.dm a b).me ≤ x.me + 1 := by
  unfold Lk.dm
  split
  · exact ⟨h.anew hm, by rw [anew_me hm]; omega⟩
  · exact ⟨h, by omega⟩
theorem chk_kind {c : Cn} (h : c.chk = 0) : 1 ≤ c.kind ∧ c.kind ≤ 7 := by
  have h' : chkN c.kind c.ns c.nr c.me c.peer c.data.length = 0 := h
  unfold chkN at h'
  split at h'
  · cases h'
  · omega
theorem Sys.fits (h : Sys x y wy (c :: wx) nx ny ix iy) (h1 : 1 ≤ c.kind) (h2 : c.kind ≤ 4) (e1 : c.me = x.peer) (e2 : c.peer = x.me) : Sys (x.fits c) y wy (c :: wx) nx ny ix iy ∧ (x.fits c).me = x.me := by
  have hw := h.woke
  obtain ⟨m1, m2⟩ := woke_me x
  rw [← m2] at e1
  rw [← m1] at e2 ⊢
  unfold Lk.fits
  split
  · rename_i hk
    exact hw.comes hk e1 e2
  split
  · exact hw.again _
  · exact hw.ready (by omega) e1 e2 _
/-- A control comes. -/
theorem Sys.recv (h : Sys x y wy (c :: wx) nx ny ix iy) (hm : x.me + 1 < 65536) : Sys (x.recv c) y wy (c :: wx) nx ny ix iy ∧ (x.recv c).me ≤ x.me + 1 := by
  unfold Lk.recv
  split
  · exact ⟨h, by omega⟩
  rename_i hc
  have hk := chk_kind (c := c) (by omega)
  split
  · have := h.sabme c.p
    exact ⟨this.1, by omega⟩
  split
  · have := h.ua
    exact ⟨this.1, by omega⟩
  split
  · exact h.dm hm _ _
  split
  · rename_i hf
    have := h.fits hk.1 (by omega) hf.1 hf.2
    exact ⟨this.1, by omega⟩
  split
  · exact ⟨h, by omega⟩
  · exact ⟨h.send _ (fun k => absurd k (by show ¬ (7 : Int) ≤ 3; decide)) (fun k => absurd k (by show ¬ (7 : Int) = 1; decide)), by show x.me ≤ _; omega⟩
end

/-- A clock that is at its end. -/
def Lk.rung (t : Lk) : Lk :=
  if t.up = false then t.setup true else if 0 < t.s.under ∧ t.tried = t.tries then t.anew
  else if 0 < t.s.under then { (({ t with tried := t.tried + 1 } : Lk).dat t.s.base (t.s.againP t.s.base) true) with left := t.timer }
  else if t.busy = true ∧ 0 < t.s.ps.length then { (t.send ⟨2, 0, t.r.waits, true, 0, t.peer, []⟩) with left := t.timer } else t
def Lk.tick (t : Lk) : Lk := if t.left = 0 then t else if 1 < t.left then { t with left := t.left - 1 } else ({ t with left := 0 } : Lk).rung
section
variable {x y : Lk} {wy wx : List Cn} {nx ny : Nat} {ix iy : List Nat} {c : Cn}
theorem againP_base {s : Snd} (h : s.Ok) (hu : 0 < s.under) : s.againP s.base = s.ps.getD 0 [] := by
  have hb := h.base
  have hE : s.againE s.base = 0 := by
    unfold Snd.againE
    rw [if_neg (by omega), if_pos (by omega)]
  unfold Snd.againP
  rw [if_pos hE]
  congr 1
  omega
theorem Sys.rung (h : Sys x y wy wx nx ny ix iy) (hm : x.me + 1 < 65536) : Sys x.rung y wy wx nx ny ix iy ∧ x.rung.me ≤ x.me + 1 := by
  unfold Lk.rung
  split
  · exact ⟨h.setup true, by show x.me ≤ _; omega⟩
  split
  · exact ⟨h.anew hm, by rw [anew_me hm]; omega⟩
  split
  · rename_i hu
    have h0 : Sys ({ x with tried := x.tried + 1 } : Lk) y wy wx nx ny ix iy := h.same ⟨h.okx.me, h.okx.s, h.okx.r⟩ rfl rfl rfl rfl rfl rfl rfl
    have hb := h.okx.s.base
    have hl : 0 < x.s.ps.length := by have := h.okx.s.under1; omega
    have h1 := h0.send ⟨1, x.s.base, x.r.waits, true, 0, x.peer, x.s.againP x.s.base⟩ (fun _ => ⟨rfl, rfl⟩) (fun _ => ⟨0, hu, by show ((x.s.base : Nat) : Int) = (((x.s.base + 0) % 128 : Nat) : Int); omega, by
      show x.s.ps[0]? = some (x.s.againP x.s.base)
      rw [againP_base h.okx.s hu, List.getElem?_eq_getElem hl]
      show _ = some (x.s.ps[0]?.getD [])
      rw [List.getElem?_eq_getElem hl]
      rfl⟩)
    exact ⟨h1.same ⟨h1.okx.me, h1.okx.s, h1.okx.r⟩ rfl rfl rfl rfl rfl rfl rfl, by show x.me ≤ _; omega⟩
  split
  · have h1 := h.send ⟨2, 0, x.r.waits, true, 0, x.peer, []⟩ (fun _ => ⟨rfl, rfl⟩) (fun k => absurd k (by show ¬ (2 : Int) = 1; decide))
    exact ⟨h1.same ⟨h1.okx.me, h1.okx.s, h1.okx.r⟩ rfl rfl rfl rfl rfl rfl rfl, by show x.me ≤ _; omega⟩
  · exact ⟨h, by omega⟩
/-- A clock goes on. -/
theorem Sys.tick (h : Sys x y wy wx nx ny ix iy) (hm : x.me + 1 < 65536) : Sys x.tick y wy wx nx ny ix iy ∧ x.tick.me ≤ x.me + 1 := by
  unfold Lk.tick
  split
  · exact ⟨h, by omega⟩
  split
  · exact ⟨h.same ⟨h.okx.me, h.okx.s, h.okx.r⟩ rfl rfl rfl rfl rfl rfl rfl, by show x.me ≤ _; omega⟩
  · have h0 : Sys ({ x with left := 0 } : Lk) y wy wx nx ny ix iy := h.same ⟨h.okx.me, h.okx.s, h.okx.r⟩ rfl rfl rfl rfl rfl rfl rfl
    exact h0.rung hm
/-- What an end has sent is thrown away. -/
theorem Sys.mute (h : Sys x y wy wx nx ny ix iy) : Sys { x with out := [] } y wy wx nx ny ix iy := by
  obtain ⟨p, q, e1, e2, ⟨Q, W, M, A, E, D1, i1⟩, ⟨Q', W', M', A', E', D2, i2⟩⟩ := h.ex
  refine ⟨⟨h.okx.me, h.okx.s, h.okx.r⟩, h.oky, p.take wy.length, q, by rw [List.map_take, e1]; simp, e2, ⟨Q, W, M, A, E, D1.sub (List.take_sublist _ _) (List.Sublist.refl _), i1⟩, ⟨Q', W', M', A', E', D2.sub (List.Sublist.refl _) (List.take_sublist _ _), i2⟩⟩
/-- An end begins anew: another one, with a me never used. -/
theorem Sys.renew (h : Sys x y wy wx nx ny ix iy) (hi : x.inn = []) {size timer tries : Nat} (hm : x.me + 1 < 65536) (h1 : 1 ≤ size) (h2 : size ≤ 63) : Sys (Lk.new (x.me + 1) size timer tries) y wy wx nx ny ix iy := by
  unfold Lk.new
  refine Sys.setup ?_ false
  refine h.mute.fresh ⟨hm, ⟨h1, h2, by simp [Lk.blank], by simp [Lk.blank], by simp [Lk.blank], by simp [Lk.blank], by simp [Lk.blank]⟩, new_ok h1 h2⟩ rfl rfl rfl rfl ?_ ?_
  · rfl
  · rw [show ({ x with out := [] } : Lk).inn = x.inn from rfl, hi]; rfl
theorem Sys.push_me (x : Lk) (p : List Int) : (x.push p).me = x.me := by
  unfold Lk.push
  split
  · exact (goes_me _).1
  · rfl
/-- What was sent is on its way. -/
theorem Sys.outed (h : Sys x y wy wx nx ny ix iy) : Sys { x with out := [] } y (wy ++ x.out) wx nx ny ix iy := by
  obtain ⟨p, q, e1, e2, d1, d2⟩ := h.ex
  exact ⟨⟨h.okx.me, h.okx.s, h.okx.r⟩, h.oky, p, q, by rw [e1]; simp, e2, d1, d2⟩
/-- What came in is looked at: rising numbers that were pushed. -/
theorem Sys.inned (h : Sys x y wy wx nx ny ix iy) : ∃ E : List Nat, x.inn = E.map enc ∧ Sys { x with inn := [] } y wy wx nx ny (ix ++ E) iy ∧ (ix ++ E).Pairwise (· < ·) ∧ ∀ v ∈ E, v < ny := by
  obtain ⟨p, q, e1, e2, d1, ⟨Q', W', M', A', E', D2, i2⟩⟩ := h.ex
  exact ⟨E', i2, ⟨⟨h.okx.me, h.okx.s, h.okx.r⟩, h.oky, p, q, e1, e2, d1, ⟨Q', W', M', A', [], by rw [List.append_nil]; exact D2, rfl⟩⟩, D2.d1.1, fun v hv => D2.d1.2 v (List.mem_append.2 (.inr hv))⟩
end
/-- The beginning. -/
theorem Sys.start {x y : Lk} (okx : LkOk x) (oky : LkOk y) (hx : x.peer = -1) (hy : y.peer = -1) (rx : x.r.waits = 0) (ry : y.r.waits = 0) (kx : x.r.kept = []) (ky : y.r.kept = []) (ox : x.out = [⟨5, 0, 0, false, x.me, 0, []⟩]) (oy : y.out = [⟨5, 0, 0, false, y.me, 0, []⟩]) (ix : x.inn = []) (iy : y.inn = []) : Sys x y [] [] 0 0 [] [] := by
  have key : ∀ (a b : Nat) (s : Snd), Dir a (-1) s b (-1) 0 [] [⟨⟨5, 0, 0, false, a, 0, []⟩, 0, 0⟩] [⟨⟨5, 0, 0, false, b, 0, []⟩, 0, 0⟩] (fun _ => []) 0 0 0 0 [] := fun a b s =>
    ⟨by omega, by omega, List.pairwise_singleton _ _, fun f hf => by simp at hf; subst hf; simp only; omega, fun f hf k => by simp at hf; subst hf; simp at k, fun m => ⟨List.Pairwise.nil, fun v hv => (by cases hv)⟩, fun m m' _ v hv => (by cases hv), fun _ _ => rfl, fun _ => rfl, ⟨List.Pairwise.nil, fun v hv => (by cases hv)⟩, fun m _ v hv => (by cases hv), fun v hv => (by cases hv), rfl, ⟨by omega, by omega⟩, fun x hx => (by cases hx), fun f hf k => by simp at hf; subst hf; simp at k, List.pairwise_singleton _ _, fun e => by omega, fun e => by omega, fun g hg k => by simp at hg; subst hg; simp at k, List.pairwise_singleton _ _⟩
  refine ⟨okx, oky, [⟨⟨5, 0, 0, false, x.me, 0, []⟩, 0, 0⟩], [⟨⟨5, 0, 0, false, y.me, 0, []⟩, 0, 0⟩], by rw [ox]; rfl, by rw [oy]; rfl, ⟨fun _ => [], 0, 0, 0, [], by rw [hx, hy, ry, ky]; exact key _ _ _, by rw [iy]; rfl⟩, ⟨fun _ => [], 0, 0, 0, [], by rw [hx, hy, rx, kx]; exact key _ _ _, by rw [ix]; rfl⟩⟩

end Go.Proofs.Ythmdibagcbbgoaa
