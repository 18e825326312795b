/- A direction of a link: what was pushed at one end, what is on its way, what came in at the other one. The plain law. No program in sight. Conditions: as they stand. -/
import Derived.Test.YthmdibagcbbgoaaM31
namespace Go.Proofs.Ythmdibagcbbgoaa
open Go.RowKit

/-- A payload's bytes: its number. -/
def enc (v : Nat) : List Int := [((v / 256 % 256 : Nat) : Int), ((v % 256 : Nat) : Int)]
/-- A control on its way: which payload it holds, how many its sender had taken. -/
structure Fly where
  c : Cn
  k : Nat
  w : Nat
/-- From an end (xm, xp, s) to an end (ym, yp, rw, rk): p is on its way to the second one, q to the first one. Q: what was pushed at the first end in each of its sessions with the second one as it stands. -/
structure Dir (xm : Nat) (xp : Int) (s : Snd) (ym : Nat) (yp : Int) (rw : Nat) (rk : List (Int × List Int)) (p q : List Fly) (Q : Int → List Nat) (W M A n : Nat) (D : List Nat) : Prop where
  m0 : -1 ≤ yp
  m1 : yp ≤ xm
  m2 : p.Pairwise fun (f g : Fly) => f.c.me ≤ g.c.me
  m3 : ∀ f ∈ p, yp ≤ f.c.me ∧ f.c.me ≤ xm
  m4 : ∀ f ∈ p, f.c.kind ≤ 3 → f.c.peer ≤ ym ∧ (f.c.me = (xm : Int) → f.c.peer ≤ xp)
  q1 : ∀ m, (Q m).Pairwise (· < ·) ∧ ∀ v ∈ Q m, v < n
  q3 : ∀ m m', m < m' → ∀ v ∈ Q m, ∀ u ∈ Q m', v < u
  q2 : ∀ m, (m < 0 ∨ (xm : Int) < m) → Q m = []
  q4 : xp ≠ (ym : Int) → Q xm = []
  d1 : D.Pairwise (· < ·) ∧ ∀ v ∈ D, v < n
  d2 : ∀ m, yp < m → ∀ v ∈ D, ∀ u ∈ Q m, v < u
  d3 : ∀ v ∈ D, ∀ u ∈ (Q yp).drop W, v < u
  r1 : rw = W % 128
  r2 : W ≤ M ∧ M ≤ (Q yp).length
  r3 : ∀ x ∈ rk, ∃ k, W ≤ k ∧ k < W + 63 ∧ k < M ∧ x.1 = ((k % 128 : Nat) : Int) ∧ ((Q yp).map enc)[k]? = some x.2
  f1 : ∀ f ∈ p, f.c.kind = 1 → f.c.peer = (ym : Int) → f.c.ns = ((f.k % 128 : Nat) : Int) ∧ ((Q f.c.me).map enc)[f.k]? = some f.c.data ∧ (f.c.me = yp → M ≤ f.k + 63 ∧ f.k < W + 63) ∧ (yp < f.c.me → f.k < 63) ∧ (f.c.me = (xm : Int) → xp = (ym : Int) → f.k < A + s.under)
  f2 : p.Pairwise fun (f g : Fly) => f.c.kind = 1 → g.c.kind = 1 → f.c.peer = (ym : Int) → g.c.peer = (ym : Int) → f.c.me = g.c.me → f.k < g.k + 63
  s1 : xp = (ym : Int) → s.ps = ((Q xm).drop A).map enc ∧ s.base = A % 128 ∧ A ≤ (Q xm).length
  s2 : xp = (ym : Int) → (yp = (xm : Int) → A ≤ W ∧ M ≤ A + s.under) ∧ (yp ≠ (xm : Int) → A = 0)
  a1 : ∀ g ∈ q, g.c.kind ≤ 3 → g.c.me = (ym : Int) → g.c.peer = yp → g.c.nr = ((g.w % 128 : Nat) : Int) ∧ g.w ≤ W ∧ (xp = (ym : Int) → yp = (xm : Int) → A ≤ g.w)
  a2 : q.Pairwise fun (f g : Fly) => f.c.kind ≤ 3 → g.c.kind ≤ 3 → f.c.me = (ym : Int) → g.c.me = (ym : Int) → f.c.peer = yp → g.c.peer = yp → f.w ≤ g.w
section
variable {xm : Nat} {xp : Int} {s : Snd} {ym : Nat} {yp : Int} {rw' : Nat} {rk : List (Int × List Int)} {p q : List Fly} {Q : Int → List Nat} {W M A n : Nat} {D : List Nat}

/-- What is on its way is lost. -/
theorem Dir.sub (h : Dir xm xp s ym yp rw' rk p q Q W M A n D) {p' q' : List Fly} (hp : p'.Sublist p) (hq : q'.Sublist q) : Dir xm xp s ym yp rw' rk p' q' Q W M A n D :=
  ⟨h.m0, h.m1, h.m2.sublist hp, fun f hf => h.m3 f (hp.subset hf), fun f hf => h.m4 f (hp.subset hf), h.q1, h.q3, h.q2, h.q4, h.d1, h.d2, h.d3, h.r1, h.r2, h.r3, fun f hf => h.f1 f (hp.subset hf), h.f2.sublist hp, h.s1, h.s2, fun g hg => h.a1 g (hq.subset hg), h.a2.sublist hq⟩
theorem pw_snoc {α : Type} {R : α → α → Prop} {l : List α} {x : α} (h : l.Pairwise R) (hx : ∀ y ∈ l, R y x) : (l ++ [x]).Pairwise R :=
  List.pairwise_append.2 ⟨h, List.pairwise_singleton R x, fun a ha b hb => by simp at hb; subst hb; exact hx a ha⟩
/-- The first end sends. -/
theorem Dir.sends (h : Dir xm xp s ym yp rw' rk p q Q W M A n D) (hu : s.under ≤ 63) (hx : xp ≤ ym) {f : Fly} (e : f.c.me = xm) (hk : f.c.kind ≤ 3 → f.c.peer = xp)
    (hd : f.c.kind = 1 → xp = ym → f.c.ns = ((f.k % 128 : Nat) : Int) ∧ ((Q xm).map enc)[f.k]? = some f.c.data ∧ A ≤ f.k ∧ f.k < A + s.under) : Dir xm xp s ym yp rw' rk (p ++ [f]) q Q W M A n D := by
  have hm : ∀ {P : Fly → Prop}, (∀ g ∈ p, P g) → P f → ∀ g ∈ p ++ [f], P g := fun h1 h2 g hg => by
    rcases List.mem_append.1 hg with hg | hg
    · exact h1 g hg
    · simp at hg; subst hg; exact h2
  refine ⟨h.m0, h.m1, pw_snoc h.m2 fun g hg => by rw [e]; exact (h.m3 g hg).2, hm h.m3 (by rw [e]; exact ⟨h.m1, by omega⟩), hm h.m4 (fun hk3 => by rw [hk hk3]; exact ⟨hx, fun _ => by omega⟩), h.q1, h.q3, h.q2, h.q4, h.d1, h.d2, h.d3, h.r1, h.r2, h.r3, hm h.f1 ?_, pw_snoc h.f2 ?_, h.s1, h.s2, h.a1, h.a2⟩
  · intro k1 k2
    have hxy : xp = ym := by rw [← hk (by omega)]; exact k2
    obtain ⟨g1, g2, g3, g4⟩ := hd k1 hxy
    obtain ⟨s1, s2⟩ := h.s2 hxy
    refine ⟨g1, by rw [e]; exact g2, fun hy => ?_, fun hy => ?_, fun _ _ => g4⟩
    · obtain ⟨t1, t2⟩ := s1 (by rw [← hy, e])
      omega
    · have := s2 (by rw [e] at hy; omega)
      omega
  · intro g hg k1 k2 k3 k4 k5
    have hxy : xp = ym := by rw [← hk (by omega)]; exact k4
    obtain ⟨_, _, g3, g4⟩ := hd k2 hxy
    have := (h.f1 g hg k1 k3).2.2.2.2 (by rw [k5, e]) hxy
    omega
/-- The sender has sent more. -/
theorem Dir.under (h : Dir xm xp s ym yp rw' rk p q Q W M A n D) {s' : Snd} (e1 : s'.ps = s.ps) (e2 : s'.base = s.base) (e3 : s.under ≤ s'.under) : Dir xm xp s' ym yp rw' rk p q Q W M A n D := by
  refine ⟨h.m0, h.m1, h.m2, h.m3, h.m4, h.q1, h.q3, h.q2, h.q4, h.d1, h.d2, h.d3, h.r1, h.r2, h.r3, fun f hf k1 k2 => ?_, h.f2, fun k => by rw [e1, e2]; exact h.s1 k, fun k => ?_, h.a1, h.a2⟩
  · obtain ⟨g1, g2, g3, g4, g5⟩ := h.f1 f hf k1 k2
    exact ⟨g1, g2, g3, g4, fun a b => by have := g5 a b; omega⟩
  · obtain ⟨g1, g2⟩ := h.s2 k
    exact ⟨fun e => by have := g1 e; omega, g2⟩
/-- The sender is another one: it was not this session's. -/
theorem Dir.other (h : Dir xm xp s ym yp rw' rk p q Q W M A n D) (hne : xp ≠ ym) (s' : Snd) : Dir xm xp s' ym yp rw' rk p q Q W M A n D := by
  refine ⟨h.m0, h.m1, h.m2, h.m3, h.m4, h.q1, h.q3, h.q2, h.q4, h.d1, h.d2, h.d3, h.r1, h.r2, h.r3, fun f hf k1 k2 => ?_, h.f2, fun k => absurd k hne, fun k => absurd k hne, h.a1, h.a2⟩
  obtain ⟨g1, g2, g3, g4, g5⟩ := h.f1 f hf k1 k2
  exact ⟨g1, g2, g3, g4, fun a b => absurd b hne⟩
/-- The first end hears what the second one had taken. -/
theorem Dir.acked {g : Fly} {q0 : List Fly} (h : Dir xm xp s ym yp rw' rk p (g :: q0) Q W M A n D) (hu : s.under ≤ 63) (hk : g.c.kind ≤ 3) (e1 : g.c.me = xp) (e2 : g.c.peer = xm) (hback : g.c.me = ym → g.c.peer ≤ yp) :
    ∃ A', Dir xm xp (s.ack g.c.nr) ym yp rw' rk p (g :: q0) Q W M A' n D := by
  by_cases hxy : xp = ym
  · have hyp : yp = xm := by have := hback (e1.trans hxy); have := h.m1; omega
    obtain ⟨g1, g2, g3⟩ := h.a1 g (by simp) hk (e1.trans hxy) (by rw [e2, hyp])
    have g4 := g3 hxy hyp
    obtain ⟨t1, t2⟩ := (h.s2 hxy).1 hyp
    obtain ⟨b1, b2, b3⟩ := h.s1 hxy
    have hr := h.r2
    have hE : s.ackE g.c.nr = 0 := by
      unfold Snd.ackE
      rw [if_neg (by omega), if_neg (by omega)]
    have hN : s.ackN g.c.nr = g.w - A := by
      unfold Snd.ackN
      rw [if_pos hE]
      omega
    have e : s.ack g.c.nr = ⟨s.size, g.w % 128, ((Q xm).drop g.w).map enc, s.under - (g.w - A)⟩ := by
      unfold Snd.ack
      rw [if_pos hE, hN, b1, g1]
      congr 1
      rw [← List.map_drop, List.drop_drop]
      congr 2
      omega
    rw [e]
    refine ⟨g.w, h.m0, h.m1, h.m2, h.m3, h.m4, h.q1, h.q3, h.q2, h.q4, h.d1, h.d2, h.d3, h.r1, h.r2, h.r3, fun f hf k1 k2 => ?_, h.f2, fun _ => ⟨rfl, rfl, ?_⟩, fun _ => ⟨fun _ => ⟨g2, by simp only; omega⟩, fun k => absurd hyp k⟩, ?_, h.a2⟩
    · obtain ⟨x1, x2, x3, x4, x5⟩ := h.f1 f hf k1 k2
      exact ⟨x1, x2, x3, x4, fun a b => by have := x5 a b; simp only; omega⟩
    · rw [hyp] at hr; omega
    · intro g' hg' k1 k2 k3
      obtain ⟨x1, x2, x3⟩ := h.a1 g' hg' k1 k2 k3
      refine ⟨x1, x2, fun _ _ => ?_⟩
      rcases List.mem_cons.1 hg' with hg' | hg'
      · subst hg'; omega
      · exact (List.pairwise_cons.1 h.a2).1 g' hg' hk k1 (e1.trans hxy) k2 (by rw [e2, hyp]) k3
  · exact ⟨A, h.other hxy _⟩
/-- A payload is pushed. -/
theorem Dir.pushed (h : Dir xm xp s ym yp rw' rk p q Q W M A n D) {s' : Snd} (e1 : s'.ps = s.ps ++ [enc n]) (e2 : s'.base = s.base) (e3 : s'.under = s.under) : ∃ Q', Dir xm xp s' ym yp rw' rk p q Q' W M A (n + 1) D := by
  by_cases hxy : xp = ym
  · have hQ : ∀ m, (if m = (xm : Int) then Q xm ++ [n] else Q m) = Q m ++ (if m = (xm : Int) then [n] else []) := fun m => by
      by_cases e : m = (xm : Int)
      · rw [if_pos e, if_pos e, e]
      · rw [if_neg e, if_neg e, List.append_nil]
    have hmem : ∀ m v, v ∈ (if m = (xm : Int) then Q xm ++ [n] else Q m) → v ∈ Q m ∨ (v = n ∧ m = (xm : Int)) := fun m v hv => by
      rw [hQ] at hv
      rcases List.mem_append.1 hv with hv | hv
      · exact .inl hv
      · split at hv
        · rename_i e; simp at hv; exact .inr ⟨hv, e⟩
        · cases hv
    have hget : ∀ (m : Int) (k : Nat) (x : List Int), ((Q m).map enc)[k]? = some x → ((if m = (xm : Int) then Q xm ++ [n] else Q m).map enc)[k]? = some x := fun m k x hx => by
      rw [hQ, List.map_append, List.getElem?_append_left (List.getElem?_eq_some_iff.1 hx).1]
      exact hx
    have hr := h.r2
    refine ⟨fun m => if m = (xm : Int) then Q xm ++ [n] else Q m, h.m0, h.m1, h.m2, h.m3, h.m4, fun m => ⟨?_, fun v hv => ?_⟩, fun m m' hm v hv u hu => ?_, fun m hm => ?_, fun e => absurd hxy e, ⟨h.d1.1, fun v hv => by have := h.d1.2 v hv; omega⟩, fun m hm v hv u hu => ?_, fun v hv u hu => ?_, h.r1, ⟨hr.1, ?_⟩, fun x hx => ?_, fun f hf k1 k2 => ?_, h.f2, fun _ => ?_, fun e => ?_, h.a1, h.a2⟩
    · rw [hQ]
      split
      · exact pw_snoc (h.q1 m).1 fun y hy => (h.q1 m).2 y hy
      · rw [List.append_nil]; exact (h.q1 m).1
    · rcases hmem m v hv with hv | ⟨rfl, _⟩
      · have := (h.q1 m).2 v hv; omega
      · omega
    · rcases hmem m v hv with hv1 | ⟨e0, e⟩
      · rcases hmem m' u hu with hu1 | ⟨e1, _⟩
        · exact h.q3 m m' hm v hv1 u hu1
        · rw [e1]; exact (h.q1 m).2 v hv1
      · rcases hmem m' u hu with hu1 | ⟨_, e'⟩
        · rw [h.q2 m' (by omega)] at hu1; cases hu1
        · omega
    · rw [if_neg (by omega)]
      exact h.q2 m hm
    · rcases hmem m u hu with hu | ⟨rfl, _⟩
      · exact h.d2 m hm v hv u hu
      · exact h.d1.2 v hv
    · simp only [hQ] at hu
      rw [List.drop_append_of_le_length (by omega)] at hu
      rcases List.mem_append.1 hu with hu | hu
      · exact h.d3 v hv u hu
      · split at hu
        · simp at hu; subst hu; exact h.d1.2 v hv
        · cases hu
    · simp only [hQ, List.length_append]; omega
    · obtain ⟨k, k1, k2, k3, k4, k5⟩ := h.r3 x hx
      exact ⟨k, k1, k2, k3, k4, hget _ _ _ k5⟩
    · obtain ⟨x1, x2, x3, x4, x5⟩ := h.f1 f hf k1 k2
      exact ⟨x1, hget _ _ _ x2, x3, x4, fun a b => by rw [e3]; exact x5 a b⟩
    · obtain ⟨b1, b2, b3⟩ := h.s1 hxy
      simp only [if_true]
      rw [List.drop_append_of_le_length b3, List.map_append, e1, e2, b1]
      exact ⟨rfl, b2, by simp; omega⟩
    · rw [e3]; exact h.s2 e
  · have h' := h.other hxy s'
    exact ⟨Q, h'.m0, h'.m1, h'.m2, h'.m3, h'.m4, fun m => ⟨(h.q1 m).1, fun v hv => by have := (h.q1 m).2 v hv; omega⟩, h'.q3, h'.q2, h'.q4, ⟨h.d1.1, fun v hv => by have := h.d1.2 v hv; omega⟩, h'.d2, h'.d3, h'.r1, h'.r2, h'.r3, h'.f1, h'.f2, h'.s1, h'.s2, h'.a1, h'.a2⟩
/-- The first end turns to another one's incarnation. -/
theorem Dir.turned (h : Dir xm xp s ym yp rw' rk p q Q W M A n D) {xp' : Int} (h1 : xp < xp') (h2 : xp' ≤ ym) (z : Nat) : Dir xm xp' ⟨z, 0, [], 0⟩ ym yp rw' rk p q Q W M 0 n D := by
  have hne : xp ≠ ym := by omega
  have hQ := h.q4 hne
  have hr := h.r2
  refine ⟨h.m0, h.m1, h.m2, h.m3, fun f hf k => ⟨(h.m4 f hf k).1, fun e => by have := (h.m4 f hf k).2 e; omega⟩, h.q1, h.q3, h.q2, fun _ => hQ, h.d1, h.d2, h.d3, h.r1, h.r2, h.r3, fun f hf k1 k2 => ?_, h.f2, fun _ => ⟨by rw [hQ]; rfl, rfl, by omega⟩, fun _ => ⟨fun e => ?_, fun _ => rfl⟩, fun g hg k1 k2 k3 => ?_, h.a2⟩
  · obtain ⟨x1, x2, x3, x4, x5⟩ := h.f1 f hf k1 k2
    refine ⟨x1, x2, x3, x4, fun a b => ?_⟩
    rw [a, hQ] at x2
    cases x2
  · rw [e, hQ] at hr
    simp at hr
    simp only
    omega
  · obtain ⟨x1, x2, _⟩ := h.a1 g hg k1 k2 k3
    exact ⟨x1, x2, fun _ _ => by omega⟩
/-- The first end begins anew. -/
theorem Dir.anew (h : Dir xm xp s ym yp rw' rk p q Q W M A n D) (s' : Snd) : Dir (xm + 1) (-1) s' ym yp rw' rk p q Q W M A n D := by
  have h1 := h.m1
  refine ⟨by have := h.m0; omega, by omega, h.m2, fun f hf => by have := h.m3 f hf; omega, fun f hf k => ⟨(h.m4 f hf k).1, fun e => by have := h.m3 f hf; omega⟩, h.q1, h.q3, fun m hm => h.q2 m (by omega), fun _ => h.q2 _ (by omega), h.d1, h.d2, h.d3, h.r1, h.r2, h.r3, fun f hf k1 k2 => ?_, h.f2, fun e => by omega, fun e => by omega, fun g hg k1 k2 k3 => ?_, h.a2⟩
  · obtain ⟨x1, x2, x3, x4, x5⟩ := h.f1 f hf k1 k2
    exact ⟨x1, x2, x3, x4, fun a b => by omega⟩
  · obtain ⟨x1, x2, _⟩ := h.a1 g hg k1 k2 k3
    exact ⟨x1, x2, fun e _ => by omega⟩
/-- The second end sends. -/
theorem Dir.answers (h : Dir xm xp s ym yp rw' rk p q Q W M A n D) {g : Fly} (hk : g.c.kind ≤ 3 → g.c.nr = rw' ∧ g.w = W) : Dir xm xp s ym yp rw' rk p (q ++ [g]) Q W M A n D := by
  refine ⟨h.m0, h.m1, h.m2, h.m3, h.m4, h.q1, h.q3, h.q2, h.q4, h.d1, h.d2, h.d3, h.r1, h.r2, h.r3, h.f1, h.f2, h.s1, h.s2, fun g' hg' => ?_, pw_snoc h.a2 fun f hf k1 k2 k3 k4 k5 k6 => ?_⟩
  · rcases List.mem_append.1 hg' with hg' | hg'
    · exact h.a1 g' hg'
    · simp at hg'; subst hg'
      intro k1 k2 k3
      obtain ⟨j1, j2⟩ := hk k1
      rw [j2, j1, h.r1]
      exact ⟨rfl, by omega, fun a b => ((h.s2 a).1 b).1⟩
  · rw [(hk k2).2]
    exact (h.a1 f hf k1 k3 k5).2.1
/-- The second end turns to another incarnation, of which something comes. -/
theorem Dir.turns {f : Fly} {p0 : List Fly} (h : Dir xm xp s ym yp rw' rk (f :: p0) q Q W M A n D) (h1 : yp < f.c.me) (hback : ∀ g ∈ q, g.c.kind ≤ 3 → g.c.me = ym → g.c.peer ≤ yp) : Dir xm xp s ym f.c.me 0 [] (f :: p0) q Q 0 0 A n D := by
  have hm := h.m3 f (by simp)
  have hyx : yp ≠ xm := by omega
  refine ⟨by have := h.m0; omega, hm.2, h.m2, fun g hg => ⟨?_, (h.m3 g hg).2⟩, h.m4, h.q1, h.q3, h.q2, h.q4, h.d1, fun m hmm => h.d2 m (by omega), fun v hv u hu => h.d2 _ h1 v hv u (by simpa using hu), rfl, ⟨by omega, by omega⟩, fun x hx => (by cases hx), fun g hg k1 k2 => ?_, h.f2, h.s1, fun e => ?_, fun g hg k1 k2 k3 => ?_, ?_⟩
  · rcases List.mem_cons.1 hg with hg | hg
    · subst hg; omega
    · exact (List.pairwise_cons.1 h.m2).1 g hg
  · obtain ⟨x1, x2, x3, x4, x5⟩ := h.f1 g hg k1 k2
    exact ⟨x1, x2, fun e => by have := x4 (by omega); omega, fun e => x4 (by omega), x5⟩
  · have hA := (h.s2 e).2 hyx
    exact ⟨fun _ => by omega, fun _ => hA⟩
  · have := hback g hg k1 k2
    omega
  · refine h.a2.imp_of_mem fun {a b} ha hb _ k1 k2 k3 k4 k5 k6 => ?_
    have := hback a ha k1 k3
    omega
/-- The second end begins anew. -/
theorem Dir.fresh (h : Dir xm xp s ym yp rw' rk p q Q W M A n D) (hx : xp ≤ ym) (hback : ∀ g ∈ q, g.c.me ≤ ym) : Dir xm xp s (ym + 1) (-1) 0 [] p q (fun _ => []) 0 0 0 n D := by
  refine ⟨by have := h.m0; omega, by omega, h.m2, fun f hf => by have := h.m3 f hf; have := h.m0; omega, fun f hf k => ⟨by have := (h.m4 f hf k).1; omega, (h.m4 f hf k).2⟩, fun m => ⟨List.Pairwise.nil, fun v hv => (by cases hv)⟩, fun m m' _ v hv => (by cases hv), fun _ _ => rfl, fun _ => rfl, h.d1, fun m _ v _ u hu => (by cases hu), fun v _ u hu => (by simp at hu), rfl, ⟨by omega, by omega⟩, fun x hx => (by cases hx), fun f hf k1 k2 => ?_, ?_, fun e => by omega, fun e => by omega, fun g hg k1 k2 k3 => ?_, ?_⟩
  · have := (h.m4 f hf (by omega)).1
    omega
  · refine h.f2.imp_of_mem fun {a b} ha hb _ k1 k2 k3 k4 k5 => ?_
    have := (h.m4 a ha (by omega)).1
    omega
  · have := hback g hg
    omega
  · refine h.a2.imp_of_mem fun {a b} ha hb _ k1 k2 k3 k4 k5 k6 => ?_
    have := hback a ha
    omega
end

end Go.Proofs.Ythmdibagcbbgoaa
