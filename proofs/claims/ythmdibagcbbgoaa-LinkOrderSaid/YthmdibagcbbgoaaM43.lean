/- portagelaw09's line: what every step keeps right. No program in sight. Conditions: as they stand. -/
import Derived.Test.YthmdibagcbbgoaaM42
namespace Go.Proofs.Ythmdibagcbbgoaa
open Go.RowKit

def Ln.Sys (L : Ln) : Prop := Proofs.Ythmdibagcbbgoaa.Sys (L.e 0) (L.e 1) (L.way 1) (L.way 0) (L.n 0) (L.n 1) (L.inn 0) (L.inn 1)
theorem Ln.Sys.other {L : Ln} (h : L.Sys) : Proofs.Ythmdibagcbbgoaa.Sys (L.e 1) (L.e 0) (L.way 0) (L.way 1) (L.n 1) (L.n 0) (L.inn 1) (L.inn 0) := Proofs.Ythmdibagcbbgoaa.Sys.swap h
/-- Behind a step. -/
structure Good (n : Nat) (L : Ln) : Prop where
  sys : L.Sys
  clk : ∀ i, i < 2 → Clk (L.e i)
  me : ∀ i, i < 2 → (L.e i).me ≤ 60000 + 2 * n
  num : ∀ i, i < 2 → L.n i ≤ n
  way : ∀ i, i < 2 → (L.way i).length ≤ 800 * n
  inn : ∀ i, i < 2 → (L.inn i).length ≤ 200 * n
  out : ∀ i, i < 2 → (L.e i).out.length ≤ 1
  in_ : ∀ i, i < 2 → (L.e i).inn = []
/-- Behind what happens, ahead of collect. -/
structure Mid (n : Nat) (L : Ln) : Prop where
  sys : L.Sys
  clk : ∀ i, i < 2 → Clk (L.e i)
  me : ∀ i, i < 2 → (L.e i).me ≤ 60000 + 2 * (n + 1)
  num : ∀ i, i < 2 → L.n i ≤ n + 1
  way : ∀ i, i < 2 → (L.way i).length ≤ 800 * n
  inn : ∀ i, i < 2 → (L.inn i).length ≤ 200 * n
  out : ∀ i, i < 2 → (L.e i).out.length ≤ 400
  in_ : ∀ i, i < 2 → (L.e i).inn.length ≤ 150
theorem Good.ok {n : Nat} {L : Ln} (h : Good n L) : ∀ i, i < 2 → LkOk (L.e i) := fun i hi => by
  rcases (show i = 0 ∨ i = 1 by omega) with rfl | rfl
  · exact h.sys.okx
  · exact h.sys.oky
theorem Good.mid {n : Nat} {L : Ln} (h : Good n L) : Mid n L :=
  ⟨h.sys, h.clk, fun i hi => by have := h.me i hi; omega, fun i hi => by have := h.num i hi; omega, h.way, h.inn, fun i hi => by have := h.out i hi; omega, fun i hi => by rw [h.in_ i hi]; simp⟩
theorem lt_two {P : Nat → Prop} (h0 : P 0) (h1 : P 1) : ∀ i, i < 2 → P i := fun i hi => by
  rcases (show i = 0 ∨ i = 1 by omega) with rfl | rfl
  · exact h0
  · exact h1
theorem Mid.collect {n : Nat} {L : Ln} (h : Mid n L) (hn : n ≤ 300) : ∃ E0 E1, Fit L 0 E0 ∧ Fit (L.one 0 E0) 1 E1 ∧ Good (n + 1) (L.stage E0 E1 2) := by
  obtain ⟨E0, a1, a2, a3, a4⟩ := (Sys.outed h.sys).inned
  obtain ⟨E1, b1, b2, b3, b4⟩ := (Sys.outed a2.swap).inned
  have a1' : (L.e 0).inn = E0.map enc := a1
  have b1' : (L.e 1).inn = E1.map enc := b1
  have w0 := h.way 0 (by omega)
  have w1 := h.way 1 (by omega)
  have o0 := h.out 0 (by omega)
  have o1 := h.out 1 (by omega)
  have n0 := h.num 0 (by omega)
  have n1 := h.num 1 (by omega)
  have i0 := h.inn 0 (by omega)
  have i1 := h.inn 1 (by omega)
  have l0 := h.in_ 0 (by omega)
  have l1 := h.in_ 1 (by omega)
  rw [a1', List.length_map] at l0
  rw [b1', List.length_map] at l1
  refine ⟨E0, E1, ⟨a1', a3, a4, by show L.n 1 ≤ _; omega, by show (L.way 1).length + _ ≤ _; omega, by omega⟩, ⟨b1', b3, b4, by show L.n 0 ≤ _; omega, by show (L.way 0).length + (L.e 1).out.length ≤ _; omega, by show (L.inn 1).length + _ ≤ _; omega⟩, ?_⟩
  refine ⟨Sys.swap b2, lt_two ?_ ?_, lt_two (h.me 0 (by omega)) (h.me 1 (by omega)), lt_two n0 n1, lt_two ?_ ?_, lt_two ?_ ?_, lt_two ?_ ?_, lt_two rfl rfl⟩
  · exact (h.clk 0 (by omega)).of (t' := { L.e 0 with out := [], inn := [] }) (.inl rfl) (.inl rfl) rfl rfl
  · exact (h.clk 1 (by omega)).of (t' := { L.e 1 with out := [], inn := [] }) (.inl rfl) (.inl rfl) rfl rfl
  · show (L.way 0 ++ (L.e 1).out).length ≤ _
    rw [List.length_append]; omega
  · show (L.way 1 ++ (L.e 0).out).length ≤ _
    rw [List.length_append]; omega
  · show (L.inn 0 ++ E0).length ≤ _
    rw [List.length_append]; omega
  · show (L.inn 1 ++ E1).length ≤ _
    rw [List.length_append]; omega
  · show ([] : List Cn).length ≤ 1
    simp
  · show ([] : List Cn).length ≤ 1
    simp
/-- What a step leaves. -/
structure StepTo (B n : Nat) (w : World) (nb : Nat) (st : Nat → St) (e : Ending) (w' : World) : Prop where
  ret : ∃ v, e = .returned v
  ex : ∃ L, LineAt B w' nb st true L ∧ Good (n + 1) L
  bl : Below B w w'
theorem collect_good {B n : Nat} {w : World} {nb : Nat} {st : Nat → St} {L : Ln} (h : LineAt B w nb st true L) (hm : Mid n L) (hn : n ≤ 300) :
    Calls Try.prog 43 #[.pointer (some ⟨nb, 0, none⟩)] w fun e w' => StepTo B n w nb st e w' := by
  obtain ⟨E0, E1, f0, f1, hg⟩ := hm.collect hn
  refine (line_collect h f0 f1).mono ?_
  rintro e w' ⟨h1, h2, h3⟩
  exact ⟨h1, ⟨_, h2, hg⟩, h3⟩

/-- One end was turned: what is right then. -/
theorem Good.turn {n : Nat} {L : Ln} (h : Good n L) {i : Nat} (hi : i < 2) {t : Lk} {wy : List Cn} {m : Nat}
    (hs : Proofs.Ythmdibagcbbgoaa.Sys t (L.e (1 - i)) (L.way (1 - i)) wy m (L.n (1 - i)) (L.inn i) (L.inn (1 - i))) (hw : wy.length ≤ 800 * n) (hc : Clk t) (hme : t.me ≤ 60000 + 2 * (n + 1)) (hm : m ≤ n + 1) (ho : t.out.length ≤ 400) (hin : t.inn.length ≤ 150) :
    Mid n { e := upd L.e i t, way := upd L.way i wy, n := upd L.n i m, inn := L.inn } := by
  have hM := h.mid
  rcases (show i = 0 ∨ i = 1 by omega) with rfl | rfl
  · exact ⟨hs, lt_two hc (hM.clk 1 (by omega)), lt_two hme (hM.me 1 (by omega)), lt_two hm (hM.num 1 (by omega)), lt_two hw (hM.way 1 (by omega)), h.inn, lt_two ho (hM.out 1 (by omega)), lt_two hin (hM.in_ 1 (by omega))⟩
  · exact ⟨Sys.swap hs, lt_two (hM.clk 0 (by omega)) hc, lt_two (hM.me 0 (by omega)) hme, lt_two (hM.num 0 (by omega)) hm, lt_two (hM.way 0 (by omega)) hw, h.inn, lt_two (hM.out 0 (by omega)) ho, lt_two (hM.in_ 0 (by omega)) hin⟩
theorem Good.at_ {n : Nat} {L : Ln} (h : Good n L) {i : Nat} (hi : i < 2) : Proofs.Ythmdibagcbbgoaa.Sys (L.e i) (L.e (1 - i)) (L.way (1 - i)) (L.way i) (L.n i) (L.n (1 - i)) (L.inn i) (L.inn (1 - i)) := by
  rcases (show i = 0 ∨ i = 1 by omega) with rfl | rfl
  · exact h.sys
  · exact h.sys.other
theorem Good.pushed {n : Nat} {L : Ln} (h : Good n L) {i : Nat} (hi : i < 2) : Mid n (L.pushed i) := by
  have hs := Sys.push (h.at_ hi)
  have hg := push_grow (L.e i) (enc (L.n i)) (h.ok i hi)
  have h1 := h.num i hi
  have h2 := h.out i hi
  have h3 := h.me i hi
  have h4 := h.in_ i hi
  have := h.turn hi hs (h.way i hi) ((h.clk i hi).push _) (by rw [Sys.push_me]; omega) (by split <;> omega) (by omega) (by have := hg.2.2; have h5 : (L.e i).inn.length = 0 := congrArg List.length h4; omega)
  rw [upd_self] at this
  exact this
theorem Good.ticked {n : Nat} {L : Ln} (h : Good n L) (hn : n ≤ 300) {i : Nat} (hi : i < 2) : Mid n { L with e := upd L.e i (L.e i).tick } := by
  have h3 := h.me i hi
  have hs := Sys.tick (h.at_ hi) (by omega)
  have hg := tick_grow (L.e i) (h.ok i hi)
  have h1 := h.num i hi
  have h2 := h.out i hi
  have h4 := h.in_ i hi
  have := h.turn hi hs.1 (h.way i hi) ((h.clk i hi).tick) (by omega) (by omega) (by omega) (by have := hg.2.2; have h5 : (L.e i).inn.length = 0 := congrArg List.length h4; omega)
  rw [upd_self, upd_self] at this
  exact this
theorem Good.lost {n : Nat} {L : Ln} (h : Good n L) {i : Nat} (hi : i < 2) {c : Cn} {l : List Cn} (hw : L.way i = c :: l) : Mid n { L with way := upd L.way i l } := by
  have hs := h.at_ hi
  rw [hw] at hs
  have hwl := h.way i hi
  rw [hw, List.length_cons] at hwl
  have hM := h.mid
  have := h.turn hi hs.drop (by omega) (h.clk i hi) (hM.me i hi) (hM.num i hi) (hM.out i hi) (hM.in_ i hi)
  rw [upd_self, upd_self] at this
  exact this
theorem Good.once {n : Nat} {L : Ln} (h : Good n L) (hn : n ≤ 300) {i : Nat} (hi : i < 2) {c : Cn} {l : List Cn} (hw : L.way i = c :: l) : Mid n { L with e := upd L.e i ((L.e i).recv c), way := upd L.way i l } := by
  have hs := h.at_ hi
  rw [hw] at hs
  have hwl := h.way i hi
  rw [hw, List.length_cons] at hwl
  have h3 := h.me i hi
  have hr := hs.recv (by omega)
  have hg := recv_grow (L.e i) c (h.ok i hi)
  have h1 := h.num i hi
  have h2 := h.out i hi
  have h4 := h.in_ i hi
  have := h.turn hi hr.1.drop (by omega) ((h.clk i hi).recv c) (by omega) (by omega) (by omega) (by have := hg.2.2; have h5 : (L.e i).inn.length = 0 := congrArg List.length h4; omega)
  rw [upd_self L.n] at this
  exact this
theorem Good.twice {n : Nat} {L : Ln} (h : Good n L) (hn : n ≤ 300) {i : Nat} (hi : i < 2) {c : Cn} {l : List Cn} (hw : L.way i = c :: l) : Mid n { L with e := upd L.e i (((L.e i).recv c).recv c), way := upd L.way i l } := by
  have hs := h.at_ hi
  rw [hw] at hs
  have hwl := h.way i hi
  rw [hw, List.length_cons] at hwl
  have h3 := h.me i hi
  have hr := hs.recv (by omega)
  have hr2 := hr.1.recv (by omega)
  have hg := recv_grow (L.e i) c (h.ok i hi)
  have hg2 := recv_grow ((L.e i).recv c) c hg.1
  have h1 := h.num i hi
  have h2 := h.out i hi
  have h4 := h.in_ i hi
  have := h.turn hi hr2.1.drop (by omega) (((h.clk i hi).recv c).recv c) (by omega) (by omega) (by omega) (by have := hg.2.2; have := hg2.2.2; have h5 : (L.e i).inn.length = 0 := congrArg List.length h4; omega)
  rw [upd_self L.n] at this
  exact this
theorem Good.renewed {n : Nat} {L : Ln} (h : Good n L) (hn : n ≤ 300) {i : Nat} (hi : i < 2) {a : St} (ha : a.Ok) : Mid n { L with e := upd L.e i (Lk.new ((L.e i).me + 1) a.size a.timer a.tries) } := by
  have h3 := h.me i hi
  have hs := Sys.renew (timer := a.timer) (tries := a.tries) (h.at_ hi) (h.in_ i hi) (by omega) ha.size1 ha.size2
  have h1 := h.num i hi
  have := h.turn hi hs (h.way i hi) ⟨Nat.le_refl _, Nat.zero_le _, ha.timer2, ha.tries2⟩ (by show (L.e i).me + 1 ≤ _; omega) (by omega) (by show ([_] : List Cn).length ≤ 400; simp) (by show ([] : List (List Int)).length ≤ 150; simp)
  rw [upd_self, upd_self] at this
  exact this
/-- The beginning. -/
theorem good_start {a b : St} (ha : a.Ok) (hb : b.Ok) (h1 : a.me ≤ 60000) (h2 : b.me ≤ 60000) : Good 0 (Ln.start (Lk.new a.me a.size a.timer a.tries) (Lk.new b.me b.size b.timer b.tries)) := by
  have ok : ∀ c : St, c.Ok → LkOk (Lk.new c.me c.size c.timer c.tries) := fun c hc => ⟨by have := hc.me; show c.me < _; omega, ⟨hc.size1, hc.size2, by show (0 : Nat) < 128; omega, Nat.zero_le _, Nat.zero_le _, by show (0 : Nat) ≤ 64; omega, fun p hp => (by cases hp)⟩, new_ok hc.size1 hc.size2⟩
  have ck : ∀ c : St, c.Ok → Clk (Lk.new c.me c.size c.timer c.tries) := fun c hc => ⟨Nat.le_refl _, Nat.zero_le _, hc.timer2, hc.tries2⟩
  exact ⟨Sys.start (ok a ha) (ok b hb) rfl rfl rfl rfl rfl rfl rfl rfl rfl rfl, lt_two (ck a ha) (ck b hb), lt_two (by show a.me ≤ _; omega) (by show b.me ≤ _; omega), lt_two (Nat.zero_le _) (Nat.zero_le _), lt_two (Nat.zero_le _) (Nat.zero_le _), lt_two (Nat.zero_le _) (Nat.zero_le _), lt_two (Nat.le_refl _) (Nat.le_refl _), lt_two rfl rfl⟩

end Go.Proofs.Ythmdibagcbbgoaa
