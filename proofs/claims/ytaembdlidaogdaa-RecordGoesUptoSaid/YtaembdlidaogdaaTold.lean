/- A range over a function, where the iterator tells of each thing that it gives what holds of it in the world of that round (a slice that was made for the round reads as ..). Conditions: as they stand. -/
import Derived.RangeFuncBound
import Derived.RangeFuncCalls
import Derived.RangeFuncLeaves
import Derived.RangeFuncNested
import Derived.Test.YtaembdlidaogdaaFr
namespace Go.Proofs.Ytaembdlidaogdaa
open Go.RowKit

/-- What an iterator does, for whatever a loop's body keeps (J) and leaves (Jx): Hx: what holds of what a round is given · Cx: what the iterator needs of the world between two rounds. -/
def Told {α : Type} (n : Nat) (P : Program) (gf : Nat) (lb : Array Value) (encs : α → Array Value) (Hx : List α → α → World → Prop) (Cx : World → Prop) (S Sp : List α → Prop) : Prop :=
  ∀ (l : Nat) (J Jx : List α → World → Prop) (W : World), (∀ pre A B, J pre A → Below A.heap.size A B → J pre B) → (∀ pre A, J pre A → Cx A) →
    (∀ pre x A, J pre A → Hx pre x A → YieldAt Fence.wide (n - 1) P l (encs x) A fun e B => (e = .returned (.bool true) ∧ J (pre ++ [x]) B) ∨ (e = .returned (.bool false) ∧ Jx (pre ++ [x]) B)) →
    J [] W → CallsIn Fence.wide n P gf (#[.func (.yield l) #[] #[]] ++ lb) W fun e B => (∃ v, e = .returned v) ∧ ((∃ xs, S xs ∧ J xs B) ∨ (∃ pre, Sp pre ∧ Jx pre B))

/-- How a round's body may end. -/
def roundEnd {α : Type} (b : Nat) (I : List α → World → Prop) (Ix : Code → List α → World → Prop) (xs : List α) (W : World) : Exit → Act → World → Prop
  | .normal, _, V => KeepsFrom b W V ∧ I xs V
  | .ret, _, V => KeepsFrom b W V ∧ Ix .ret xs V
  | .exit k, _, V => KeepsFrom b W V ∧ Ix (.exit k) xs V
  | .goto t, _, V => KeepsFrom b W V ∧ Ix (.goto t) xs V
  | .panic _, _, _ => False
  | .outgrown, _, _ => False

/-- A block that is no cells may turn. -/
def Turns {β : Type} (b : Nat) (I : β → World → Prop) : Prop := ∀ s A l o o', I s A → b ≤ l → A.heap[l]? = some o → o.isCells = false → I s (A.putObj l o')

/-- A loop's record in one of its states. -/
def lp (r : Loop) (st : LoopState) (j : Option Code) : Loop := { r with state := st, pending := j }
theorem run_lp_begin {P : Program} {w : World} {l : Nat} {r : Loop} (h : w.heap[l]? = some (.loop (lp r .ready none))) : (Instr.beginRound l).run P w = .ok () (w.putObj l (.loop (lp r .busy none))) := run_beginRound h rfl
theorem run_lp_end {P : Program} {w : World} {l : Nat} {r : Loop} (j : Option Code) (h : w.heap[l]? = some (.loop (lp r .busy none))) : (Instr.endRound l j).run P w = .ok (.bool j.isNone) (w.putObj l (.loop (lp r (if j.isNone then .ready else .done) j))) := run_endRound (r := lp r .busy none) j h
theorem run_lp_over {P : Program} {w : World} {l : Nat} {r : Loop} {st : LoopState} {j : Option Code} (h : w.heap[l]? = some (.loop (lp r st j))) (hs : st ≠ .busy) : (Instr.endLoop l).run P w = .ok j (w.putObj l (.loop (lp r .exhausted j))) := run_endLoop h hs

/-- One round, out of the walk of its body. -/
theorem round_told {α : Type} {P : Program} {n b R : Nat} {r : Loop} {I : List α → World → Prop} {Ix : Code → List α → World → Prop} {Hx : List α → α → World → Prop} (hIp : Turns b I) (hIx : ∀ c, Turns b (Ix c)) (hHx : ∀ pre, Turns b (Hx pre)) (hbR : b < R)
    {x : α} {pre : List α} {A : World} {args : Array Value} (hps : args.size = r.params.size) (hfn : Fence.wide.fn r.fn)
    (hround : ∀ (W V : World) (K : Act → World → Prop), I pre V → Hx pre x V → (∀ a', r.body.wpIn (Fence.wide.inRound R) n P (roundEnd b I Ix (pre ++ [x]) V) a' V → K a' W) → r.assign.wpIn (Fence.wide.inRound R) n P (Exit.then K (fun _ _ _ => False)) { tmps := (r.params.zip args).foldl (fun t (p, v) => t.setIfInBounds p v) r.tmps, defers := [] } W)
    (hi : I pre A) (hx : Hx pre x A) (hr : A.heap[R]? = some (.loop (lp r .ready none))) (hd : A.heap[b]? = some (.deferred (some []))) :
    YieldAt Fence.wide n P R args A fun e B =>
      (e = .returned (.bool true) ∧ I (pre ++ [x]) B ∧ B.heap[R]? = some (.loop (lp r .ready none)) ∧ B.heap[b]? = some (.deferred (some []))) ∨
      (e = .returned (.bool false) ∧ ∃ c, Ix c (pre ++ [x]) B ∧ B.heap[R]? = some (.loop (lp r .done (some c))) ∧ B.heap[b]? = some (.deferred (some []))) := by
  have hlt : R < A.heap.size := lt_of_get hr
  have hy := run_yield (P := P) (args := args) hr hps
  refine ⟨r.fn, _, r.assign, r.body, hy, roundIn_of_wpIn hfn (hround A (A.putObj R (.loop (lp r .busy none))) _ (hIp _ _ _ _ _ hi (by omega) hr rfl) (hHx _ _ _ _ _ _ hx (by omega) hr rfl) fun a' hb => ⟨_, run_lp_begin hr, ?_⟩)⟩
  have hr2 : (A.putObj R (.loop (lp r .busy none))).heap[R]? = some (.loop (lp r .busy none)) := World.putObj_heap_same hlt
  have hd2 : (A.putObj R (.loop (lp r .busy none))).heap[b]? = some (.deferred (some [])) := (World.putObj_heap_other (by omega)).trans hd
  have out : ∀ (j : Option Code) (V : World), KeepsFrom b (A.putObj R (.loop (lp r .busy none))) V →
      (Instr.endRound R j).run P V = .ok (.bool j.isNone) (V.putObj R (.loop (lp r (if j.isNone then .ready else .done) j))) ∧ (V.putObj R (.loop (lp r (if j.isNone then .ready else .done) j))).heap[R]? = some (.loop (lp r (if j.isNone then .ready else .done) j)) ∧
      (V.putObj R (.loop (lp r (if j.isNone then .ready else .done) j))).heap[b]? = some (.deferred (some [])) ∧ V.heap[R]? = some (.loop (lp r .busy none)) := by
    intro j V hk
    have hv := hk.same R _ (by omega) hr2 rfl
    exact ⟨run_lp_end j hv, World.putObj_heap_same (lt_of_get hv), (World.putObj_heap_other (by omega)).trans (hk.same _ _ (Nat.le_refl _) hd2 rfl), hv⟩
  refine wpIn_mono hb ?_
  intro e a3 V hp
  cases e with
  | normal =>
    obtain ⟨hk, hi3⟩ := hp
    obtain ⟨e1, e2, e3, hv⟩ := out none V hk
    exact ⟨_, _, e1, .inl ⟨rfl, hIp _ _ _ _ _ hi3 (by omega) hv rfl, e2, e3⟩⟩
  | ret =>
    obtain ⟨hk, hi3⟩ := hp
    obtain ⟨e1, e2, e3, hv⟩ := out (some .ret) V hk
    exact ⟨_, _, e1, .inr ⟨rfl, .ret, hIx _ _ _ _ _ _ hi3 (by omega) hv rfl, e2, e3⟩⟩
  | exit k =>
    obtain ⟨hk, hi3⟩ := hp
    obtain ⟨e1, e2, e3, hv⟩ := out (some (.exit k)) V hk
    exact ⟨_, _, e1, .inr ⟨rfl, .exit k, hIx _ _ _ _ _ _ hi3 (by omega) hv rfl, e2, e3⟩⟩
  | goto t =>
    obtain ⟨hk, hi3⟩ := hp
    obtain ⟨e1, e2, e3, hv⟩ := out (some (.goto t)) V hk
    exact ⟨_, _, e1, .inr ⟨rfl, .goto t, hIx _ _ _ _ _ _ hi3 (by omega) hv rfl, e2, e3⟩⟩
  | panic ch => exact hp.elim
  | outgrown => exact hp.elim

theorem range_told2 {α : Type} {P : Program} {n : Nat} {w : World} {g : Operand} {ps : Array Tmp} {assign body : Code} {Q : Exit → Act → World → Prop} {a : Act} (h1 : 1 ≤ n)
    {gf : Nat} {lb : Array Value} (hg : a.eval g = .func (.func gf) #[] lb) (eg : ∀ args w, (callFunc gf args).run P w = .ok (.enter gf args) w)
    {encs : α → Array Value} {Hx : List α → α → World → Prop} {Cx : World → Prop} {S Sp : List α → Prop} (hseq : Told (n - 1) P gf lb encs Hx Cx S Sp) (hps : ∀ x, (encs x).size = ps.size)
    (I : List α → World → Prop) (Ix : Code → List α → World → Prop) (hIb : ∀ pre A B, I pre A → Below A.heap.size A B → I pre B) (hIC : ∀ pre A, I pre A → Cx A)
    (hIp : Turns w.heap.size I) (hIx : ∀ c, Turns w.heap.size (Ix c)) (hHx : ∀ pre, Turns w.heap.size (Hx pre)) (h0 : I [] w)
    (hround : ∀ (l : Nat) (pre : List α) (x : α) (W V : World) (K : Act → World → Prop), I pre V → Hx pre x V → (∀ a', body.wpIn (Fence.wide.inRound l) (n - 1 - 1) P (roundEnd w.heap.size I Ix (pre ++ [x]) V) a' V → K a' W) →
      assign.wpIn (Fence.wide.inRound l) (n - 1 - 1) P (Exit.then K (fun _ _ _ => False)) { tmps := (ps.zip (encs x)).foldl (fun t (p, v) => t.setIfInBounds p v) a.tmps, defers := [] } W)
    (hdone : ∀ (D : Nat) (xs : List α) (W : World), w.heap.size ≤ D → S xs → I xs W → W.heap[D]? = some (.deferred (some [])) → Q .normal { a with defers := { target := .collected D, args := #[] } :: a.defers } W)
    (hstop : ∀ (D : Nat) (c : Code) (pre : List α) (W : World), w.heap.size ≤ D → Sp pre → Ix c pre W → W.heap[D]? = some (.deferred (some [])) → c.wpIn Fence.wide n P Q { a with defers := { target := .collected D, args := #[] } :: a.defers } W) :
    (Code.rangeFunc g ps assign body).wpIn Fence.wide n P Q a w := by
  refine wpIn_rangeFunc ?_
  intro fn hfn
  obtain ⟨r, hrd⟩ : ∃ r : Loop, r = { state := .ready, pending := none, fn, tmps := a.tmps, params := ps, assign, body, defers := w.heap.size } := ⟨_, rfl⟩
  have r1 : r.fn = fn := by rw [hrd]
  have r2 : r.tmps = a.tmps := by rw [hrd]
  have r3 : r.params = ps := by rw [hrd]
  have r4 : r.assign = assign := by rw [hrd]
  have r5 : r.body = body := by rw [hrd]
  have r6 : Loop.mk .ready none fn a.tmps ps assign body w.heap.size = lp r .ready none := by rw [hrd]; rfl
  clear hrd
  have hen := run_enterLoop_outer (P := P) (w := w) fn a.tmps ps assign body
  have hR1 := World.alloc_heap_new (w.alloc (.deferred (some []))) (.loop (lp r .ready none))
  rw [World.size_alloc] at hR1
  have hD1 : ((w.alloc (.deferred (some []))).alloc (.loop (lp r .ready none))).heap[w.heap.size]? = some (.deferred (some [])) := (Below.heap_alloc _ _ _ (by rw [World.size_alloc]; omega)).trans (World.alloc_heap_new w _)
  have hI1 : I [] ((w.alloc (.deferred (some []))).alloc (.loop (lp r .ready none))) := hIb _ _ _ (hIb _ _ _ h0 (bl_alloc (bl_refl w) _)) (bl_alloc (bl_refl _) _)
  rw [r6] at hen
  generalize (w.alloc (.deferred (some []))).alloc (.loop (lp r .ready none)) = W1 at hen hR1 hD1 hI1
  have hcall := hseq (w.heap.size + 1) (fun pre A => I pre A ∧ A.heap[w.heap.size + 1]? = some (.loop (lp r .ready none)) ∧ A.heap[w.heap.size]? = some (.deferred (some [])))
    (fun pre A => ∃ c, Ix c pre A ∧ A.heap[w.heap.size + 1]? = some (.loop (lp r .done (some c))) ∧ A.heap[w.heap.size]? = some (.deferred (some []))) W1
    (fun pre A B h hb => ⟨hIb _ _ _ h.1 hb, bl_get hb h.2.1, bl_get hb h.2.2⟩) (fun pre A h => hIC _ _ h.1)
    (fun pre x A h hx => round_told (r := r) hIp hIx hHx (by omega) (by rw [r3]; exact hps x) (by rw [r1]; exact hfn) (fun W V K hi hx hK => by rw [r2, r3, r4]; rw [r5] at hK; exact hround _ pre x W V K hi hx hK) h.1 hx h.2.1 h.2.2) ⟨hI1, hR1, hD1⟩
  have hres : (resolve a.eval (rangeCall g (w.heap.size + 1)) 0).run P W1 = .ok { target := .fn (.func gf) lb, args := #[.func (.yield (w.heap.size + 1)) #[] #[]] } W1 := by
    simp only [resolve, hg]
    simp [go_sem]
  have hinv : (invoke (.fn (.func gf) lb) #[.func (.yield (w.heap.size + 1)) #[] #[]]).run P W1 = .ok (.enter gf (#[.func (.yield (w.heap.size + 1)) #[] #[]] ++ lb)) W1 := by simp [invoke, go_sem, eg]
  refine ⟨w.heap.size + 1, [{ target := .collected w.heap.size, args := #[] }], W1, _, W1, gf, _, W1, hen, hres, fun _ _ => trivial, hinv, fun _ => h1, ?_⟩
  refine hcall.mono ?_
  rintro e V ⟨⟨v, rfl⟩, h⟩
  rcases h with ⟨xs, hS, hi, hr, hd⟩ | ⟨pre, hS, c, hi, hr, hd⟩
  · refine ⟨none, _, run_lp_over hr (by intro h; cases h), ?_⟩
    exact hdone _ xs _ (Nat.le_refl _) hS (hIp _ _ _ _ _ hi (by omega) hr rfl) ((World.putObj_heap_other (by omega)).trans hd)
  · refine ⟨some c, _, run_lp_over hr (by intro h; cases h), ?_⟩
    exact hstop _ c pre _ (Nat.le_refl _) hS (hIx _ _ _ _ _ _ hi (by omega) hr rfl) ((World.putObj_heap_other (by omega)).trans hd)

theorem range_told {α : Type} {P : Program} {n : Nat} {w : World} {g : Operand} {ps : Array Tmp} {assign body : Code} {Q : Exit → Act → World → Prop} {a : Act} (h1 : 1 ≤ n)
    {gf : Nat} {lb : Array Value} (hg : a.eval g = .func (.func gf) #[] lb) (eg : ∀ args w, (callFunc gf args).run P w = .ok (.enter gf args) w)
    {encs : α → Array Value} {Hx : List α → α → World → Prop} {Cx : World → Prop} {S Sp : List α → Prop} (hseq : Told (n - 1) P gf lb encs Hx Cx S Sp) (hps : ∀ x, (encs x).size = ps.size)
    (I : List α → World → Prop) (Ix : Code → List α → World → Prop) (hIb : ∀ pre A B, I pre A → Below A.heap.size A B → I pre B) (hIC : ∀ pre A, I pre A → Cx A)
    (hIp : Turns w.heap.size I) (hIx : ∀ c, Turns w.heap.size (Ix c)) (hHx : ∀ pre, Turns w.heap.size (Hx pre)) (h0 : I [] w) (a₁ : α → Act)
    (hassign : ∀ (l : Nat) (x : α) (W : World) (K : Act → World → Prop), K (a₁ x) W → assign.wpIn (Fence.wide.inRound l) (n - 1 - 1) P (Exit.then K (fun _ _ _ => False)) { tmps := (ps.zip (encs x)).foldl (fun t (p, v) => t.setIfInBounds p v) a.tmps, defers := [] } W)
    (hbody : ∀ (l : Nat) (pre : List α) (x : α) (W : World), I pre W → Hx pre x W → body.wpIn (Fence.wide.inRound l) (n - 1 - 1) P (roundEnd w.heap.size I Ix (pre ++ [x]) W) (a₁ x) W)
    (hdone : ∀ (D : Nat) (xs : List α) (W : World), w.heap.size ≤ D → S xs → I xs W → W.heap[D]? = some (.deferred (some [])) → Q .normal { a with defers := { target := .collected D, args := #[] } :: a.defers } W)
    (hstop : ∀ (D : Nat) (c : Code) (pre : List α) (W : World), w.heap.size ≤ D → Sp pre → Ix c pre W → W.heap[D]? = some (.deferred (some [])) → c.wpIn Fence.wide n P Q { a with defers := { target := .collected D, args := #[] } :: a.defers } W) :
    (Code.rangeFunc g ps assign body).wpIn Fence.wide n P Q a w :=
  range_told2 h1 hg eg hseq hps I Ix hIb hIC hIp hIx hHx h0 (fun l pre x W V K hi hx hK => hassign l x W K (hK _ (hbody l pre x V hi hx))) hdone hstop

end Go.Proofs.Ytaembdlidaogdaa
