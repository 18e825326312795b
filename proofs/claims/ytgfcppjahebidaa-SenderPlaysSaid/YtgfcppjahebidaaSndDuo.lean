/- A sender and the reference's sender side by side. Conditions: none. -/
import Derived.WalkKit
import Derived.Lib.Hide
import Derived.Test.YtgfcppjahebidaaRefAck
import Derived.Test.YtgfcppjahebidaaRefSend
import Derived.Test.YtgfcppjahebidaaRefPush2
namespace Go.Proofs.Ytgfcppjahebidaa
open Go.RowKit

/-- A sender that is the call's own, and beside it a list of payloads that reads as the sender's, in memory that the sender does not write; and boxes apart from both. -/
def Duo (w : World) (g : Nat) (X : Nat → Obj → Prop) (s : Snd) (v : Value) (wr : World) : Prop :=
  ∃ F R : Nat → Prop, (∀ k, F k → w.heap.size ≤ k) ∧ SndAt F wr g s ∧ Pays R wr v s.ps ∧ (∀ k, R k → k < wr.heap.size ∧ ¬ F k) ∧ Below w.heap.size w wr ∧ ∀ h o, X h o → wr.heap[h]? = some o ∧ ¬ F h ∧ ¬ R h
theorem boxes_keepF {F R F' R' : Nat → Prop} {X : Nat → Obj → Prop} {w w' : World} (hX : ∀ h o, X h o → w.heap[h]? = some o ∧ ¬ F h ∧ ¬ R h) (hf : Fr F w w') (hF : ∀ k, F' k → F k ∨ w.heap.size ≤ k) (hR : ∀ k, R' k → R k ∨ w.heap.size ≤ k) :
    ∀ h o, X h o → w'.heap[h]? = some o ∧ ¬ F' h ∧ ¬ R' h := fun h o hx => by
  obtain ⟨h1, h2, h3⟩ := hX h o hx
  have hlt := lt_of_get h1
  refine ⟨hf.get h1 h2, fun hk => ?_, fun hk => ?_⟩
  · rcases hF h hk with h | h
    · exact h2 h
    · omega
  · rcases hR h hk with h | h
    · exact h3 h
    · omega
theorem boxes_keep {F R F' R' : Nat → Prop} {X : Nat → Obj → Prop} {w w' : World} {g : Nat} (hX : ∀ h o, X h o → w.heap[h]? = some o ∧ ¬ F h ∧ ¬ R h) (hf : Fr (fun k => k = g) w w') (hg : F g) (hF : ∀ k, F' k → F k ∨ w.heap.size ≤ k) (hR : ∀ k, R' k → R k ∨ w.heap.size ≤ k) :
    ∀ h o, X h o → w'.heap[h]? = some o ∧ ¬ F' h ∧ ¬ R' h :=
  boxes_keepF hX (hf.mono (fun k (hk : k = g) => .inl (hk ▸ hg))) hF hR
section
variable {w wr w' : World} {g : Nat} {X : Nat → Obj → Prop} {s : Snd} {v : Value}
theorem Duo.bl (hd : Duo w g X s v wr) : Below w.heap.size w wr := by
  obtain ⟨F, R, _, _, _, _, hB, _⟩ := hd
  exact hB
theorem Duo.box (hd : Duo w g X s v wr) {h : Nat} {o : Obj} (hx : X h o) : wr.heap[h]? = some o := by
  obtain ⟨F, R, _, _, _, _, _, hX⟩ := hd
  exact (hX h o hx).1
theorem Duo.below (hd : Duo w g X s v wr) (hb : Below wr.heap.size wr w') : Duo w g X s v w' := by
  obtain ⟨F, R, hF, hs, hp, hR, hB, hX⟩ := hd
  exact ⟨F, R, hF, hs.below hb, hp.below hb, fun k hk => ⟨Nat.lt_of_lt_of_le (hR k hk).1 hb.size, (hR k hk).2⟩, bl_trans hB hb, boxes_keep hX (.of_below hb) hs.2.1 (fun k h => .inl h) (fun k h => .inl h)⟩
theorem Duo.mono (hd : Duo w g X s v wr) {Y : Nat → Obj → Prop} (hY : ∀ h o, Y h o → X h o) : Duo w g Y s v wr := by
  obtain ⟨F, R, hF, hs, hp, hR, hB, hX⟩ := hd
  exact ⟨F, R, hF, hs, hp, hR, hB, fun h o hy => hX h o (hY h o hy)⟩
/-- A box more, made just now. -/
theorem Duo.alloc (hd : Duo w g X s v wr) (o : Obj) : Duo w g (fun h o' => X h o' ∨ (h = wr.heap.size ∧ o' = o)) s v (wr.alloc o) := by
  obtain ⟨F, R, hF, hs, hp, hR, hB, hX⟩ := hd
  have hb := bl_alloc (bl_refl wr) o
  refine ⟨F, R, hF, hs.below hb, hp.below hb, fun k hk => ⟨Nat.lt_of_lt_of_le (hR k hk).1 hb.size, (hR k hk).2⟩, bl_trans hB hb, fun h o' hx => ?_⟩
  rcases hx with hx | ⟨rfl, rfl⟩
  · exact boxes_keep hX (.of_below hb) hs.2.1 (fun k h => .inl h) (fun k h => .inl h) h o' hx
  · exact ⟨heap_alloc_new wr o', fun hf => by have := hs.1 _ hf; omega, fun hr => by have := (hR _ hr).1; omega⟩
/-- One of the boxes written. -/
theorem Duo.set (hd : Duo w g X s v wr) {h : Nat} {o o' : Obj} (hx : X h o) (hh : w.heap.size ≤ h) (hf : Fr (fun k => k = h) wr w') (hb : w'.heap[h]? = some o') : Duo w g (fun k ok => (X k ok ∧ k ≠ h) ∨ (k = h ∧ ok = o')) s v w' := by
  obtain ⟨F, R, hF, hs, hp, hR, hB, hX⟩ := hd
  obtain ⟨h1, h2, h3⟩ := hX h o hx
  refine ⟨F, R, hF, hs.fr hf (fun k hk (e : k = h) => h2 (e ▸ hk)), hp.fr hf (fun k hk (e : k = h) => h3 (e ▸ hk)), fun k hk => ⟨Nat.lt_of_lt_of_le (hR k hk).1 hf.size, (hR k hk).2⟩, bl_fr hB hf (fun k hk => by have hk : k = h := hk; omega), fun k ok hk => ?_⟩
  rcases hk with ⟨hk, hn⟩ | ⟨rfl, rfl⟩
  · exact ⟨hf.get (hX k ok hk).1 hn, (hX k ok hk).2⟩
  · exact ⟨hb, h2, h3⟩
theorem Duo.start (hd : Mine w g s wr) (hp : s.ps = []) : Duo w g (fun _ _ => False) s (.slice none 0 0) wr := by
  obtain ⟨⟨F, hF, hs⟩, hB⟩ := hd
  exact ⟨F, fun _ => False, hF, hs, by rw [hp]; exact Pays.nil _ _, fun k h => h.elim, hB, fun h o hx => hx.elim⟩
end

end Go.Proofs.Ytgfcppjahebidaa
