/- A region that draws its order and whose operations read, or call what only makes new memory and answers one value whatever that memory: one walk in the order of the text. No program in sight. Conditions: none. -/
import Derived.BigQuiet
import Derived.Deep.QuietTactic
import Derived.Test.YtaembdlidaogdaaRead
namespace Go.Proofs.Ytaembdlidaogdaa
open Go.RowKit

/-- A world in which all that was there in w is as it was. -/
structure Later (w0 : World) where
  w : World
  h : Below w0.heap.size w0 w

instance (w0 : World) : Nonempty (Later w0) := ⟨⟨w0, bl_refl w0⟩⟩

theorem Later.cell {w0 : World} {b o : Nat} {v : Value} (h : w0.cell? ⟨b, o, none⟩ = some v) (x : Later w0) : x.w.cell? ⟨b, o, none⟩ = some v := below_cell x.h h
theorem Later.reads {α : Type} {f : α → Value} {w0 : World} {v : Value} {xs : List α} (h : Reads f w0 v xs) (x : Later w0) : Reads f x.w v xs := h.below x.h

theorem calls_later {P : Program} {f : FuncId} {args : Array Value} {w0 : World} {x : Later w0} {v : Value} (h : Calls P f args x.w fun e w' => e = .returned v ∧ Below x.w.heap.size x.w w') :
    Calls P f args x.w fun e w'' => e = .returned v ∧ ∃ y : Later w0, w'' = y.w :=
  h.mono fun _ w' ⟨he, hb⟩ => ⟨he, ⟨w', bl_trans x.h hb⟩, rfl⟩
theorem calls_later_same {P : Program} {f : FuncId} {args : Array Value} {w0 : World} {x : Later w0} {v : Value} (h : Calls P f args x.w fun e w' => e = .returned v ∧ x.w = w') :
    Calls P f args x.w fun e w'' => e = .returned v ∧ ∃ y : Later w0, w'' = y.w :=
  h.mono fun _ _ ⟨he, hb⟩ => ⟨he, x, hb.symm⟩

theorem wp_region_later {P : Program} {id : Nat} {Q : Exit → Act → World → Prop} {a : Act} {w : World} {l : List Oper} (hm : P.follows .mixedOrders = true) (hB : Region.lexB .any l.toArray = true)
    (h : wpQuiet P l.toArray (fun w' => ∃ x : Later w, w' = x.w) (fun a' => ∀ w', (∃ x : Later w, w' = x.w) → Q .normal a' w') l a) : (Code.region id l.toArray true).wp P Q a w :=
  wp_region_quiet (C := fun w' => ∃ x : Later w, w' = x.w) hm hB ⟨⟨w.drew, bl_drew (bl_refl w)⟩, rfl⟩ (by simpa using h)

end Go.Proofs.Ytaembdlidaogdaa
