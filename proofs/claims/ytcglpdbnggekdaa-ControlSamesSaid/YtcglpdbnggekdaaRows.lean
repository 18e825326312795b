/-
  No cell of these rows narrows 'for every input' (looked for: loops, veiled, ifaces, maps, wideKeys, modest, calm, conditions, laid).
  DERIVED. THE GIVEN ROWS OF THIS SEAT. 7 by the template 'for every input the law returns true; each argument reads behind the call as it read before'; 0 by the template 'total and deterministic' (their statements: YtcglpdbnggekdaaTotals.lean).
  GIVEN WITH THE SEED: the statements are not yours to turn. If you find one false, say at which input.
  Laid BY PROGRAM, IN A SANDBOX (cutbox-rows.mjs): the forced cells as the released guide's own fill.sh prints them over the translation 199da2cd39346134… (all of the seat's roots in one cut). By AI agents, Wed Nov 11 2026. No macro, syntax, notation, axiom, sorry.
-/
import Derived.Test.YtcglpdbnggekdaaChecked
import GoSem.Claim
import GoSem.ClaimJoined
import GoSem.ClaimMapViews
import Derived.JoinedTies
import Derived.KernelRfl
namespace Go.Proofs.Ytcglpdbnggekdaa
/- THE CELL 'sum', in the pinned program and in every row, IS THE sha256 OF THE DUMP (.gsa) THAT YtcglpdbnggekdaaProg.lean LOADS. Nothing in Lean hashes anything: it is a label: what it is worth is what the hold of that sum in a sandbox is worth. -/
noncomputable def Try.pinned : Pinned := { name := "ytcglpdbnggekdaa", sum := "199da2cd39346134253351e25fc13e0ce50c4db1c815731571953ac788527b3c", checked := Try.checked }
namespace Rows
def none {H : Type} : Left H := { results := [], args := [] }

/-- 'portagelaw05.ControlPuts': WHATEVER THE INPUT: true; the input reads as it did. -/
def controlPutsSpec : ChangeSpec := { name := "controlPuts", fn := fun _ => fun
  | [d] => { results := [.lit (.bool true)], args := [d] }
  | _ => none }
def controlPutsRow : OpenClaim := { program := "ytcglpdbnggekdaa", sum := "199da2cd39346134253351e25fc13e0ce50c4db1c815731571953ac788527b3c", func := "portage/portagelaw05.ControlPuts", spec := "controlPuts", unfollowed := true, recurses := true, apart := false }
def ControlPutsSaid : Prop := controlPutsRow.holds Try.pinned (OpenSpec.ofChange controlPutsSpec)

/-- ITS FALSE NEIGHBOUR: 'it returns false'. Refute it at one input. -/
def controlPutsWrong : ChangeSpec := { name := "controlPuts", fn := fun _ => fun
  | [d] => { results := [.lit (.bool false)], args := [d] }
  | _ => none }
def ControlPutsWrongFalsely : Prop := controlPutsRow.holds Try.pinned (OpenSpec.ofChange controlPutsWrong)

/-- 'portagelaw05.ControlGets': WHATEVER THE INPUT: true; the input reads as it did. -/
def controlGetsSpec : ChangeSpec := { name := "controlGets", fn := fun _ => fun
  | [d] => { results := [.lit (.bool true)], args := [d] }
  | _ => none }
def controlGetsRow : OpenClaim := { program := "ytcglpdbnggekdaa", sum := "199da2cd39346134253351e25fc13e0ce50c4db1c815731571953ac788527b3c", func := "portage/portagelaw05.ControlGets", spec := "controlGets", unfollowed := true, recurses := true, apart := false }
def ControlGetsSaid : Prop := controlGetsRow.holds Try.pinned (OpenSpec.ofChange controlGetsSpec)

/-- ITS FALSE NEIGHBOUR: 'it returns false'. Refute it at one input. -/
def controlGetsWrong : ChangeSpec := { name := "controlGets", fn := fun _ => fun
  | [d] => { results := [.lit (.bool false)], args := [d] }
  | _ => none }
def ControlGetsWrongFalsely : Prop := controlGetsRow.holds Try.pinned (OpenSpec.ofChange controlGetsWrong)

/-- 'portagelaw05.ControlBack': WHATEVER THE INPUT: true; the input reads as it did. -/
def controlBackSpec : ChangeSpec := { name := "controlBack", fn := fun _ => fun
  | [d1, d2] => { results := [.lit (.bool true)], args := [d1, d2] }
  | _ => none }
def controlBackRow : OpenClaim := { program := "ytcglpdbnggekdaa", sum := "199da2cd39346134253351e25fc13e0ce50c4db1c815731571953ac788527b3c", func := "portage/portagelaw05.ControlBack", spec := "controlBack", unfollowed := true, recurses := true, apart := false }
def ControlBackSaid : Prop := controlBackRow.holds Try.pinned (OpenSpec.ofChange controlBackSpec)

/-- ITS FALSE NEIGHBOUR: 'it returns false'. Refute it at one input. -/
def controlBackWrong : ChangeSpec := { name := "controlBack", fn := fun _ => fun
  | [d1, d2] => { results := [.lit (.bool false)], args := [d1, d2] }
  | _ => none }
def ControlBackWrongFalsely : Prop := controlBackRow.holds Try.pinned (OpenSpec.ofChange controlBackWrong)

/-- 'portagelaw05.ControlApart': WHATEVER THE INPUT: true; the input reads as it did. -/
def controlApartSpec : ChangeSpec := { name := "controlApart", fn := fun _ => fun
  | [d1, d2] => { results := [.lit (.bool true)], args := [d1, d2] }
  | _ => none }
def controlApartRow : OpenClaim := { program := "ytcglpdbnggekdaa", sum := "199da2cd39346134253351e25fc13e0ce50c4db1c815731571953ac788527b3c", func := "portage/portagelaw05.ControlApart", spec := "controlApart", unfollowed := true, recurses := true, apart := false }
def ControlApartSaid : Prop := controlApartRow.holds Try.pinned (OpenSpec.ofChange controlApartSpec)

/-- ITS FALSE NEIGHBOUR: 'it returns false'. Refute it at one input. -/
def controlApartWrong : ChangeSpec := { name := "controlApart", fn := fun _ => fun
  | [d1, d2] => { results := [.lit (.bool false)], args := [d1, d2] }
  | _ => none }
def ControlApartWrongFalsely : Prop := controlApartRow.holds Try.pinned (OpenSpec.ofChange controlApartWrong)

/-- 'portagelaw05.ControlFits': WHATEVER THE INPUT: true; the input reads as it did. -/
def controlFitsSpec : ChangeSpec := { name := "controlFits", fn := fun _ => fun
  | [d] => { results := [.lit (.bool true)], args := [d] }
  | _ => none }
def controlFitsRow : OpenClaim := { program := "ytcglpdbnggekdaa", sum := "199da2cd39346134253351e25fc13e0ce50c4db1c815731571953ac788527b3c", func := "portage/portagelaw05.ControlFits", spec := "controlFits", unfollowed := true, recurses := true, apart := false }
def ControlFitsSaid : Prop := controlFitsRow.holds Try.pinned (OpenSpec.ofChange controlFitsSpec)

/-- ITS FALSE NEIGHBOUR: 'it returns false'. Refute it at one input. -/
def controlFitsWrong : ChangeSpec := { name := "controlFits", fn := fun _ => fun
  | [d] => { results := [.lit (.bool false)], args := [d] }
  | _ => none }
def ControlFitsWrongFalsely : Prop := controlFitsRow.holds Try.pinned (OpenSpec.ofChange controlFitsWrong)

/-- 'portagelaw05.ControlSames': WHATEVER THE INPUT: true; the input reads as it did. -/
def controlSamesSpec : ChangeSpec := { name := "controlSames", fn := fun _ => fun
  | [d1, d2] => { results := [.lit (.bool true)], args := [d1, d2] }
  | _ => none }
def controlSamesRow : OpenClaim := { program := "ytcglpdbnggekdaa", sum := "199da2cd39346134253351e25fc13e0ce50c4db1c815731571953ac788527b3c", func := "portage/portagelaw05.ControlSames", spec := "controlSames", unfollowed := true, recurses := true, apart := false }
def ControlSamesSaid : Prop := controlSamesRow.holds Try.pinned (OpenSpec.ofChange controlSamesSpec)

/-- ITS FALSE NEIGHBOUR: 'it returns false'. Refute it at one input. -/
def controlSamesWrong : ChangeSpec := { name := "controlSames", fn := fun _ => fun
  | [d1, d2] => { results := [.lit (.bool false)], args := [d1, d2] }
  | _ => none }
def ControlSamesWrongFalsely : Prop := controlSamesRow.holds Try.pinned (OpenSpec.ofChange controlSamesWrong)

/-- 'portagelaw05.ControlChecks': WHATEVER THE INPUT: true; the input reads as it did. -/
def controlChecksSpec : ChangeSpec := { name := "controlChecks", fn := fun _ => fun
  | [d] => { results := [.lit (.bool true)], args := [d] }
  | _ => none }
def controlChecksRow : OpenClaim := { program := "ytcglpdbnggekdaa", sum := "199da2cd39346134253351e25fc13e0ce50c4db1c815731571953ac788527b3c", func := "portage/portagelaw05.ControlChecks", spec := "controlChecks", unfollowed := true, recurses := true, apart := false }
def ControlChecksSaid : Prop := controlChecksRow.holds Try.pinned (OpenSpec.ofChange controlChecksSpec)

/-- ITS FALSE NEIGHBOUR: 'it returns false'. Refute it at one input. -/
def controlChecksWrong : ChangeSpec := { name := "controlChecks", fn := fun _ => fun
  | [d] => { results := [.lit (.bool false)], args := [d] }
  | _ => none }
def ControlChecksWrongFalsely : Prop := controlChecksRow.holds Try.pinned (OpenSpec.ofChange controlChecksWrong)

/- THE SECOND FORM. 'bulk': how many values and letters a reading holds, each counted each time it is reached (what is shared counts as often as it is met; a slice's spare places count too). A statement '..UptoSaid' is the law's where the arguments, and the package variables that the reading takes, are together of bulk at most 1048576: NARROWER than '..Said'. Prove '..Said' where nothing that the law and all that it calls make is longer than what came in: it says more and counts as full. Else prove '..UptoSaid'. A law counts once. -/
mutual
def uptoBulk {H : Type} : DataW H → Nat
  | .lit (.string bytes) => bytes.length + 1
  | .lit _ => 1
  | .nil => 1
  | .ptr d => uptoBulk d + 1
  | .slice elems spare => uptoBulkAll elems + uptoBulkAll spare + 1
  | .agg parts => uptoBulkAll parts + 1
  | .iface _ d => uptoBulk d + 1
  | .map entries => uptoBulkEntries entries + 1
  | .held _ => 1
def uptoBulkAll {H : Type} : List (DataW H) → Nat
  | [] => 0
  | d :: r => uptoBulk d + uptoBulkAll r
def uptoBulkEntries {H : Type} : List (Lit × DataW H) → Nat
  | [] => 0
  | x :: r => uptoBulkEntry x + uptoBulkEntries r
def uptoBulkEntry {H : Type} : Lit × DataW H → Nat
  | (.string bytes, d) => bytes.length + uptoBulk d + 1
  | (_, d) => uptoBulk d + 1
 end
def uptoSmall : (H : Type) → List (DataW H) → Bool := fun _ ds => decide (uptoBulkAll ds ≤ 1048576)
def OpenSpec.upto (s : _root_.Go.ChangeSpec) : _root_.Go.OpenSpec := { _root_.Go.OpenSpec.ofChange s with cond := some uptoSmall }

/-- 'portagelaw05.ControlPuts', WHERE WHAT IT READS IS OF BULK AT MOST 1048576: true; the input reads as it did. -/
def controlPutsUptoRow : OpenClaim := { program := "ytcglpdbnggekdaa", sum := "199da2cd39346134253351e25fc13e0ce50c4db1c815731571953ac788527b3c", func := "portage/portagelaw05.ControlPuts", spec := "controlPuts", unfollowed := true, recurses := true, apart := false, narrowed := true }
def ControlPutsUptoSaid : Prop := controlPutsUptoRow.holds Try.pinned (OpenSpec.upto controlPutsSpec)

/-- 'portagelaw05.ControlGets', WHERE WHAT IT READS IS OF BULK AT MOST 1048576: true; the input reads as it did. -/
def controlGetsUptoRow : OpenClaim := { program := "ytcglpdbnggekdaa", sum := "199da2cd39346134253351e25fc13e0ce50c4db1c815731571953ac788527b3c", func := "portage/portagelaw05.ControlGets", spec := "controlGets", unfollowed := true, recurses := true, apart := false, narrowed := true }
def ControlGetsUptoSaid : Prop := controlGetsUptoRow.holds Try.pinned (OpenSpec.upto controlGetsSpec)

/-- 'portagelaw05.ControlBack', WHERE WHAT IT READS IS OF BULK AT MOST 1048576: true; the input reads as it did. -/
def controlBackUptoRow : OpenClaim := { program := "ytcglpdbnggekdaa", sum := "199da2cd39346134253351e25fc13e0ce50c4db1c815731571953ac788527b3c", func := "portage/portagelaw05.ControlBack", spec := "controlBack", unfollowed := true, recurses := true, apart := false, narrowed := true }
def ControlBackUptoSaid : Prop := controlBackUptoRow.holds Try.pinned (OpenSpec.upto controlBackSpec)

/-- 'portagelaw05.ControlApart', WHERE WHAT IT READS IS OF BULK AT MOST 1048576: true; the input reads as it did. -/
def controlApartUptoRow : OpenClaim := { program := "ytcglpdbnggekdaa", sum := "199da2cd39346134253351e25fc13e0ce50c4db1c815731571953ac788527b3c", func := "portage/portagelaw05.ControlApart", spec := "controlApart", unfollowed := true, recurses := true, apart := false, narrowed := true }
def ControlApartUptoSaid : Prop := controlApartUptoRow.holds Try.pinned (OpenSpec.upto controlApartSpec)

/-- 'portagelaw05.ControlFits', WHERE WHAT IT READS IS OF BULK AT MOST 1048576: true; the input reads as it did. -/
def controlFitsUptoRow : OpenClaim := { program := "ytcglpdbnggekdaa", sum := "199da2cd39346134253351e25fc13e0ce50c4db1c815731571953ac788527b3c", func := "portage/portagelaw05.ControlFits", spec := "controlFits", unfollowed := true, recurses := true, apart := false, narrowed := true }
def ControlFitsUptoSaid : Prop := controlFitsUptoRow.holds Try.pinned (OpenSpec.upto controlFitsSpec)

/-- 'portagelaw05.ControlSames', WHERE WHAT IT READS IS OF BULK AT MOST 1048576: true; the input reads as it did. -/
def controlSamesUptoRow : OpenClaim := { program := "ytcglpdbnggekdaa", sum := "199da2cd39346134253351e25fc13e0ce50c4db1c815731571953ac788527b3c", func := "portage/portagelaw05.ControlSames", spec := "controlSames", unfollowed := true, recurses := true, apart := false, narrowed := true }
def ControlSamesUptoSaid : Prop := controlSamesUptoRow.holds Try.pinned (OpenSpec.upto controlSamesSpec)

/-- 'portagelaw05.ControlChecks', WHERE WHAT IT READS IS OF BULK AT MOST 1048576: true; the input reads as it did. -/
def controlChecksUptoRow : OpenClaim := { program := "ytcglpdbnggekdaa", sum := "199da2cd39346134253351e25fc13e0ce50c4db1c815731571953ac788527b3c", func := "portage/portagelaw05.ControlChecks", spec := "controlChecks", unfollowed := true, recurses := true, apart := false, narrowed := true }
def ControlChecksUptoSaid : Prop := controlChecksUptoRow.holds Try.pinned (OpenSpec.upto controlChecksSpec)

end Rows
end Go.Proofs.Ytcglpdbnggekdaa
