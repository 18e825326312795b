/-
  No cell of these rows narrows 'for every input' (looked for: loops, veiled, ifaces, maps, wideKeys, modest, calm, conditions, laid).
  DERIVED. THE GIVEN ROWS OF THIS SEAT. 8 by the template 'for every input the law returns true; each argument reads behind the call as it read before'; 0 by the template 'total and deterministic' (their statements: YtchghjghkemamaaTotals.lean).
  GIVEN WITH THE SEED: the statements are not yours to turn. If you find one false, say at which input.
  Laid BY PROGRAM, IN A SANDBOX (cutbox-rows.mjs): the forced cells as the released guide's own fill.sh prints them over the translation f7d2e92d91ab7b55… (all of the seat's roots in one cut). By AI agents, Wed Nov 11 2026. No macro, syntax, notation, axiom, sorry.
-/
import Derived.Test.YtchghjghkemamaaChecked
import GoSem.Claim
import GoSem.ClaimJoined
import GoSem.ClaimMapViews
import Derived.JoinedTies
import Derived.KernelRfl
namespace Go.Proofs.Ytchghjghkemamaa
/- THE CELL 'sum', in the pinned program and in every row, IS THE sha256 OF THE DUMP (.gsa) THAT YtchghjghkemamaaProg.lean LOADS. Nothing in Lean hashes anything: it is a label: what it is worth is what the hold of that sum in a sandbox is worth. -/
noncomputable def Try.pinned : Pinned := { name := "ytchghjghkemamaa", sum := "f7d2e92d91ab7b55014b2a5f27fb575fde183364c449bbbff57ab91c27b028cb", checked := Try.checked }
namespace Rows
def none {H : Type} : Left H := { results := [], args := [] }

/-- 'portagelaw06.WindowWays': WHATEVER THE INPUT: true; the input reads as it did. -/
def windowWaysSpec : ChangeSpec := { name := "windowWays", fn := fun _ => fun
  | [d1, d2] => { results := [.lit (.bool true)], args := [d1, d2] }
  | _ => none }
def windowWaysRow : OpenClaim := { program := "ytchghjghkemamaa", sum := "f7d2e92d91ab7b55014b2a5f27fb575fde183364c449bbbff57ab91c27b028cb", func := "portage/portagelaw06.WindowWays", spec := "windowWays", unfollowed := true, recurses := true, apart := false }
def WindowWaysSaid : Prop := windowWaysRow.holds Try.pinned (OpenSpec.ofChange windowWaysSpec)

/-- ITS FALSE NEIGHBOUR: 'it returns false'. Refute it at one input. -/
def windowWaysWrong : ChangeSpec := { name := "windowWays", fn := fun _ => fun
  | [d1, d2] => { results := [.lit (.bool false)], args := [d1, d2] }
  | _ => none }
def WindowWaysWrongFalsely : Prop := windowWaysRow.holds Try.pinned (OpenSpec.ofChange windowWaysWrong)

/-- 'portagelaw06.WindowIns': WHATEVER THE INPUT: true; the input reads as it did. -/
def windowInsSpec : ChangeSpec := { name := "windowIns", fn := fun _ => fun
  | [d1, d2, d3] => { results := [.lit (.bool true)], args := [d1, d2, d3] }
  | _ => none }
def windowInsRow : OpenClaim := { program := "ytchghjghkemamaa", sum := "f7d2e92d91ab7b55014b2a5f27fb575fde183364c449bbbff57ab91c27b028cb", func := "portage/portagelaw06.WindowIns", spec := "windowIns", unfollowed := true, recurses := true, apart := false }
def WindowInsSaid : Prop := windowInsRow.holds Try.pinned (OpenSpec.ofChange windowInsSpec)

/-- ITS FALSE NEIGHBOUR: 'it returns false'. Refute it at one input. -/
def windowInsWrong : ChangeSpec := { name := "windowIns", fn := fun _ => fun
  | [d1, d2, d3] => { results := [.lit (.bool false)], args := [d1, d2, d3] }
  | _ => none }
def WindowInsWrongFalsely : Prop := windowInsRow.holds Try.pinned (OpenSpec.ofChange windowInsWrong)

/-- 'portagelaw06.WindowGoes': WHATEVER THE INPUT: true; the input reads as it did. -/
def windowGoesSpec : ChangeSpec := { name := "windowGoes", fn := fun _ => fun
  | [d1, d2, d3] => { results := [.lit (.bool true)], args := [d1, d2, d3] }
  | _ => none }
def windowGoesRow : OpenClaim := { program := "ytchghjghkemamaa", sum := "f7d2e92d91ab7b55014b2a5f27fb575fde183364c449bbbff57ab91c27b028cb", func := "portage/portagelaw06.WindowGoes", spec := "windowGoes", unfollowed := true, recurses := true, apart := false }
def WindowGoesSaid : Prop := windowGoesRow.holds Try.pinned (OpenSpec.ofChange windowGoesSpec)

/-- ITS FALSE NEIGHBOUR: 'it returns false'. Refute it at one input. -/
def windowGoesWrong : ChangeSpec := { name := "windowGoes", fn := fun _ => fun
  | [d1, d2, d3] => { results := [.lit (.bool false)], args := [d1, d2, d3] }
  | _ => none }
def WindowGoesWrongFalsely : Prop := windowGoesRow.holds Try.pinned (OpenSpec.ofChange windowGoesWrong)

/-- 'portagelaw06.WindowRound': WHATEVER THE INPUT: true; the input reads as it did. -/
def windowRoundSpec : ChangeSpec := { name := "windowRound", fn := fun _ => fun
  | [d1, d2, d3] => { results := [.lit (.bool true)], args := [d1, d2, d3] }
  | _ => none }
def windowRoundRow : OpenClaim := { program := "ytchghjghkemamaa", sum := "f7d2e92d91ab7b55014b2a5f27fb575fde183364c449bbbff57ab91c27b028cb", func := "portage/portagelaw06.WindowRound", spec := "windowRound", unfollowed := true, recurses := true, apart := false }
def WindowRoundSaid : Prop := windowRoundRow.holds Try.pinned (OpenSpec.ofChange windowRoundSpec)

/-- ITS FALSE NEIGHBOUR: 'it returns false'. Refute it at one input. -/
def windowRoundWrong : ChangeSpec := { name := "windowRound", fn := fun _ => fun
  | [d1, d2, d3] => { results := [.lit (.bool false)], args := [d1, d2, d3] }
  | _ => none }
def WindowRoundWrongFalsely : Prop := windowRoundRow.holds Try.pinned (OpenSpec.ofChange windowRoundWrong)

/-- 'portagelaw06.WindowTurns': WHATEVER THE INPUT: true; the input reads as it did. -/
def windowTurnsSpec : ChangeSpec := { name := "windowTurns", fn := fun _ => fun
  | [d1, d2, d3] => { results := [.lit (.bool true)], args := [d1, d2, d3] }
  | _ => none }
def windowTurnsRow : OpenClaim := { program := "ytchghjghkemamaa", sum := "f7d2e92d91ab7b55014b2a5f27fb575fde183364c449bbbff57ab91c27b028cb", func := "portage/portagelaw06.WindowTurns", spec := "windowTurns", unfollowed := true, recurses := true, apart := false }
def WindowTurnsSaid : Prop := windowTurnsRow.holds Try.pinned (OpenSpec.ofChange windowTurnsSpec)

/-- ITS FALSE NEIGHBOUR: 'it returns false'. Refute it at one input. -/
def windowTurnsWrong : ChangeSpec := { name := "windowTurns", fn := fun _ => fun
  | [d1, d2, d3] => { results := [.lit (.bool false)], args := [d1, d2, d3] }
  | _ => none }
def WindowTurnsWrongFalsely : Prop := windowTurnsRow.holds Try.pinned (OpenSpec.ofChange windowTurnsWrong)

/-- 'portagelaw06.WindowHalves': WHATEVER THE INPUT: true; the input reads as it did. -/
def windowHalvesSpec : ChangeSpec := { name := "windowHalves", fn := fun _ => fun
  | [d1, d2, d3] => { results := [.lit (.bool true)], args := [d1, d2, d3] }
  | _ => none }
def windowHalvesRow : OpenClaim := { program := "ytchghjghkemamaa", sum := "f7d2e92d91ab7b55014b2a5f27fb575fde183364c449bbbff57ab91c27b028cb", func := "portage/portagelaw06.WindowHalves", spec := "windowHalves", unfollowed := true, recurses := true, apart := false }
def WindowHalvesSaid : Prop := windowHalvesRow.holds Try.pinned (OpenSpec.ofChange windowHalvesSpec)

/-- ITS FALSE NEIGHBOUR: 'it returns false'. Refute it at one input. -/
def windowHalvesWrong : ChangeSpec := { name := "windowHalves", fn := fun _ => fun
  | [d1, d2, d3] => { results := [.lit (.bool false)], args := [d1, d2, d3] }
  | _ => none }
def WindowHalvesWrongFalsely : Prop := windowHalvesRow.holds Try.pinned (OpenSpec.ofChange windowHalvesWrong)

/-- 'portagelaw06.WindowReduces': WHATEVER THE INPUT: true; the input reads as it did. -/
def windowReducesSpec : ChangeSpec := { name := "windowReduces", fn := fun _ => fun
  | [d] => { results := [.lit (.bool true)], args := [d] }
  | _ => none }
def windowReducesRow : OpenClaim := { program := "ytchghjghkemamaa", sum := "f7d2e92d91ab7b55014b2a5f27fb575fde183364c449bbbff57ab91c27b028cb", func := "portage/portagelaw06.WindowReduces", spec := "windowReduces", unfollowed := true, recurses := true, apart := false }
def WindowReducesSaid : Prop := windowReducesRow.holds Try.pinned (OpenSpec.ofChange windowReducesSpec)

/-- ITS FALSE NEIGHBOUR: 'it returns false'. Refute it at one input. -/
def windowReducesWrong : ChangeSpec := { name := "windowReduces", fn := fun _ => fun
  | [d] => { results := [.lit (.bool false)], args := [d] }
  | _ => none }
def WindowReducesWrongFalsely : Prop := windowReducesRow.holds Try.pinned (OpenSpec.ofChange windowReducesWrong)

/-- 'portagelaw06.WindowSorts': WHATEVER THE INPUT: true; the input reads as it did. -/
def windowSortsSpec : ChangeSpec := { name := "windowSorts", fn := fun _ => fun
  | [d1, d2, d3] => { results := [.lit (.bool true)], args := [d1, d2, d3] }
  | _ => none }
def windowSortsRow : OpenClaim := { program := "ytchghjghkemamaa", sum := "f7d2e92d91ab7b55014b2a5f27fb575fde183364c449bbbff57ab91c27b028cb", func := "portage/portagelaw06.WindowSorts", spec := "windowSorts", unfollowed := true, recurses := true, apart := false }
def WindowSortsSaid : Prop := windowSortsRow.holds Try.pinned (OpenSpec.ofChange windowSortsSpec)

/-- ITS FALSE NEIGHBOUR: 'it returns false'. Refute it at one input. -/
def windowSortsWrong : ChangeSpec := { name := "windowSorts", fn := fun _ => fun
  | [d1, d2, d3] => { results := [.lit (.bool false)], args := [d1, d2, d3] }
  | _ => none }
def WindowSortsWrongFalsely : Prop := windowSortsRow.holds Try.pinned (OpenSpec.ofChange windowSortsWrong)

/- THE SECOND FORM. 'bulk': how many values and letters a reading holds, each counted each time it is reached (what is shared counts as often as it is met; a slice's spare places count too). A statement '..UptoSaid' is the law's where the arguments, and the package variables that the reading takes, are together of bulk at most 1048576: NARROWER than '..Said'. Prove '..Said' where nothing that the law and all that it calls make is longer than what came in: it says more and counts as full. Else prove '..UptoSaid'. A law counts once. -/
mutual
def uptoBulk {H : Type} : DataW H → Nat
  | .lit (.string bytes) => bytes.length + 1
  | .lit _ => 1
  | .nil => 1
  | .ptr d => uptoBulk d + 1
  | .slice elems spare => uptoBulkAll elems + uptoBulkAll spare + 1
  | .agg parts => uptoBulkAll parts + 1
  | .iface _ d => uptoBulk d + 1
  | .map entries => uptoBulkEntries entries + 1
  | .held _ => 1
def uptoBulkAll {H : Type} : List (DataW H) → Nat
  | [] => 0
  | d :: r => uptoBulk d + uptoBulkAll r
def uptoBulkEntries {H : Type} : List (Lit × DataW H) → Nat
  | [] => 0
  | x :: r => uptoBulkEntry x + uptoBulkEntries r
def uptoBulkEntry {H : Type} : Lit × DataW H → Nat
  | (.string bytes, d) => bytes.length + uptoBulk d + 1
  | (_, d) => uptoBulk d + 1
 end
def uptoSmall : (H : Type) → List (DataW H) → Bool := fun _ ds => decide (uptoBulkAll ds ≤ 1048576)
def OpenSpec.upto (s : _root_.Go.ChangeSpec) : _root_.Go.OpenSpec := { _root_.Go.OpenSpec.ofChange s with cond := some uptoSmall }

/-- 'portagelaw06.WindowWays', WHERE WHAT IT READS IS OF BULK AT MOST 1048576: true; the input reads as it did. -/
def windowWaysUptoRow : OpenClaim := { program := "ytchghjghkemamaa", sum := "f7d2e92d91ab7b55014b2a5f27fb575fde183364c449bbbff57ab91c27b028cb", func := "portage/portagelaw06.WindowWays", spec := "windowWays", unfollowed := true, recurses := true, apart := false, narrowed := true }
def WindowWaysUptoSaid : Prop := windowWaysUptoRow.holds Try.pinned (OpenSpec.upto windowWaysSpec)

/-- 'portagelaw06.WindowIns', WHERE WHAT IT READS IS OF BULK AT MOST 1048576: true; the input reads as it did. -/
def windowInsUptoRow : OpenClaim := { program := "ytchghjghkemamaa", sum := "f7d2e92d91ab7b55014b2a5f27fb575fde183364c449bbbff57ab91c27b028cb", func := "portage/portagelaw06.WindowIns", spec := "windowIns", unfollowed := true, recurses := true, apart := false, narrowed := true }
def WindowInsUptoSaid : Prop := windowInsUptoRow.holds Try.pinned (OpenSpec.upto windowInsSpec)

/-- 'portagelaw06.WindowGoes', WHERE WHAT IT READS IS OF BULK AT MOST 1048576: true; the input reads as it did. -/
def windowGoesUptoRow : OpenClaim := { program := "ytchghjghkemamaa", sum := "f7d2e92d91ab7b55014b2a5f27fb575fde183364c449bbbff57ab91c27b028cb", func := "portage/portagelaw06.WindowGoes", spec := "windowGoes", unfollowed := true, recurses := true, apart := false, narrowed := true }
def WindowGoesUptoSaid : Prop := windowGoesUptoRow.holds Try.pinned (OpenSpec.upto windowGoesSpec)

/-- 'portagelaw06.WindowRound', WHERE WHAT IT READS IS OF BULK AT MOST 1048576: true; the input reads as it did. -/
def windowRoundUptoRow : OpenClaim := { program := "ytchghjghkemamaa", sum := "f7d2e92d91ab7b55014b2a5f27fb575fde183364c449bbbff57ab91c27b028cb", func := "portage/portagelaw06.WindowRound", spec := "windowRound", unfollowed := true, recurses := true, apart := false, narrowed := true }
def WindowRoundUptoSaid : Prop := windowRoundUptoRow.holds Try.pinned (OpenSpec.upto windowRoundSpec)

/-- 'portagelaw06.WindowTurns', WHERE WHAT IT READS IS OF BULK AT MOST 1048576: true; the input reads as it did. -/
def windowTurnsUptoRow : OpenClaim := { program := "ytchghjghkemamaa", sum := "f7d2e92d91ab7b55014b2a5f27fb575fde183364c449bbbff57ab91c27b028cb", func := "portage/portagelaw06.WindowTurns", spec := "windowTurns", unfollowed := true, recurses := true, apart := false, narrowed := true }
def WindowTurnsUptoSaid : Prop := windowTurnsUptoRow.holds Try.pinned (OpenSpec.upto windowTurnsSpec)

/-- 'portagelaw06.WindowHalves', WHERE WHAT IT READS IS OF BULK AT MOST 1048576: true; the input reads as it did. -/
def windowHalvesUptoRow : OpenClaim := { program := "ytchghjghkemamaa", sum := "f7d2e92d91ab7b55014b2a5f27fb575fde183364c449bbbff57ab91c27b028cb", func := "portage/portagelaw06.WindowHalves", spec := "windowHalves", unfollowed := true, recurses := true, apart := false, narrowed := true }
def WindowHalvesUptoSaid : Prop := windowHalvesUptoRow.holds Try.pinned (OpenSpec.upto windowHalvesSpec)

/-- 'portagelaw06.WindowReduces', WHERE WHAT IT READS IS OF BULK AT MOST 1048576: true; the input reads as it did. -/
def windowReducesUptoRow : OpenClaim := { program := "ytchghjghkemamaa", sum := "f7d2e92d91ab7b55014b2a5f27fb575fde183364c449bbbff57ab91c27b028cb", func := "portage/portagelaw06.WindowReduces", spec := "windowReduces", unfollowed := true, recurses := true, apart := false, narrowed := true }
def WindowReducesUptoSaid : Prop := windowReducesUptoRow.holds Try.pinned (OpenSpec.upto windowReducesSpec)

/-- 'portagelaw06.WindowSorts', WHERE WHAT IT READS IS OF BULK AT MOST 1048576: true; the input reads as it did. -/
def windowSortsUptoRow : OpenClaim := { program := "ytchghjghkemamaa", sum := "f7d2e92d91ab7b55014b2a5f27fb575fde183364c449bbbff57ab91c27b028cb", func := "portage/portagelaw06.WindowSorts", spec := "windowSorts", unfollowed := true, recurses := true, apart := false, narrowed := true }
def WindowSortsUptoSaid : Prop := windowSortsUptoRow.holds Try.pinned (OpenSpec.upto windowSortsSpec)

end Rows
end Go.Proofs.Ytchghjghkemamaa
