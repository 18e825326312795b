/-
  No cell of these rows narrows 'for every input' (looked for: loops, veiled, ifaces, maps, wideKeys, modest, calm, conditions, laid).
  DERIVED. THE GIVEN ROWS OF THIS SEAT. 4 by the template 'for every input the law returns true; each argument reads behind the call as it read before'; 0 by the template 'total and deterministic' (their statements: YtagbaoakablfpaaTotals.lean).
  GIVEN WITH THE SEED: the statements are not yours to turn. If you find one false, say at which input.
  Laid BY PROGRAM, IN A SANDBOX (cutbox-rows.mjs): the forced cells as the released guide's own fill.sh prints them over the translation 073a60951e20c9f5… (all of the seat's roots in one cut). By AI agents, Wed Nov 11 2026. No macro, syntax, notation, axiom, sorry.
-/
import Derived.Test.YtagbaoakablfpaaChecked
import GoSem.Claim
import GoSem.ClaimJoined
import GoSem.ClaimMapViews
import Derived.JoinedTies
import Derived.KernelRfl
namespace Go.Proofs.Ytagbaoakablfpaa
/- THE CELL 'sum', in the pinned program and in every row, IS THE sha256 OF THE DUMP (.gsa) THAT YtagbaoakablfpaaProg.lean LOADS. Nothing in Lean hashes anything: it is a label: what it is worth is what the hold of that sum in a sandbox is worth. -/
noncomputable def Try.pinned : Pinned := { name := "ytagbaoakablfpaa", sum := "073a60951e20c9f52de18a9fa51ac060c844b050910cefc421ec399db31d6c28", checked := Try.checked }
namespace Rows
def none {H : Type} : Left H := { results := [], args := [] }

/-- 'portagelaw08.RecvAsks': WHATEVER THE INPUT: true; the input reads as it did. -/
def recvAsksSpec : ChangeSpec := { name := "recvAsks", fn := fun _ => fun
  | [d1, d2] => { results := [.lit (.bool true)], args := [d1, d2] }
  | _ => none }
def recvAsksRow : OpenClaim := { program := "ytagbaoakablfpaa", sum := "073a60951e20c9f52de18a9fa51ac060c844b050910cefc421ec399db31d6c28", func := "portage/portagelaw08.RecvAsks", spec := "recvAsks", unfollowed := true, recurses := true, apart := false }
def RecvAsksSaid : Prop := recvAsksRow.holds Try.pinned (OpenSpec.ofChange recvAsksSpec)

/-- ITS FALSE NEIGHBOUR: 'it returns false'. Refute it at one input. -/
def recvAsksWrong : ChangeSpec := { name := "recvAsks", fn := fun _ => fun
  | [d1, d2] => { results := [.lit (.bool false)], args := [d1, d2] }
  | _ => none }
def RecvAsksWrongFalsely : Prop := recvAsksRow.holds Try.pinned (OpenSpec.ofChange recvAsksWrong)

/-- 'portagelaw08.RecvNil': WHATEVER THE INPUT: true; the input reads as it did. -/
def recvNilSpec : ChangeSpec := { name := "recvNil", fn := fun _ => fun
  | [d] => { results := [.lit (.bool true)], args := [d] }
  | _ => none }
def recvNilRow : OpenClaim := { program := "ytagbaoakablfpaa", sum := "073a60951e20c9f52de18a9fa51ac060c844b050910cefc421ec399db31d6c28", func := "portage/portagelaw08.RecvNil", spec := "recvNil", unfollowed := true, recurses := true, apart := false }
def RecvNilSaid : Prop := recvNilRow.holds Try.pinned (OpenSpec.ofChange recvNilSpec)

/-- ITS FALSE NEIGHBOUR: 'it returns false'. Refute it at one input. -/
def recvNilWrong : ChangeSpec := { name := "recvNil", fn := fun _ => fun
  | [d] => { results := [.lit (.bool false)], args := [d] }
  | _ => none }
def RecvNilWrongFalsely : Prop := recvNilRow.holds Try.pinned (OpenSpec.ofChange recvNilWrong)

/-- 'portagelaw08.RecvOrder': WHATEVER THE INPUT: true; the input reads as it did. -/
def recvOrderSpec : ChangeSpec := { name := "recvOrder", fn := fun _ => fun
  | [d1, d2] => { results := [.lit (.bool true)], args := [d1, d2] }
  | _ => none }
def recvOrderRow : OpenClaim := { program := "ytagbaoakablfpaa", sum := "073a60951e20c9f52de18a9fa51ac060c844b050910cefc421ec399db31d6c28", func := "portage/portagelaw08.RecvOrder", spec := "recvOrder", unfollowed := true, recurses := true, apart := false }
def RecvOrderSaid : Prop := recvOrderRow.holds Try.pinned (OpenSpec.ofChange recvOrderSpec)

/-- ITS FALSE NEIGHBOUR: 'it returns false'. Refute it at one input. -/
def recvOrderWrong : ChangeSpec := { name := "recvOrder", fn := fun _ => fun
  | [d1, d2] => { results := [.lit (.bool false)], args := [d1, d2] }
  | _ => none }
def RecvOrderWrongFalsely : Prop := recvOrderRow.holds Try.pinned (OpenSpec.ofChange recvOrderWrong)

/-- 'portagelaw08.RecvAll': WHATEVER THE INPUT: true; the input reads as it did. -/
def recvAllSpec : ChangeSpec := { name := "recvAll", fn := fun _ => fun
  | [d1, d2] => { results := [.lit (.bool true)], args := [d1, d2] }
  | _ => none }
def recvAllRow : OpenClaim := { program := "ytagbaoakablfpaa", sum := "073a60951e20c9f52de18a9fa51ac060c844b050910cefc421ec399db31d6c28", func := "portage/portagelaw08.RecvAll", spec := "recvAll", unfollowed := true, recurses := true, apart := false }
def RecvAllSaid : Prop := recvAllRow.holds Try.pinned (OpenSpec.ofChange recvAllSpec)

/-- ITS FALSE NEIGHBOUR: 'it returns false'. Refute it at one input. -/
def recvAllWrong : ChangeSpec := { name := "recvAll", fn := fun _ => fun
  | [d1, d2] => { results := [.lit (.bool false)], args := [d1, d2] }
  | _ => none }
def RecvAllWrongFalsely : Prop := recvAllRow.holds Try.pinned (OpenSpec.ofChange recvAllWrong)

/- THE SECOND FORM. 'bulk': how many values and letters a reading holds, each counted each time it is reached (what is shared counts as often as it is met; a slice's spare places count too). A statement '..UptoSaid' is the law's where the arguments, and the package variables that the reading takes, are together of bulk at most 1048576: NARROWER than '..Said'. Prove '..Said' where nothing that the law and all that it calls make is longer than what came in: it says more and counts as full. Else prove '..UptoSaid'. A law counts once. -/
mutual
def uptoBulk {H : Type} : DataW H → Nat
  | .lit (.string bytes) => bytes.length + 1
  | .lit _ => 1
  | .nil => 1
  | .ptr d => uptoBulk d + 1
  | .slice elems spare => uptoBulkAll elems + uptoBulkAll spare + 1
  | .agg parts => uptoBulkAll parts + 1
  | .iface _ d => uptoBulk d + 1
  | .map entries => uptoBulkEntries entries + 1
  | .held _ => 1
def uptoBulkAll {H : Type} : List (DataW H) → Nat
  | [] => 0
  | d :: r => uptoBulk d + uptoBulkAll r
def uptoBulkEntries {H : Type} : List (Lit × DataW H) → Nat
  | [] => 0
  | x :: r => uptoBulkEntry x + uptoBulkEntries r
def uptoBulkEntry {H : Type} : Lit × DataW H → Nat
  | (.string bytes, d) => bytes.length + uptoBulk d + 1
  | (_, d) => uptoBulk d + 1
 end
def uptoSmall : (H : Type) → List (DataW H) → Bool := fun _ ds => decide (uptoBulkAll ds ≤ 1048576)
def OpenSpec.upto (s : _root_.Go.ChangeSpec) : _root_.Go.OpenSpec := { _root_.Go.OpenSpec.ofChange s with cond := some uptoSmall }

/-- 'portagelaw08.RecvAsks', WHERE WHAT IT READS IS OF BULK AT MOST 1048576: true; the input reads as it did. -/
def recvAsksUptoRow : OpenClaim := { program := "ytagbaoakablfpaa", sum := "073a60951e20c9f52de18a9fa51ac060c844b050910cefc421ec399db31d6c28", func := "portage/portagelaw08.RecvAsks", spec := "recvAsks", unfollowed := true, recurses := true, apart := false, narrowed := true }
def RecvAsksUptoSaid : Prop := recvAsksUptoRow.holds Try.pinned (OpenSpec.upto recvAsksSpec)

/-- 'portagelaw08.RecvNil', WHERE WHAT IT READS IS OF BULK AT MOST 1048576: true; the input reads as it did. -/
def recvNilUptoRow : OpenClaim := { program := "ytagbaoakablfpaa", sum := "073a60951e20c9f52de18a9fa51ac060c844b050910cefc421ec399db31d6c28", func := "portage/portagelaw08.RecvNil", spec := "recvNil", unfollowed := true, recurses := true, apart := false, narrowed := true }
def RecvNilUptoSaid : Prop := recvNilUptoRow.holds Try.pinned (OpenSpec.upto recvNilSpec)

/-- 'portagelaw08.RecvOrder', WHERE WHAT IT READS IS OF BULK AT MOST 1048576: true; the input reads as it did. -/
def recvOrderUptoRow : OpenClaim := { program := "ytagbaoakablfpaa", sum := "073a60951e20c9f52de18a9fa51ac060c844b050910cefc421ec399db31d6c28", func := "portage/portagelaw08.RecvOrder", spec := "recvOrder", unfollowed := true, recurses := true, apart := false, narrowed := true }
def RecvOrderUptoSaid : Prop := recvOrderUptoRow.holds Try.pinned (OpenSpec.upto recvOrderSpec)

/-- 'portagelaw08.RecvAll', WHERE WHAT IT READS IS OF BULK AT MOST 1048576: true; the input reads as it did. -/
def recvAllUptoRow : OpenClaim := { program := "ytagbaoakablfpaa", sum := "073a60951e20c9f52de18a9fa51ac060c844b050910cefc421ec399db31d6c28", func := "portage/portagelaw08.RecvAll", spec := "recvAll", unfollowed := true, recurses := true, apart := false, narrowed := true }
def RecvAllUptoSaid : Prop := recvAllUptoRow.holds Try.pinned (OpenSpec.upto recvAllSpec)

end Rows
end Go.Proofs.Ytagbaoakablfpaa
