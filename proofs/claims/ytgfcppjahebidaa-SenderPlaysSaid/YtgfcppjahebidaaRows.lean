/-
  No cell of these rows narrows 'for every input' (looked for: loops, veiled, ifaces, maps, wideKeys, modest, calm, conditions, laid).
  DERIVED. THE GIVEN ROWS OF THIS SEAT. 6 by the template 'for every input the law returns true; each argument reads behind the call as it read before'; 0 by the template 'total and deterministic' (their statements: YtgfcppjahebidaaTotals.lean).
  GIVEN WITH THE SEED: the statements are not yours to turn. If you find one false, say at which input.
  Laid BY PROGRAM, IN A SANDBOX (cutbox-rows.mjs): the forced cells as the released guide's own fill.sh prints them over the translation f17004aa16d75874… (all of the seat's roots in one cut). By AI agents, Wed Nov 11 2026. No macro, syntax, notation, axiom, sorry.
-/
import Derived.Test.YtgfcppjahebidaaChecked
import GoSem.Claim
import GoSem.ClaimJoined
import GoSem.ClaimMapViews
import Derived.JoinedTies
import Derived.KernelRfl
namespace Go.Proofs.Ytgfcppjahebidaa
/- THE CELL 'sum', in the pinned program and in every row, IS THE sha256 OF THE DUMP (.gsa) THAT YtgfcppjahebidaaProg.lean LOADS. Nothing in Lean hashes anything: it is a label: what it is worth is what the hold of that sum in a sandbox is worth. -/
noncomputable def Try.pinned : Pinned := { name := "ytgfcppjahebidaa", sum := "f17004aa16d758746e1be9f101522105f1ab43ef702c60d85e15bc6c9da632b3", checked := Try.checked }
namespace Rows
def none {H : Type} : Left H := { results := [], args := [] }

/-- 'portagelaw07.SenderRooms': WHATEVER THE INPUT: true; the input reads as it did. -/
def senderRoomsSpec : ChangeSpec := { name := "senderRooms", fn := fun _ => fun
  | [d1, d2] => { results := [.lit (.bool true)], args := [d1, d2] }
  | _ => none }
def senderRoomsRow : OpenClaim := { program := "ytgfcppjahebidaa", sum := "f17004aa16d758746e1be9f101522105f1ab43ef702c60d85e15bc6c9da632b3", func := "portage/portagelaw07.SenderRooms", spec := "senderRooms", apart := false }
def SenderRoomsSaid : Prop := senderRoomsRow.holds Try.pinned (OpenSpec.ofChange senderRoomsSpec)

/-- ITS FALSE NEIGHBOUR: 'it returns false'. Refute it at one input. -/
def senderRoomsWrong : ChangeSpec := { name := "senderRooms", fn := fun _ => fun
  | [d1, d2] => { results := [.lit (.bool false)], args := [d1, d2] }
  | _ => none }
def SenderRoomsWrongFalsely : Prop := senderRoomsRow.holds Try.pinned (OpenSpec.ofChange senderRoomsWrong)

/-- 'portagelaw07.SenderOrder': WHATEVER THE INPUT: true; the input reads as it did. -/
def senderOrderSpec : ChangeSpec := { name := "senderOrder", fn := fun _ => fun
  | [d1, d2] => { results := [.lit (.bool true)], args := [d1, d2] }
  | _ => none }
def senderOrderRow : OpenClaim := { program := "ytgfcppjahebidaa", sum := "f17004aa16d758746e1be9f101522105f1ab43ef702c60d85e15bc6c9da632b3", func := "portage/portagelaw07.SenderOrder", spec := "senderOrder", unfollowed := true, recurses := true, apart := false }
def SenderOrderSaid : Prop := senderOrderRow.holds Try.pinned (OpenSpec.ofChange senderOrderSpec)

/-- ITS FALSE NEIGHBOUR: 'it returns false'. Refute it at one input. -/
def senderOrderWrong : ChangeSpec := { name := "senderOrder", fn := fun _ => fun
  | [d1, d2] => { results := [.lit (.bool false)], args := [d1, d2] }
  | _ => none }
def SenderOrderWrongFalsely : Prop := senderOrderRow.holds Try.pinned (OpenSpec.ofChange senderOrderWrong)

/-- 'portagelaw07.SenderWhole': WHATEVER THE INPUT: true; the input reads as it did. -/
def senderWholeSpec : ChangeSpec := { name := "senderWhole", fn := fun _ => fun
  | [d1, d2] => { results := [.lit (.bool true)], args := [d1, d2] }
  | _ => none }
def senderWholeRow : OpenClaim := { program := "ytgfcppjahebidaa", sum := "f17004aa16d758746e1be9f101522105f1ab43ef702c60d85e15bc6c9da632b3", func := "portage/portagelaw07.SenderWhole", spec := "senderWhole", unfollowed := true, recurses := true, apart := false }
def SenderWholeSaid : Prop := senderWholeRow.holds Try.pinned (OpenSpec.ofChange senderWholeSpec)

/-- ITS FALSE NEIGHBOUR: 'it returns false'. Refute it at one input. -/
def senderWholeWrong : ChangeSpec := { name := "senderWhole", fn := fun _ => fun
  | [d1, d2] => { results := [.lit (.bool false)], args := [d1, d2] }
  | _ => none }
def SenderWholeWrongFalsely : Prop := senderWholeRow.holds Try.pinned (OpenSpec.ofChange senderWholeWrong)

/-- 'portagelaw07.SenderAgain': WHATEVER THE INPUT: true; the input reads as it did. -/
def senderAgainSpec : ChangeSpec := { name := "senderAgain", fn := fun _ => fun
  | [d1, d2] => { results := [.lit (.bool true)], args := [d1, d2] }
  | _ => none }
def senderAgainRow : OpenClaim := { program := "ytgfcppjahebidaa", sum := "f17004aa16d758746e1be9f101522105f1ab43ef702c60d85e15bc6c9da632b3", func := "portage/portagelaw07.SenderAgain", spec := "senderAgain", unfollowed := true, recurses := true, apart := false }
def SenderAgainSaid : Prop := senderAgainRow.holds Try.pinned (OpenSpec.ofChange senderAgainSpec)

/-- ITS FALSE NEIGHBOUR: 'it returns false'. Refute it at one input. -/
def senderAgainWrong : ChangeSpec := { name := "senderAgain", fn := fun _ => fun
  | [d1, d2] => { results := [.lit (.bool false)], args := [d1, d2] }
  | _ => none }
def SenderAgainWrongFalsely : Prop := senderAgainRow.holds Try.pinned (OpenSpec.ofChange senderAgainWrong)

/-- 'portagelaw07.SenderPlays': WHATEVER THE INPUT: true; the input reads as it did. -/
def senderPlaysSpec : ChangeSpec := { name := "senderPlays", fn := fun _ => fun
  | [d1, d2] => { results := [.lit (.bool true)], args := [d1, d2] }
  | _ => none }
def senderPlaysRow : OpenClaim := { program := "ytgfcppjahebidaa", sum := "f17004aa16d758746e1be9f101522105f1ab43ef702c60d85e15bc6c9da632b3", func := "portage/portagelaw07.SenderPlays", spec := "senderPlays", unfollowed := true, recurses := true, apart := false }
def SenderPlaysSaid : Prop := senderPlaysRow.holds Try.pinned (OpenSpec.ofChange senderPlaysSpec)

/-- ITS FALSE NEIGHBOUR: 'it returns false'. Refute it at one input. -/
def senderPlaysWrong : ChangeSpec := { name := "senderPlays", fn := fun _ => fun
  | [d1, d2] => { results := [.lit (.bool false)], args := [d1, d2] }
  | _ => none }
def SenderPlaysWrongFalsely : Prop := senderPlaysRow.holds Try.pinned (OpenSpec.ofChange senderPlaysWrong)

/-- 'portagelaw07.SenderNil': WHATEVER THE INPUT: true; the input reads as it did. -/
def senderNilSpec : ChangeSpec := { name := "senderNil", fn := fun _ => fun
  | [d] => { results := [.lit (.bool true)], args := [d] }
  | _ => none }
def senderNilRow : OpenClaim := { program := "ytgfcppjahebidaa", sum := "f17004aa16d758746e1be9f101522105f1ab43ef702c60d85e15bc6c9da632b3", func := "portage/portagelaw07.SenderNil", spec := "senderNil", unfollowed := true, recurses := true, apart := false }
def SenderNilSaid : Prop := senderNilRow.holds Try.pinned (OpenSpec.ofChange senderNilSpec)

/-- ITS FALSE NEIGHBOUR: 'it returns false'. Refute it at one input. -/
def senderNilWrong : ChangeSpec := { name := "senderNil", fn := fun _ => fun
  | [d] => { results := [.lit (.bool false)], args := [d] }
  | _ => none }
def SenderNilWrongFalsely : Prop := senderNilRow.holds Try.pinned (OpenSpec.ofChange senderNilWrong)

/- THE SECOND FORM. 'bulk': how many values and letters a reading holds, each counted each time it is reached (what is shared counts as often as it is met; a slice's spare places count too). A statement '..UptoSaid' is the law's where the arguments, and the package variables that the reading takes, are together of bulk at most 1048576: NARROWER than '..Said'. Prove '..Said' where nothing that the law and all that it calls make is longer than what came in: it says more and counts as full. Else prove '..UptoSaid'. A law counts once. -/
mutual
def uptoBulk {H : Type} : DataW H → Nat
  | .lit (.string bytes) => bytes.length + 1
  | .lit _ => 1
  | .nil => 1
  | .ptr d => uptoBulk d + 1
  | .slice elems spare => uptoBulkAll elems + uptoBulkAll spare + 1
  | .agg parts => uptoBulkAll parts + 1
  | .iface _ d => uptoBulk d + 1
  | .map entries => uptoBulkEntries entries + 1
  | .held _ => 1
def uptoBulkAll {H : Type} : List (DataW H) → Nat
  | [] => 0
  | d :: r => uptoBulk d + uptoBulkAll r
def uptoBulkEntries {H : Type} : List (Lit × DataW H) → Nat
  | [] => 0
  | x :: r => uptoBulkEntry x + uptoBulkEntries r
def uptoBulkEntry {H : Type} : Lit × DataW H → Nat
  | (.string bytes, d) => bytes.length + uptoBulk d + 1
  | (_, d) => uptoBulk d + 1
 end
def uptoSmall : (H : Type) → List (DataW H) → Bool := fun _ ds => decide (uptoBulkAll ds ≤ 1048576)
def OpenSpec.upto (s : _root_.Go.ChangeSpec) : _root_.Go.OpenSpec := { _root_.Go.OpenSpec.ofChange s with cond := some uptoSmall }

/-- 'portagelaw07.SenderRooms', WHERE WHAT IT READS IS OF BULK AT MOST 1048576: true; the input reads as it did. -/
def senderRoomsUptoRow : OpenClaim := { program := "ytgfcppjahebidaa", sum := "f17004aa16d758746e1be9f101522105f1ab43ef702c60d85e15bc6c9da632b3", func := "portage/portagelaw07.SenderRooms", spec := "senderRooms", apart := false, narrowed := true }
def SenderRoomsUptoSaid : Prop := senderRoomsUptoRow.holds Try.pinned (OpenSpec.upto senderRoomsSpec)

/-- 'portagelaw07.SenderOrder', WHERE WHAT IT READS IS OF BULK AT MOST 1048576: true; the input reads as it did. -/
def senderOrderUptoRow : OpenClaim := { program := "ytgfcppjahebidaa", sum := "f17004aa16d758746e1be9f101522105f1ab43ef702c60d85e15bc6c9da632b3", func := "portage/portagelaw07.SenderOrder", spec := "senderOrder", unfollowed := true, recurses := true, apart := false, narrowed := true }
def SenderOrderUptoSaid : Prop := senderOrderUptoRow.holds Try.pinned (OpenSpec.upto senderOrderSpec)

/-- 'portagelaw07.SenderWhole', WHERE WHAT IT READS IS OF BULK AT MOST 1048576: true; the input reads as it did. -/
def senderWholeUptoRow : OpenClaim := { program := "ytgfcppjahebidaa", sum := "f17004aa16d758746e1be9f101522105f1ab43ef702c60d85e15bc6c9da632b3", func := "portage/portagelaw07.SenderWhole", spec := "senderWhole", unfollowed := true, recurses := true, apart := false, narrowed := true }
def SenderWholeUptoSaid : Prop := senderWholeUptoRow.holds Try.pinned (OpenSpec.upto senderWholeSpec)

/-- 'portagelaw07.SenderAgain', WHERE WHAT IT READS IS OF BULK AT MOST 1048576: true; the input reads as it did. -/
def senderAgainUptoRow : OpenClaim := { program := "ytgfcppjahebidaa", sum := "f17004aa16d758746e1be9f101522105f1ab43ef702c60d85e15bc6c9da632b3", func := "portage/portagelaw07.SenderAgain", spec := "senderAgain", unfollowed := true, recurses := true, apart := false, narrowed := true }
def SenderAgainUptoSaid : Prop := senderAgainUptoRow.holds Try.pinned (OpenSpec.upto senderAgainSpec)

/-- 'portagelaw07.SenderPlays', WHERE WHAT IT READS IS OF BULK AT MOST 1048576: true; the input reads as it did. -/
def senderPlaysUptoRow : OpenClaim := { program := "ytgfcppjahebidaa", sum := "f17004aa16d758746e1be9f101522105f1ab43ef702c60d85e15bc6c9da632b3", func := "portage/portagelaw07.SenderPlays", spec := "senderPlays", unfollowed := true, recurses := true, apart := false, narrowed := true }
def SenderPlaysUptoSaid : Prop := senderPlaysUptoRow.holds Try.pinned (OpenSpec.upto senderPlaysSpec)

/-- 'portagelaw07.SenderNil', WHERE WHAT IT READS IS OF BULK AT MOST 1048576: true; the input reads as it did. -/
def senderNilUptoRow : OpenClaim := { program := "ytgfcppjahebidaa", sum := "f17004aa16d758746e1be9f101522105f1ab43ef702c60d85e15bc6c9da632b3", func := "portage/portagelaw07.SenderNil", spec := "senderNil", unfollowed := true, recurses := true, apart := false, narrowed := true }
def SenderNilUptoSaid : Prop := senderNilUptoRow.holds Try.pinned (OpenSpec.upto senderNilSpec)

end Rows
end Go.Proofs.Ytgfcppjahebidaa
