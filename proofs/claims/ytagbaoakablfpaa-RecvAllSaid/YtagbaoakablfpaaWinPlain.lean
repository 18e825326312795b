/- Plain facts about numbers that go round (mod 128); no program in sight. Conditions: none. -/
import Derived.Laws.BitsAllLaws
import Derived.IntWalk
namespace Go.Proofs.Ytagbaoakablfpaa
open Go

/-- The lowest seven bits of any int are its rest by 128. -/
theorem and127 (n : Int) : bits .and .i64 n 127 = n % 128 := by
  show IntKind.i64.wrap ((BitVec.ofInt 64 n &&& BitVec.ofInt 64 127).toNat : Int) = _
  rw [BitVec.toNat_and]
  have h : (BitVec.ofInt 64 127).toNat = 127 := by decide
  rw [h, nat_mask7, BitVec.toNat_ofInt]
  have e : ((((n % ((2^64 : Nat) : Int)).toNat % 128 : Nat)) : Int) = n % 128 := by omega
  rw [e, IntWalk.i64_in _ (by omega)]

end Go.Proofs.Ytagbaoakablfpaa
