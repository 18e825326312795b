/- What the bound of the second form says of an argument that is a slice. Conditions: none. -/
import Derived.Test.YtaembdlidaogdaaRows
import Derived.JoinedCond
import Derived.Deep.CondSized
namespace Go.Proofs.Ytaembdlidaogdaa
open Go

theorem bulk_one {H : Type} (d : DataW H) : 1 ≤ Rows.uptoBulk d := by
  cases d <;> first | (simp [Rows.uptoBulk]; done) | (rename_i l; cases l <;> simp [Rows.uptoBulk])
theorem bulk_count {H : Type} (l : List (DataW H)) : l.length ≤ Rows.uptoBulkAll l := by
  induction l with
  | nil => exact Nat.zero_le _
  | cons d l ih =>
    rw [Rows.uptoBulkAll, List.length_cons]
    have := bulk_one d
    omega
theorem bulk_mem {H : Type} {d : DataW H} {l : List (DataW H)} (h : d ∈ l) : Rows.uptoBulk d ≤ Rows.uptoBulkAll l := by
  induction l with
  | nil => cases h
  | cons e l ih =>
    rw [Rows.uptoBulkAll]
    rcases List.mem_cons.1 h with rfl | h
    · omega
    · have := ih h; omega
theorem bulk_all {H : Type} {l : List (DataW H)} (h : Rows.uptoSmall H l = true) : Rows.uptoBulkAll l ≤ 1048576 := of_decide_eq_true h
/-- A slice that is an argument: its places. -/
theorem bulk_slice {H : Type} {l : List (DataW H)} (h : Rows.uptoSmall H l = true) {el sp : List (DataW H)} (hm : DataW.slice el sp ∈ l) : el.length + sp.length ≤ 1048575 := by
  have h1 := bulk_all h
  have h2 := bulk_mem hm
  rw [Rows.uptoBulk] at h2
  have h3 := bulk_count el
  have h4 := bulk_count sp
  omega
theorem bulk_reach {n : Nat} (h : n ≤ 1048575) : n * 134217727 ≤ reachBytes := by unfold reachBytes; omega

end Go.Proofs.Ytaembdlidaogdaa
