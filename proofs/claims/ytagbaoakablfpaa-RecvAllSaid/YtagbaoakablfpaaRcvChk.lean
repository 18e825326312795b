/- recv.check. Conditions: as they stand. -/
import Derived.BigQuiet
import Derived.Deep.QuietTactic
import Derived.Test.YtagbaoakablfpaaRcvKept
import Derived.Test.YtagbaoakablfpaaWin
namespace Go.Proofs.Ytagbaoakablfpaa
open Go.RowKit

theorem zero_bytes (w : World) : (zeroValue 32).run Try.prog w = .ok (.slice none 0 0) w := by kernel_rfl
theorem zero_int (w : World) : (zeroValue 3).run Try.prog w = .ok (.int .i64 0) w := by kernel_rfl

theorem quiet_same {P : Program} {f : FuncId} {args : Array Value} {w : World} {n : Nat} {v : Value} (h : Calls P f args (w.drewN n) fun e w' => e = .returned v ∧ w.drewN n = w') : Calls P f args (w.drewN n) fun e w'' => e = .returned v ∧ ∃ m, w'' = w.drewN m :=
  h.mono fun _ _ ⟨he, hm⟩ => ⟨he, n, hm.symm⟩
/-- What check says. -/
def Rcv.chk (r : Rcv) (ns : Int) (len : Nat) : Int := if ns < 0 ∨ 128 ≤ ns then 1 else if len = 0 then 2 else if 121 < len then 3 else if ¬ (ns - (r.waits : Int)) % 128 < (r.size : Int) then 7 else if ns ∈ r.keys then 5 else 0

set_option maxRecDepth 100000 in
set_option maxHeartbeats 1000000 in
theorem rccheck_nil (ns : Int) (v : Value) (w : World) :
    Calls Try.prog 25 #[.pointer none, .int .i64 ns, v] w fun e w' => e = .returned (.int .i64 7) ∧ w = w' := by
  go_enter Try.func25, Try.ntmps25
  go_wp2
  go_ret
  exact ⟨rfl, rfl⟩

set_option maxRecDepth 100000 in
set_option maxHeartbeats 1000000 in
theorem rccheck_any (C D : Nat → Prop) (a : Nat) (r : Rcv) (ns : Int) (ao : Option Addr) (n cap : Nat) (w : World) (hs : RcvAt C D w a r) :
    Calls Try.prog 25 #[.pointer (some ⟨a, 0, none⟩), .int .i64 ns, .slice ao n cap] w fun e w' => e = .returned (.int .i64 (r.chk ns n)) ∧ ∃ k, w' = w.drewN k := by
  obtain ⟨mb, ab, fk, _, _, _, hne, hb, hM, _, hkeys, _⟩ := hs
  obtain ⟨es, clock, hmb, hE⟩ := hM
  obtain ⟨c0, c1, c2, c3⟩ := rc_cells hb
  have w0 : ∃ k, w = w.drewN k := ⟨0, rfl⟩
  by_cases h1 : ns < 0
  · have e : r.chk ns n = 1 := by unfold Rcv.chk; rw [if_pos (.inl h1)]
    rw [e]
    clear e hb hE
    go_enter Try.func25, Try.ntmps25
    go_wp2
    go_ret
    exact ⟨rfl, w0⟩
  · by_cases h2 : 128 ≤ ns
    · have e : r.chk ns n = 1 := by unfold Rcv.chk; rw [if_pos (.inr h2)]
      rw [e]
      clear e hb hE
      go_enter Try.func25, Try.ntmps25
      go_wp2
      go_ret
      exact ⟨rfl, w0⟩
    · have h12 : ¬ (ns < 0 ∨ 128 ≤ ns) := by omega
      by_cases h3 : n = 0
      · have e : r.chk ns n = 2 := by unfold Rcv.chk; rw [if_neg h12, if_pos h3]
        rw [e]
        clear e hb hE
        subst h3
        go_enter Try.func25, Try.ntmps25
        go_wp2
        go_ret
        exact ⟨rfl, w0⟩
      · have h3' : ((n : Int) == 0) = false := beq_eq_false_iff_ne.2 (by omega)
        by_cases h4 : 121 < n
        · have e : r.chk ns n = 3 := by unfold Rcv.chk; rw [if_neg h12, if_neg h3, if_pos h4]
          have h4' : (121 : Int) < (n : Int) := by omega
          rw [e]
          clear e hb hE
          go_enter Try.func25, Try.ntmps25
          go_wp2
          go_ret
          exact ⟨rfl, w0⟩
        · have h4' : ¬ (121 : Int) < (n : Int) := by omega
          by_cases h5 : (ns - (r.waits : Int)) % 128 < (r.size : Int)
          · have hd : decide ((ns - (r.waits : Int)) % 128 < (r.size : Int)) = true := decide_eq_true h5
            have hkm : ns ∈ r.keys ↔ ns ∈ fk.map (·.1) := by rw [hkeys]; rfl
            have hlk := fun W : World => fun hW : W.heap[mb]? = some (.map es clock) => run_lookup_map (P := Try.prog) (w := W) (t := 54) Try.underlying54 Try.underlying3 (zero_bytes W) hW hE ns true
            cases hp : pos fk ns with
            | none =>
              have hnk : ns ∉ r.keys := fun h => pos_none hp (hkm.1 h)
              have e : r.chk ns n = 0 := by unfold Rcv.chk; rw [if_neg h12, if_neg h3, if_neg h4, if_neg (fun h => h h5), if_neg hnk]
              rw [e]
              simp only [hp] at hlk
              clear e hb hE hp h5 hnk hkm hkeys h12
              go_enter Try.func25, Try.ntmps25
              go_wp2_with fail
              go_quiet ((go_at_call 35; exact quiet_same (in_any _ _ _ _)))
              rw [hd]
              have c2' : (w.drewN nq).cell? ⟨a, 2, none⟩ = some (.map (some mb)) := c2
              have hl := hlk (w.drewN nq) hmb
              go_wp2
              go_ret
              exact ⟨rfl, nq, rfl⟩
            | some y =>
              have hyk : ns ∈ r.keys := by
                rw [hkm]
                exact List.mem_map.2 ⟨_, List.mem_of_getElem? (pos_some (j := y.1) (v := y.2) hp), rfl⟩
              have e : r.chk ns n = 5 := by unfold Rcv.chk; rw [if_neg h12, if_neg h3, if_neg h4, if_neg (fun h => h h5), if_pos hyk]
              rw [e]
              simp only [hp] at hlk
              clear e hb hE hp h5 hyk hkm hkeys h12
              go_enter Try.func25, Try.ntmps25
              go_wp2_with fail
              go_quiet ((go_at_call 35; exact quiet_same (in_any _ _ _ _)))
              rw [hd]
              have c2' : (w.drewN nq).cell? ⟨a, 2, none⟩ = some (.map (some mb)) := c2
              have hl := hlk (w.drewN nq) hmb
              go_wp2
              go_ret
              exact ⟨rfl, nq, rfl⟩
          · have hd : decide ((ns - (r.waits : Int)) % 128 < (r.size : Int)) = false := decide_eq_false h5
            have e : r.chk ns n = 7 := by unfold Rcv.chk; rw [if_neg h12, if_neg h3, if_neg h4, if_pos h5]
            rw [e]
            clear e hb hE h5
            go_enter Try.func25, Try.ntmps25
            go_wp2_with fail
            go_quiet ((go_at_call 35; exact quiet_same (in_any _ _ _ _)))
            rw [hd]
            go_wp2
            go_ret
            exact ⟨rfl, nq, rfl⟩

end Go.Proofs.Ytagbaoakablfpaa
