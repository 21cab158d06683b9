/- Package log: steps: functions, one behind the other, up to the first one that errs. -/
import Derived.Test.YtlopfabbjilpnaaGreatDoorLogC
set_option linter.unusedSimpArgs false
set_option linter.unusedVariables false
namespace Go.Proofs.YtlopfabbjilpnaaGreatDoor
open Go.RowKit

/-- A function value that does a step. -/
def StepV (v : Value) (Pre : World → Prop) (Post : Int → World → Prop) : Prop :=
  ∃ g fr en, v = .func (.func g) fr en ∧ (∀ args w, (callFunc g args).run Tryz.prog w = .ok (.enter g args) w) ∧
    ∀ W, Pre W → Calls Tryz.prog g (fr ++ en) W fun e W' => ∃ k : Int, e = .returned (.int .i64 k) ∧ Post k W'

set_option maxRecDepth 100000 in
set_option maxHeartbeats 1000000 in
theorem steps_any (g c : Nat) (cur : Array Value) (T : TypeId) (fz : Nat × Nat) (n : Nat) (hn : n ≤ 100) (P : Nat → World → Prop) (Bad : Int → World → Prop)
    (hP : ∀ i W, P i W → W.heap[g]? = some (.cells cur T fz))
    (hs : ∀ i, i < n → ∃ v, cur[i]? = some v ∧ StepV v (P i) (fun k W => (k ≠ 0 → Bad k W) ∧ (k = 0 → P (i + 1) W))) (w : World) (h0 : P 0 w) :
    Calls Tryz.prog 59 #[.slice (some ⟨g, 0, none⟩) n c] w fun e w' => ∃ k : Int, e = .returned (.int .i64 k) ∧ (k ≠ 0 → Bad k w') ∧ (k = 0 → P n w') := by
  go_enter Tryz.func59, Tryz.ntmps59
  go_wp2
  go_loopw [4, 5, 8] (fun _ _ p wr => ∃ i : Nat, p = .int .i64 i ∧ i ≤ n ∧ P i wr) (fun _ _ p _ => n - (intOf p).toNat)
  case atStart => exact ⟨0, rfl, Nat.zero_le _, h0⟩
  case round =>
    obtain ⟨i, rfl, hi, hPi⟩ := hrel
    have hg := hP _ _ hPi
    by_cases hil : i < n
    · obtain ⟨v, hv, gf, fr, en, rfl, henter, hcall⟩ := hs i hil
      have hc := hcall _ hPi
      have HI := Lib.hid hil
      clear hs hP hcall h0
      go_wp2_with (refine hc.mono ?_; rintro e W' ⟨k, rfl, hk1, hk2⟩)
      · go_ret
        exact ⟨k, rfl, hk1, fun h => by simp_all⟩
      · refine ⟨⟨i + 1, by simp, HI.out, hk2 (by first | assumption | rfl | simp_all)⟩, ?_⟩
        have := HI.out
        simp only [intOf]; omega
    · obtain rfl : i = n := by omega
      clear hs hP
      go_wp2
      go_ret
      exact ⟨0, rfl, fun h => absurd rfl h, fun _ => hPi⟩
end Go.Proofs.YtlopfabbjilpnaaGreatDoor
