/- 'palaverlaw05.LogKnown': the law answers true. -/
import Derived.Test.YtlopfabbjilpnaaGreatDoorLogW
import Derived.Test.YtlopfabbjilpnaaGreatDoorDoor
set_option linter.unusedSimpArgs false
set_option linter.unusedVariables false
namespace Go.Proofs.YtlopfabbjilpnaaGreatDoor
open Go.RowKit

def big : Bytes := List.replicate 1024 0
theorem seg_dec {n : Bytes} (h : (!isSeg n || (match Lib.parseUintB 32 (n.drop 1) with | .ok _ => true | _ => false)) = true) : isSeg n = true → ∃ u, Lib.parseUintB 32 (n.drop 1) = .ok u := by
  intro hs
  rw [hs] at h
  simp only [Bool.not_true, Bool.false_or] at h
  split at h
  · exact ⟨_, ‹_›⟩
  · cases h
set_option maxRecDepth 100000 in
theorem kn_ex : ∃ D1 D2 D3 D4 D5 D6 D7 D8 D9 D10 D11 D12 D13 D14 D15 D16 D17 D18 : ADisk, (addD newD big = (0, D1) ∧ nextSeg newD < 100) ∧ (addD D1 big = (0, D2) ∧ nextSeg D1 < 100) ∧ (addD D2 big = (0, D3) ∧ nextSeg D2 < 100) ∧ (logSyncD D3 = (0, D4)) ∧ (appendD D4 [116, 48, 48, 48, 48, 48, 48, 48, 49] [106, 117, 110, 107] = (0, D5)) ∧ (appendD D5 [115, 49] [106, 117, 110, 107] = (0, D6)) ∧ (appendD D6 [115, 48, 48, 48, 48, 48, 48, 48, 48, 52] [106, 117, 110, 107] = (0, D7)) ∧ (appendD D7 [115, 48, 48, 48, 48, 48, 48, 48, 48] [106, 117, 110, 107] = (0, D8)) ∧ (openD D8 = (0, [big, big, big], D9) ∧ D8.dead = false) ∧ (appendD D9 [115, 48, 48, 48, 48, 48, 48, 48, 52] [7] = (0, D10)) ∧ (openD D10 = (0, [big, big, big], D11) ∧ D10.dead = false) ∧ (appendD D11 [115, 48, 48, 48, 48, 48, 48, 48, 54] [] = (0, D12)) ∧ (openD D12 = (10, [], D13) ∧ D12.dead = false) ∧ (removeD D13 [115, 48, 48, 48, 48, 48, 48, 48, 54] = (0, D14)) ∧ (appendD D14 [115, 48, 48, 48, 48, 48, 48, 48, 53] [] = (0, D15)) ∧ (openD D15 = (0, [big, big, big], D16) ∧ D15.dead = false) ∧ (appendD D16 [115, 48, 48, 48, 48, 48, 48, 48, 52] [120] = (0, D17)) ∧ (openD D17 = (10, [], D18) ∧ D17.dead = false) ∧ D3.files.map (fun f => (f.name, f.synced)) = [([115, 48, 48, 48, 48, 48, 48, 48, 49], 1035), ([115, 48, 48, 48, 48, 48, 48, 48, 50], 1035), ([115, 48, 48, 48, 48, 48, 48, 48, 51], 0)] ∧ (segsF D3.files).length = 3 := by
  refine ⟨_, _, _, _, _, _, _, _, _, _, _, _, _, _, _, _, _, _, ⟨Prod.ext (by decide +kernel) rfl, by decide +kernel⟩, ⟨Prod.ext (by decide +kernel) rfl, by decide +kernel⟩, ⟨Prod.ext (by decide +kernel) rfl, by decide +kernel⟩, Prod.ext (by decide +kernel) rfl, Prod.ext (by decide +kernel) rfl, Prod.ext (by decide +kernel) rfl, Prod.ext (by decide +kernel) rfl, Prod.ext (by decide +kernel) rfl, ⟨Prod.ext (by decide +kernel) (Prod.ext (by decide +kernel) rfl), by decide +kernel⟩, Prod.ext (by decide +kernel) rfl, ⟨Prod.ext (by decide +kernel) (Prod.ext (by decide +kernel) rfl), by decide +kernel⟩, Prod.ext (by decide +kernel) rfl, ⟨Prod.ext (by decide +kernel) (Prod.ext (by decide +kernel) rfl), by decide +kernel⟩, Prod.ext (by decide +kernel) rfl, Prod.ext (by decide +kernel) rfl, ⟨Prod.ext (by decide +kernel) (Prod.ext (by decide +kernel) rfl), by decide +kernel⟩, Prod.ext (by decide +kernel) rfl, ⟨Prod.ext (by decide +kernel) (Prod.ext (by decide +kernel) rfl), by decide +kernel⟩, by decide +kernel, by decide +kernel⟩
end Go.Proofs.YtlopfabbjilpnaaGreatDoor
