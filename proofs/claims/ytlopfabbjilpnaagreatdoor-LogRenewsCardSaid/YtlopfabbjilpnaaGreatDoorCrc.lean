/- Package crc: the checksum's steps; what a checksum is. -/
import Derived.Test.YtlopfabbjilpnaaGreatDoorLib
import Derived.Test.YtlopfabbjilpnaaGreatDoorProg
set_option linter.unusedSimpArgs false
set_option linter.unusedVariables false
namespace Go.Proofs.YtlopfabbjilpnaaGreatDoor
open Go.RowKit

def crcStep (n : Nat) : Nat := if n % 2 = 1 then (n / 2) ^^^ 14514072000185962306 else n / 2
def crcIter : Nat → Nat → Nat
  | 0, n => n
  | k + 1, n => crcStep (crcIter k n)
def crc8 (n : Nat) : Nat := crcIter 8 n
def compl (n : Nat) : Nat := 18446744073709551615 - n
def crcRun (l : Bytes) (n : Nat) : Nat := l.foldl (fun n c => crc8 (n ^^^ c.toNat)) n
def crcMore (n : Nat) (l : Bytes) : Nat := compl (crcRun l (compl n))
def crc (l : Bytes) : Nat := crcMore 0 l

theorem crcStep_lt (n : Nat) (h : n < 18446744073709551616) : crcStep n < 18446744073709551616 := by
  have h2 : n / 2 < 2 ^ 64 := Nat.lt_of_le_of_lt (Nat.div_le_self _ _) (by simpa using h)
  unfold crcStep
  split
  · have := Nat.xor_lt_two_pow h2 (show 14514072000185962306 < 2 ^ 64 by decide)
    simpa using this
  · simpa using h2
theorem crcIter_lt (n : Nat) (h : n < 18446744073709551616) : ∀ k, crcIter k n < 18446744073709551616
  | 0 => h
  | k + 1 => crcStep_lt _ (crcIter_lt n h k)
theorem and_one (m : Nat) (h : m < 18446744073709551616) : bits .and .u64 (m : Int) 1 = ((m % 2 : Nat) : Int) := by
  have := u64_and_nat m 1 h (by decide)
  rw [Nat.and_one_is_mod] at this
  exact this
theorem xor_poly (m : Nat) (h : m < 18446744073709551616) : bits .xor .u64 ((m : Int) / 2) 14514072000185962306 = (((m / 2) ^^^ 14514072000185962306 : Nat) : Int) := by
  have := u64_xor_nat (m / 2) 14514072000185962306 (Nat.lt_of_le_of_lt (Nat.div_le_self _ _) h) (by decide)
  exact this

set_option maxRecDepth 100000 in
theorem eight_any (n : Nat) (w : World) (hn : n < 18446744073709551616) :
    Calls Tryz.prog 136 #[.int .u64 n] w fun e w' => e = .returned (.int .u64 (crc8 n)) ∧ w = w' := by
  have hH := Lib.hid hn
  clear hn
  go_enter Tryz.func136, Tryz.ntmps136
  go_wp2
  go_loop [0, 4] (fun m i => ∃ j : Nat, j ≤ 8 ∧ i = .int .i64 j ∧ m = .int .u64 (crcIter j n)) (fun _ i => 8 - (intOf i).toNat)
  case atStart => exact ⟨0, Nat.zero_le _, rfl, rfl⟩
  case round =>
    obtain ⟨j, hj, rfl, rfl⟩ := hrel
    have hlt := crcIter_lt n hH.out j
    by_cases hj8 : j < 8
    · by_cases hodd : crcIter j n % 2 = 1
      · have h1 : (bits BinOp.and IntKind.u64 (crcIter j n : Int) 1 == 1) = true := by rw [and_one _ hlt, hodd]; rfl
        have h2 := Lib.hid (xor_poly _ hlt)
        have h3 := Lib.hid (show crcIter (j + 1) n = (crcIter j n / 2) ^^^ 14514072000185962306 by simp [crcIter, crcStep, hodd])
        clear hlt hodd
        go_wp2
        go_round
        case rel => exact ⟨j + 1, by omega, by go_num, by rw [h2.out, h3.out]⟩
        case measure => simp only [intOf]; omega
      · have h1 : (bits BinOp.and IntKind.u64 (crcIter j n : Int) 1 == 1) = false := by
          rw [and_one _ hlt]
          have : crcIter j n % 2 = 0 := by omega
          rw [this]; rfl
        have h3 := Lib.hid (show crcIter (j + 1) n = crcIter j n / 2 by simp [crcIter, crcStep, hodd])
        clear hlt hodd
        go_wp2
        go_round
        case rel => exact ⟨j + 1, by omega, by go_num, by rw [h3.out]; rfl⟩
        case measure => simp only [intOf]; omega
    · obtain rfl : j = 8 := by omega
      clear hlt
      go_wp2
      go_ret
      exact ⟨rfl, rfl⟩

theorem crcRun_lt : ∀ (l : Bytes) (n : Nat), n < 18446744073709551616 → crcRun l n < 18446744073709551616
  | [], _, h => h
  | c :: l, n, h => crcRun_lt l _ (crcIter_lt _ (by
      have hc : c.toNat < 2 ^ 64 := Nat.lt_trans c.toNat_lt (by decide)
      have := Nat.xor_lt_two_pow (show n < 2 ^ 64 by simpa using h) hc
      simpa using this) 8)
theorem crcRun_snoc (l : Bytes) (c : UInt8) (n : Nat) : crcRun (l ++ [c]) n = crc8 (crcRun l n ^^^ c.toNat) := by simp [crcRun]
theorem compl_lt (n : Nat) : compl n < 18446744073709551616 := by unfold compl; exact Nat.lt_succ_of_le (Nat.sub_le _ _)
theorem crcMore_lt (n : Nat) (l : Bytes) : crcMore n l < 18446744073709551616 := compl_lt _
theorem crc_lt (l : Bytes) : crc l < 18446744073709551616 := compl_lt _
theorem xor_byte (m : Nat) (c : UInt8) (h : m < 18446744073709551616) : bits .xor .u64 (m : Int) (c.toNat : Int) = ((m ^^^ c.toNat : Nat) : Int) :=
  u64_xor_nat m c.toNat h (Nat.lt_trans c.toNat_lt (by decide))
theorem xor_byte_lt (m : Nat) (c : UInt8) (h : m < 18446744073709551616) : m ^^^ c.toNat < 18446744073709551616 := by
  have hc : c.toNat < 2 ^ 64 := Nat.lt_trans c.toNat_lt (by decide)
  have := Nat.xor_lt_two_pow (show m < 2 ^ 64 by simpa using h) hc
  simpa using this

theorem xor_max (n : Nat) (h : n < 2 ^ 64) : (2 ^ 64 - 1) ^^^ n = 2 ^ 64 - 1 - n := by
  rw [show 2 ^ 64 - 1 - n = 2 ^ 64 - (n + 1) by omega]
  apply Nat.eq_of_testBit_eq
  intro i
  rw [Nat.testBit_xor, Nat.testBit_two_pow_sub_one, Nat.testBit_two_pow_sub_succ h]
  by_cases hi : i < 64
  · simp [hi]
  · have : n.testBit i = false := Nat.testBit_lt_two_pow (Nat.lt_of_lt_of_le h (Nat.pow_le_pow_right (by decide) (by omega)))
    simp [hi, this]
theorem not_u64 (n : Nat) (h : n < 18446744073709551616) : bits .xor .u64 IntKind.u64.max (n : Int) = ((compl n : Nat) : Int) := by
  have h1 := u64_xor_nat 18446744073709551615 n (by decide) h
  have h2 := xor_max n (by simpa using h)
  have h3 : (18446744073709551615 : Nat) ^^^ n = compl n := by simpa [compl] using h2
  rw [h3] at h1
  exact h1

set_option maxRecDepth 100000 in
theorem More_any (n : Nat) (l : Bytes) (w : World) (hn : n < 18446744073709551616) (hl : l.length ≤ 4611686018427380000) :
    Calls Tryz.prog 114 #[.int .u64 n, .string (ba l)] w fun e w' => e = .returned (.int .u64 (crcMore n l)) ∧ w = w' := by
  have hH := Lib.hid hn
  have hn1 := Lib.hid (not_u64 n hn)
  clear hn
  go_enter Tryz.func114, Tryz.ntmps114
  go_wp2
  go_loop [5, 11] (fun m i => ∃ j : Nat, j ≤ l.length ∧ i = .int .i64 j ∧ m = .int .u64 (crcRun (l.take j) (compl n))) (fun _ i => l.length - (intOf i).toNat)
  case atStart => exact ⟨0, Nat.zero_le _, rfl, by rw [hn1.out]; rfl⟩
  case round =>
    obtain ⟨j, hj, rfl, rfl⟩ := hrel
    have hlt := crcRun_lt (l.take j) _ (compl_lt n)
    by_cases hjl : j < l.length
    · have hc := l[j].toNat_lt
      have hx := Lib.hid (xor_byte _ l[j] hlt)
      have he := Lib.hid (xor_byte_lt _ l[j] hlt)
      have hs := Lib.hid (show crcRun (l.take (j + 1)) (compl n) = crc8 (crcRun (l.take j) (compl n) ^^^ l[j].toNat) by rw [List.take_succ_eq_append_getElem hjl, crcRun_snoc])
      clear hlt
      go_wp2_with (go_at_call 136; rw [hx.out]; refine (eight_any _ _ he.out).mono ?_; rintro e w' ⟨rfl, rfl⟩)
      go_round
      case rel => exact ⟨j + 1, by omega, by go_num, by rw [hs.out]⟩
      case measure => simp only [intOf]; omega
    · obtain rfl : j = l.length := by omega
      rw [List.take_length] at hlt ⊢
      have hx := Lib.hid (not_u64 _ hlt)
      clear hlt
      go_wp2
      go_ret
      exact ⟨by rw [← show crcMore n l = compl (crcRun l (compl n)) from rfl] at hx; exact ret_int hx.out, rfl⟩

theorem Sum_any (l : Bytes) (w : World) (hl : l.length ≤ 4611686018427380000) :
    Calls Tryz.prog 85 #[.string (ba l)] w fun e w' => e = .returned (.int .u64 (crc l)) ∧ w = w' := by
  have ht := More_any 0 l w (by decide) hl
  go_enter Tryz.func85, Tryz.ntmps85
  go_wp2_with (go_at_call 114; refine ht.mono ?_; rintro e w' ⟨rfl, rfl⟩)
  go_ret
  exact ⟨rfl, rfl⟩
end Go.Proofs.YtlopfabbjilpnaaGreatDoor
