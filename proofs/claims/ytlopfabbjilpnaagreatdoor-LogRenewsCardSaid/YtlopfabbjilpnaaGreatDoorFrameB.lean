/- Package frame: a frame taken off the head of a text. -/
import Derived.Test.YtlopfabbjilpnaaGreatDoorFrameA
set_option linter.unusedSimpArgs false
set_option linter.unusedVariables false
namespace Go.Proofs.YtlopfabbjilpnaaGreatDoor
open Go.RowKit

/-- A number of bytes, the first one the least. -/
def leN : Bytes → Nat
  | [] => 0
  | c :: l => c.toNat + 256 * leN l

/-- The error of the length's reading; none is a length of 0. -/
def takeE (s : Bytes) : Int := if (belowR 0 s 65537).1 = 0 then badE (belowR 0 s 65537).2.1 else (belowR 0 s 65537).2.1
def takeF (s : Bytes) : Bytes × Nat × Int :=
  if takeE s ≠ 0 then ([], 0, takeE s)
  else if (belowR 0 s 65537).2.2.length < 8 + (belowR 0 s 65537).1 then ([], 0, 3)
  else if crc (((belowR 0 s 65537).2.2.drop 8).take (belowR 0 s 65537).1) ≠ leN ((belowR 0 s 65537).2.2.take 8) then ([], 0, 5)
  else (((belowR 0 s 65537).2.2.drop 8).take (belowR 0 s 65537).1, s.length - ((belowR 0 s 65537).2.2.length - 8) + (belowR 0 s 65537).1, 0)

theorem belowR_lt (e : Int) (l : Bytes) (n : Nat) (hn : 0 < n) : (belowR e l n).1 < n := by
  unfold belowR
  split
  · exact hn
  · split
    · exact hn
    · omega

theorem leN_snoc : ∀ (l : Bytes) (c : UInt8), leN (l ++ [c]) = leN l + c.toNat * 256 ^ l.length
  | [], c => by simp [leN]
  | d :: l, c => by
    simp only [List.cons_append, leN, leN_snoc l c, List.length_cons, Nat.pow_succ, Nat.mul_add]
    rw [Nat.mul_left_comm, Nat.mul_comm 256, Nat.add_assoc, Nat.mul_comm 256]
theorem leN_lt : ∀ l : Bytes, leN l < 256 ^ l.length
  | [] => by simp [leN]
  | c :: l => by
    have := leN_lt l
    have hc := c.toNat_lt
    simp only [leN, List.length_cons, Nat.pow_succ]
    omega
theorem or_le (a c j : Nat) (ha : a < 256 ^ j) (hc : c < 256) (hj : j < 8) :
    bits .or .u64 (a : Int) ((c * 2 ^ (8 * j) : Nat) : Int) = ((a + c * 256 ^ j : Nat) : Int) := by
  have hp : (256 : Nat) ^ j = 2 ^ (8 * j) := by rw [Nat.pow_mul]
  have h7 : (2 : Nat) ^ (8 * j) ≤ 2 ^ 56 := Nat.pow_le_pow_right (by decide) (by omega)
  have h8 : c * 2 ^ (8 * j) ≤ 255 * 2 ^ 56 := Nat.mul_le_mul (by omega) h7
  have h9 : c * 2 ^ (8 * j) < 18446744073709551616 := Nat.lt_of_le_of_lt h8 (by decide)
  have h10 : a < 18446744073709551616 := Nat.lt_of_lt_of_le ha (by rw [hp]; exact Nat.le_trans h7 (by decide))
  have h := u64_or_nat a (c * 2 ^ (8 * j)) h10 h9
  have h2 := Nat.shiftLeft_add_eq_or_of_lt (i := 8 * j) (b := a) (by rw [← hp]; exact ha) c
  rw [Nat.shiftLeft_eq] at h2
  rw [Nat.or_comm, ← h2, ← hp, Nat.add_comm] at h
  rw [← hp]
  exact h

theorem or_le' (a c j : Nat) (ha : a < 256 ^ j) (hc : c < 256) (hj : j < 8) :
    bits .or .u64 (a : Int) (IntKind.u64.wrap (IntKind.u64.wrap (c : Int) * 2 ^ (8 * j))) = ((a + c * 256 ^ j : Nat) : Int) := by
  have h7 : (2 : Nat) ^ (8 * j) ≤ 2 ^ 56 := Nat.pow_le_pow_right (by decide) (by omega)
  have h8 : c * 2 ^ (8 * j) ≤ 255 * 2 ^ 56 := Nat.mul_le_mul (by omega) h7
  have h9 : c * 2 ^ (8 * j) < 18446744073709551616 := Nat.lt_of_le_of_lt h8 (by decide)
  have h10 : c < 18446744073709551616 := Nat.lt_trans hc (by decide)
  have h11 : ((c : Int) * 2 ^ (8 * j)) = ((c * 2 ^ (8 * j) : Nat) : Int) := by rw [Int.natCast_mul, Int.natCast_pow]; rfl
  rw [u64w c h10, h11, u64w _ h9]
  exact or_le a c j ha hc hj

theorem belowR_err (e : Int) (l : Bytes) (n : Nat) (h : (belowR e l n).1 ≠ 0) : (belowR e l n).2.1 = 0 := by
  unfold belowR at h ⊢
  split
  · rw [if_pos ‹_›] at h; exact absurd rfl h
  · rename_i h1
    rw [if_neg h1] at h
    split
    · rw [if_pos ‹_›] at h; exact absurd rfl h
    · simpa using h1
theorem badE_ne (e : Int) : badE e ≠ 0 := by unfold badE; split <;> simp_all
theorem belowR_len' (e : Int) (l : Bytes) (n : Nat) : (belowR e l n).2.2.length ≤ l.length := belowR_len e l n

set_option maxRecDepth 100000 in
set_option maxHeartbeats 1000000 in
/-- Where the length is not right. -/
theorem Take_bad (s : Bytes) (w : World) (hs : s.length ≤ 4611686018427380000) (hn : (belowR 0 s 65537).1 = 0) :
    Calls Tryz.prog 80 #[.string (ba s)] w fun en w' => en = .returned (.tuple #[.string (ba []), .int .i64 0, .int .i64 (badE (belowR 0 s 65537).2.1)]) ∧ Frm [] w w' := by
  obtain ⟨n, e1, l1, hB⟩ : ∃ n e1 l1, belowR 0 s 65537 = (n, e1, l1) := ⟨_, _, _, rfl⟩
  have hb := fun W hr => Below_any w.heap.size 0 s 65537 W hr hs (by decide)
  rw [hB] at hn hb ⊢
  simp only at hn hb ⊢
  subst hn
  have hbad : (badE e1 != 0) = true := by simpa using badE_ne e1
  go_enter Tryz.func80, Tryz.ntmps80
  go_wp2_with (first | (go_at_call 81; refine (Of_any s w).mono ?_; rintro e w1 ⟨rfl, hr1, hz1, hf1⟩) | (go_at_call 108; refine (hb _ hr1).mono ?_; rintro e w2 ⟨rfl, hr2, hf2⟩) | (go_at_call 99; refine (Bad_any _ _ _ _ hr2).mono ?_; rintro e w3 ⟨rfl, hr3, hf3⟩) | (go_at_call 109; refine (Err_any _ _ _ _ hr3).mono ?_; rintro e w4 ⟨rfl, rfl⟩))
  go_ret3
  exact ⟨by rw [ba_nil]; rfl, (hf1.trans' hf2 (by simp)).trans' hf3 (by simp)⟩

set_option maxRecDepth 100000 in
set_option maxHeartbeats 1000000 in
/-- Where the bytes end too soon. -/
theorem Take_short (s : Bytes) (w : World) (hs : s.length ≤ 4611686018427380000) (n : Nat) (l1 : Bytes) (hB : belowR 0 s 65537 = (n, 0, l1)) (hn : n ≠ 0) (hl : l1.length < 8 + n) (hl1 : l1.length ≤ s.length) (hn6 : n < 65537) :
    Calls Tryz.prog 80 #[.string (ba s)] w fun en w' => en = .returned (.tuple #[.string (ba []), .int .i64 0, .int .i64 3]) ∧ Frm [] w w' := by
  have hb := fun W hr => Below_any w.heap.size 0 s 65537 W hr hs (by decide)
  rw [hB] at hb
  simp only at hb
  have t1 : ((n : Int) == 0) = false := int_ne (by omega)
  go_enter Tryz.func80, Tryz.ntmps80
  go_wp2_with (first | (go_at_call 81; refine (Of_any s w).mono ?_; rintro e w1 ⟨rfl, hr1, hz1, hf1⟩) | (go_at_call 108; refine (hb _ hr1).mono ?_; rintro e w2 ⟨rfl, hr2, hf2⟩) | (go_at_call 109; refine (Err_any _ _ _ _ hr2).mono ?_; rintro e w4 ⟨rfl, rfl⟩) | (go_at_call 110; refine (Left_any _ _ _ _ hr2 (by omega)).mono ?_; rintro e w4 ⟨rfl, rfl⟩; rw [show leftR 0 l1 = (l1.length : Int) from rfl]))
  go_ret3
  exact ⟨by rw [ba_nil]; rfl, hf1.trans' hf2 (by simp)⟩

set_option maxRecDepth 100000 in
set_option maxHeartbeats 2000000 in
/-- Where the bytes are all there. -/
theorem Take_there (s : Bytes) (w : World) (hs : s.length ≤ 4611686018427380000) (n : Nat) (l1 : Bytes) (hB : belowR 0 s 65537 = (n, 0, l1)) (hn : n ≠ 0) (hl : 8 + n ≤ l1.length) (hl1 : l1 <:+ s) (hn6 : n < 65537) :
    Calls Tryz.prog 80 #[.string (ba s)] w fun en w' => en = .returned (.tuple #[.string (ba (takeF s).1), .int .i64 (takeF s).2.1, .int .i64 (takeF s).2.2]) ∧ Frm [] w w' := by
  have hb := fun W hr => Below_any w.heap.size 0 s 65537 W hr hs (by decide)
  rw [hB] at hb
  simp only at hb
  have t1 : ((n : Int) == 0) = false := int_ne (by omega)
  have hl2 := hl1.length_le
  go_enter Tryz.func80, Tryz.ntmps80
  go_wp2_with (first | (go_at_call 81; refine (Of_any s w).mono ?_; rintro e w1 ⟨rfl, hr1, hz1, hf1⟩) | (go_at_call 108; refine (hb _ hr1).mono ?_; rintro e w2 ⟨rfl, hr2, hf2⟩) | (go_at_call 109; refine (Err_any _ _ _ _ hr2).mono ?_; rintro e w4 ⟨rfl, rfl⟩) | (go_at_call 110; refine (Left_any _ _ _ _ hr2 (by omega)).mono ?_; rintro e w4 ⟨rfl, rfl⟩; rw [show leftR 0 l1 = (l1.length : Int) from rfl]))
  go_loopw [8, 31] (fun o i wr => ∃ j : Nat, j ≤ 8 ∧ i = .int .i64 j ∧ o = .int .u64 (leN (l1.take j)) ∧ Rd wr w.heap.size 0 (l1.drop j) ∧ Frm [] w wr) (fun _ i _ => 8 - (intOf i).toNat)
  case atStart => exact ⟨0, Nat.zero_le _, rfl, rfl, hr2, hf1.trans' hf2 (by simp)⟩
  case round =>
    obtain ⟨j, hj, rfl, rfl, hrj, hFj⟩ := hrel
    by_cases hjk : j < 8
    · obtain ⟨c, r, hcr⟩ : ∃ c r, l1.drop j = c :: r := by
        cases h : l1.drop j with
        | nil => have := congrArg List.length h; simp at this; omega
        | cons c r => exact ⟨c, r, rfl⟩
      have hr : l1.drop (j + 1) = r := by rw [← List.drop_drop, hcr]; rfl
      have ht : l1.take (j + 1) = l1.take j ++ [c] := by
        have hlt : j < l1.length := by omega
        rw [List.take_succ_eq_append_getElem hlt]
        have : l1[j] = c := by
          have := congrArg List.head? hcr
          simpa [List.head?_drop, hlt] using this
        rw [this]
      have hlt := leN_lt (l1.take j)
      rw [List.length_take, Nat.min_eq_left (by omega)] at hlt
      have hor := Lib.hid (or_le' _ c.toNat j hlt c.toNat_lt hjk)
      have hsn := Lib.hid (leN_snoc (l1.take j) c)
      have htt := Lib.hid ht
      have hrr := Lib.hid hr
      have hm := Lib.hid (Nat.min_eq_left (show j ≤ l1.length by omega))
      have hlr : (c :: r).length ≤ 4611686018427380000 := by rw [← hcr, List.length_drop]; omega
      rw [hcr] at hrj
      have hby := fun W (h : Rd W w.heap.size 0 (c :: r)) => Byte_any w.heap.size 0 (c :: r) W h (by omega)
      simp only [byteR, ne_eq, not_true_eq_false, ↓reduceIte] at hby
      clear hlt ht hr hcr hlr
      go_wp2_with (first | (go_at_call 98; refine (hby _ hrj).mono ?_; rintro e w5 ⟨rfl, hr5, hf5⟩))
      go_round
      case rel => exact ⟨j + 1, by omega, by go_num, by rw [hor.out, htt.out, hsn.out, List.length_take, hm.out], by rw [hrr.out]; exact hr5, hFj.trans' hf5 (by simp)⟩
      case measure => simp only [intOf]; omega
    · obtain rfl : j = 8 := by omega
      have hat : (s.length : Int) - ((l1.length - 8 : Nat) : Int) = ((s.length - (l1.length - 8) : Nat) : Int) := by omega
      have hlen : (l1.drop 8).length = l1.length - 8 := by simp
      have hin : ((s.take (s.length - (l1.length - 8) + n)).drop (s.length - (l1.length - 8))) = (l1.drop 8).take n := by
        obtain ⟨t, rfl⟩ := hl1
        simp only [List.length_append]
        rw [show t.length + l1.length - (l1.length - 8) = t.length + 8 by simp at hl2; omega, List.drop_take, Nat.add_sub_cancel_left]
        congr 1
        rw [← List.drop_drop, List.drop_left]
      have hIN := Lib.hid hin
      have hT : takeF s = if crc ((l1.drop 8).take n) ≠ leN (l1.take 8) then ([], 0, 5) else ((l1.drop 8).take n, s.length - (l1.length - 8) + n, 0) := by
        unfold takeF takeE
        rw [hB]
        simp [hn, show ¬ l1.length < 8 + n by omega]
      obtain ⟨at', hA⟩ : ∃ a, a = s.length - (l1.length - 8) := ⟨_, rfl⟩
      have hle : at' + n ≤ s.length := by omega
      rw [← hA] at hat hin hT hIN
      have hLF : leftR 0 (l1.drop 8) = ((l1.length - 8 : Nat) : Int) := by simp [leftR]
      have hs2 : ((l1.drop 8).take n).length ≤ 4611686018427380000 := by simp; omega
      have hlN := leN_lt (l1.take 8)
      have hHT := Lib.hid hT
      have hHA := Lib.hid hA
      have hLF2 := Lib.hid hLF
      have hsl : ∀ W : World, (Instr.slice 9 (.string (ba s)) (some (.int .i64 (at' : Int))) (some (.int .i64 ((at' : Int) + n))) none).run Tryz.prog W = .ok (.string (ba ((l1.drop 8).take n))) W := fun W => by
        rw [run_slice_string W 9 (ba s) .i64 .i64 _ _ Tryz.underlying9 (by omega) (by omega) (by rw [ba_size]; omega)]
        rw [show ((at' : Int)).toNat = at' by omega, show ((at' : Int) + n).toNat = at' + n by omega, ba_extract, hin]
      by_cases hcrc : crc ((l1.drop 8).take n) = leN (l1.take 8)
      · have t2 : ((crc ((l1.drop 8).take n) : Int) != leN (l1.take 8)) = false := by rw [hcrc]; simp
        rw [if_neg (by simpa using hcrc)] at hT
        have hHT := Lib.hid hT
        clear hcrc hT hA hlen hin hlN hLF
        go_wp2_with (first | (go_at_call 110; refine (Left_any _ _ _ _ hrj (by simp; omega)).mono ?_; rintro e w6 ⟨rfl, rfl⟩; rw [hLF2.out]) | (go_at_call 85; refine (Sum_any _ _ hs2).mono ?_; rintro e w7 ⟨rfl, rfl⟩))
        go_ret3
        rw [hHT.out]
        exact ⟨rfl, hFj⟩
      · have t2 : ((crc ((l1.drop 8).take n) : Int) != leN (l1.take 8)) = true := by simp; omega
        rw [if_pos (by simpa using hcrc)] at hT
        have hHT := Lib.hid hT
        clear hcrc hT hA hlen hin hlN hLF
        go_wp2_with (first | (go_at_call 110; refine (Left_any _ _ _ _ hrj (by simp; omega)).mono ?_; rintro e w6 ⟨rfl, rfl⟩; rw [hLF2.out]) | (go_at_call 85; refine (Sum_any _ _ hs2).mono ?_; rintro e w7 ⟨rfl, rfl⟩))
        go_ret3
        rw [hHT.out, ba_nil]
        exact ⟨rfl, hFj⟩

set_option maxRecDepth 100000 in
theorem numR_suffix (e : Int) (l : Bytes) : (numR e l).2.2 <:+ l := by
  unfold numR
  split
  · exact List.suffix_refl _
  · split
    · exact List.suffix_refl _
    · rename_i c r
      have h1 : r <:+ c :: r := List.suffix_cons c r
      (repeat' split)
      · exact h1
      · exact h1
      · exact (List.drop_suffix _ _).trans h1
      · exact (List.drop_suffix _ _).trans h1
theorem belowR_suffix (e : Int) (l : Bytes) (n : Nat) : (belowR e l n).2.2 <:+ l := by
  have := numR_suffix e l
  unfold belowR
  (repeat' split) <;> simpa using this

theorem Take_any (s : Bytes) (w : World) (hs : s.length ≤ 4611686018427380000) :
    Calls Tryz.prog 80 #[.string (ba s)] w fun en w' => en = .returned (.tuple #[.string (ba (takeF s).1), .int .i64 (takeF s).2.1, .int .i64 (takeF s).2.2]) ∧ Frm [] w w' := by
  by_cases hn : (belowR 0 s 65537).1 = 0
  · have hT : takeF s = ([], 0, badE (belowR 0 s 65537).2.1) := by
      have := badE_ne (belowR 0 s 65537).2.1
      simp [takeF, takeE, hn, this]
    rw [hT]
    exact Take_bad s w hs hn
  · have he := belowR_err 0 s 65537 hn
    have hsuf := belowR_suffix 0 s 65537
    have hlt := belowR_lt 0 s 65537 (by decide)
    obtain ⟨n, e1, l1, hB⟩ : ∃ n e1 l1, belowR 0 s 65537 = (n, e1, l1) := ⟨_, _, _, rfl⟩
    rw [hB] at hn he hsuf hlt
    simp only at hn he hsuf hlt
    subst he
    by_cases hl : l1.length < 8 + n
    · have hT : takeF s = ([], 0, 3) := by simp [takeF, takeE, hB, hn, hl]
      rw [hT]
      exact Take_short s w hs n l1 hB hn hl hsuf.length_le hlt
    · exact Take_there s w hs n l1 hB hn (by omega) hsuf hlt
end Go.Proofs.YtlopfabbjilpnaaGreatDoor
