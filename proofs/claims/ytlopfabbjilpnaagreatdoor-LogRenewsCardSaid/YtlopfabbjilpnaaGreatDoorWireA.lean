/- Package wire: the reader's calls, each with what it answers and what it leaves. -/
import Derived.Test.YtlopfabbjilpnaaGreatDoorLib
import Derived.Test.YtlopfabbjilpnaaGreatDoorProg
import Derived.Test.YtlopfabbjilpnaaGreatDoorShelf
import Derived.Lib.Hide
set_option linter.unusedSimpArgs false
set_option linter.unusedVariables false
namespace Go.Proofs.YtlopfabbjilpnaaGreatDoor
open Go.RowKit

/-- A reader: its first error, the bytes that are left. -/
def Rd (w : World) (b : Nat) (e : Int) (l : Bytes) : Prop := ∃ T, w.heap[b]? = some (.cells #[.int .i64 e, .string (ba l)] T (0, 0))

def takeR (e : Int) (l : Bytes) (n : Nat) : Bytes × Bool × Int × Bytes :=
  if e ≠ 0 then ([], false, e, l) else if l.length < n then ([], false, 3, l) else (l.take n, true, 0, l.drop n)

def byteR (e : Int) (l : Bytes) : Nat × Int × Bytes :=
  if e ≠ 0 then (0, e, l) else match l with | [] => (0, 3, []) | c :: r => (c.toNat, 0, r)

theorem failed_any (b : Nat) (e : Int) (c : Value) (T : TypeId) (w : World) (hc : w.heap[b]? = some (.cells #[.int .i64 e, c] T (0, 0))) :
    Calls Tryz.prog 135 #[.pointer (some ⟨b, 0, none⟩)] w fun en w' => en = .returned (.bool (e != 0)) ∧ w = w' := by
  go_enter Tryz.func135, Tryz.ntmps135
  go_wp2
  go_ret
  exact ⟨by simp, rfl⟩

theorem fail_any (b : Nat) (e k : Int) (c : Value) (T : TypeId) (w : World) (hc : w.heap[b]? = some (.cells #[.int .i64 e, c] T (0, 0))) :
    Calls Tryz.prog 112 #[.pointer (some ⟨b, 0, none⟩), .int .i64 k] w fun en w' => en = .returned (.tuple #[]) ∧ w'.heap[b]? = some (.cells #[.int .i64 (if e = 0 then k else e), c] T (0, 0)) ∧ Frm [b] w w' := by
  by_cases he : e = 0
  · subst he
    go_enter Tryz.func112, Tryz.ntmps112
    go_wp2
    go_end0
    exact ⟨rfl, heap_setCell _ hc, (Frm.refl _ _).setCell (by simp) _⟩
  · have he' : (e == 0) = false := by simpa using he
    go_enter Tryz.func112, Tryz.ntmps112
    go_wp2
    go_end0
    exact ⟨rfl, by simpa [he] using hc, Frm.refl _ _⟩

set_option maxHeartbeats 400000 in
theorem take_any (b : Nat) (e : Int) (l : Bytes) (n : Nat) (w : World) (hr : Rd w b e l) (hl : l.length ≤ 4611686018427387904) :
    Calls Tryz.prog 111 #[.pointer (some ⟨b, 0, none⟩), .int .u64 n] w fun en w' => en = .returned (.tuple #[.string (ba (takeR e l n).1), .bool (takeR e l n).2.1]) ∧
      Rd w' b (takeR e l n).2.2.1 (takeR e l n).2.2.2 ∧ Frm [b] w w' := by
  obtain ⟨T, hc⟩ := hr
  unfold takeR
  by_cases he : e = 0
  · subst he
    by_cases hn : l.length < n
    · go_enter Tryz.func111, Tryz.ntmps111
      go_wp2_with (first | (go_at_call 135; refine (failed_any _ _ _ _ _ hc).mono ?_; rintro e w' ⟨rfl, rfl⟩) | (go_at_call 112; refine (fail_any _ _ _ _ _ _ hc).mono ?_; rintro e w1 ⟨rfl, hr1, hf1⟩))
      go_ret2
      simp only [ne_eq, not_true_eq_false, ↓reduceIte, hn]
      exact ⟨rfl, ⟨T, by assumption⟩, by assumption⟩
    · go_enter Tryz.func111, Tryz.ntmps111
      go_wp2_with (first | (go_at_call 135; refine (failed_any _ _ _ _ _ hc).mono ?_; rintro e w' ⟨rfl, rfl⟩) | (go_at_call 112; refine (fail_any _ _ _ _ _ _ hc).mono ?_; rintro e w1 ⟨rfl, hr1, hf1⟩))
      go_ret2
      simp only [ne_eq, not_true_eq_false, ↓reduceIte, hn]
      exact ⟨rfl, ⟨T, heap_setCell _ hc⟩, (Frm.refl _ _).setCell (by simp) _⟩
  · have he' : (e != 0) = true := by simpa using he
    go_enter Tryz.func111, Tryz.ntmps111
    go_wp2_with (first | (go_at_call 135; refine (failed_any _ _ _ _ _ hc).mono ?_; rintro e w' ⟨rfl, rfl⟩))
    go_ret2
    simp only [ne_eq, he, not_false_eq_true, ↓reduceIte]
    exact ⟨rfl, ⟨T, hc⟩, Frm.refl _ _⟩

theorem Byte_any (b : Nat) (e : Int) (l : Bytes) (w : World) (hr : Rd w b e l) (hl : l.length ≤ 4611686018427387904) :
    Calls Tryz.prog 98 #[.pointer (some ⟨b, 0, none⟩)] w fun en w' => en = .returned (.int .u8 (byteR e l).1) ∧
      Rd w' b (byteR e l).2.1 (byteR e l).2.2 ∧ Frm [b] w w' := by
  have ht := take_any b e l 1 w hr hl
  unfold byteR
  by_cases he : e = 0
  · subst he
    rcases l with _ | ⟨c, l⟩
    · simp only [takeR, ne_eq, not_true_eq_false, ↓reduceIte, List.length_nil, Nat.lt_one_iff] at ht
      go_enter Tryz.func98, Tryz.ntmps98
      go_wp2_with (first | (go_at_call 111; refine ht.mono ?_; rintro e w1 ⟨rfl, hr1, hf1⟩))
      go_ret
      exact ⟨rfl, hr1, hf1⟩
    · have h1 : ¬ (c :: l).length < 1 := by simp
      simp only [takeR, ne_eq, not_true_eq_false, ↓reduceIte, h1, List.take_succ_cons, List.take_zero, List.drop_succ_cons, List.drop_zero] at ht
      go_enter Tryz.func98, Tryz.ntmps98
      go_wp2_with (first | (go_at_call 111; refine ht.mono ?_; rintro e w1 ⟨rfl, hr1, hf1⟩))
      go_ret
      exact ⟨rfl, hr1, hf1⟩
  · simp only [takeR, ne_eq, he, not_false_eq_true, ↓reduceIte] at ht
    go_enter Tryz.func98, Tryz.ntmps98
    go_wp2_with (first | (go_at_call 111; refine ht.mono ?_; rintro e w1 ⟨rfl, hr1, hf1⟩))
    go_ret
    exact ⟨by simp [he], by simpa [he] using hr1, hf1⟩

/-- A number of bytes, the first one the greatest. -/
def beN (l : Bytes) : Nat := l.foldl (fun n c => n * 256 + c.toNat) 0
def numW (n : Nat) : Nat := (Lib.bitLen n + 7) / 8
def numR (e : Int) (l : Bytes) : Nat × Int × Bytes :=
  if e ≠ 0 then (0, e, l) else match l with
  | [] => (0, 3, [])
  | c :: r => if c.toNat < 248 then (c.toNat, 0, r) else
    if r.length < c.toNat - 247 then (0, 3, r) else
    if beN (r.take (c.toNat - 247)) < 248 ∨ numW (beN (r.take (c.toNat - 247))) ≠ c.toNat - 247 then (0, 4, r.drop (c.toNat - 247)) else
    (beN (r.take (c.toNat - 247)), 0, r.drop (c.toNat - 247))

theorem width_any (n : Nat) (w : World) (hn : n < 18446744073709551616) :
    Calls Tryz.prog 86 #[.int .u64 n] w fun en w' => en = .returned (.int .i64 (numW n)) ∧ w = w' := by
  have hb : Lib.bitLen n ≤ 64 := Lib.bitLen_le n 64 (by omega) (by omega)
  go_enter Tryz.func86, Tryz.ntmps86
  go_wp2_with (first | (go_at_call 115; refine (Tryz.bits_Len64 _ _ (by omega) (by omega)).mono ?_; rintro e w1 ⟨rfl, rfl⟩))
  go_ret
  exact ⟨by simp [numW], rfl⟩

theorem Num_err (b : Nat) (e : Int) (l : Bytes) (w : World) (hr : Rd w b e l) (hl : l.length ≤ 4611686018427387904) (he : e ≠ 0) :
    Calls Tryz.prog 82 #[.pointer (some ⟨b, 0, none⟩)] w fun en w' => en = .returned (.int .u64 0) ∧ Rd w' b e l ∧ Frm [b] w w' := by
  have ht := Byte_any b e l w hr hl
  simp only [byteR, ne_eq, he, not_false_eq_true, ↓reduceIte] at ht
  go_enter Tryz.func82, Tryz.ntmps82
  go_wp2_with (first | (go_at_call 98; refine ht.mono ?_; rintro e w1 ⟨rfl, hr1, hf1⟩))
  go_ret
  exact ⟨rfl, hr1, hf1⟩

theorem beN_snoc (l : Bytes) (c : UInt8) : beN (l ++ [c]) = beN l * 256 + c.toNat := by simp [beN]
theorem beN_lt' : ∀ (l : Bytes) (a : Nat), l.foldl (fun n c => n * 256 + c.toNat) a < (a + 1) * 256 ^ l.length
  | [], a => by simp
  | c :: l, a => by
    have := beN_lt' l (a * 256 + c.toNat)
    have hc := c.toNat_lt
    simp only [List.foldl_cons, List.length_cons, Nat.pow_succ]
    refine Nat.lt_of_lt_of_le this ?_
    rw [Nat.mul_comm (256 ^ l.length) 256, ← Nat.mul_assoc]
    exact Nat.mul_le_mul_right _ (by omega)
theorem beN_lt (l : Bytes) : beN l < 256 ^ l.length := by have := beN_lt' l 0; simpa [beN] using this
theorem beN_lt8 (l : Bytes) (h : l.length ≤ 8) : beN l < 18446744073709551616 :=
  Nat.lt_of_lt_of_le (beN_lt l) (Nat.le_trans (Nat.pow_le_pow_right (by omega) h) (by decide))

set_option maxRecDepth 100000 in
set_option maxHeartbeats 1000000 in
theorem Num_long (b : Nat) (c : UInt8) (r : Bytes) (w : World) (hr : Rd w b 0 (c :: r)) (hl : r.length ≤ 4611686018427380000) (k : Nat) (hc : c.toNat = 247 + k) (hk0 : 0 < k) (hk2 : k ≤ r.length) :
    Calls Tryz.prog 82 #[.pointer (some ⟨b, 0, none⟩)] w fun en w' => en = .returned (.int .u64 (numR 0 (c :: r)).1) ∧
      Rd w' b (numR 0 (c :: r)).2.1 (numR 0 (c :: r)).2.2 ∧ Frm [b] w w' := by
  have hc2 := c.toNat_lt
  have ht := Byte_any b 0 (c :: r) w hr (by simp; omega)
  simp only [byteR, ne_eq, not_true_eq_false, ↓reduceIte, hc] at ht
  have hk8 : k ≤ 8 := by omega
  obtain ⟨s, hs⟩ : ∃ s, s = r.take k := ⟨_, rfl⟩
  have hsl : s.length = k := by rw [hs]; simp; omega
  have hS := Lib.hid hs; have hL := Lib.hid hsl; have hH := Lib.hid hc
  have hsl2 : s.length ≤ k := by omega
  have hsl3 : k ≤ s.length := by omega
  clear hs hsl hc hc2
  have hsub : (247 + (k : Int)) - 247 = k := by omega
  go_enter Tryz.func82, Tryz.ntmps82
  go_wp2_with (first | (go_at_call 98; refine ht.mono ?_; rintro e w1 ⟨rfl, hr1, hf1⟩) | (go_at_call 111; have ht2 := take_any b 0 r k w1 hr1 (by omega); have hz : ¬ r.length < k := (by omega); simp only [takeR, ne_eq, not_true_eq_false, ↓reduceIte, hz, ← hS.out] at ht2; refine ht2.mono ?_; rintro e w2 ⟨rfl, hr2, hf2⟩; clear ht ht2))
  go_loop [7, 28] (fun n i => ∃ j : Nat, j ≤ k ∧ i = .int .i64 j ∧ n = .int .u64 (beN (s.take j))) (fun _ i => k - (intOf i).toNat)
  case atStart => exact ⟨0, Nat.zero_le _, rfl, rfl⟩
  case round =>
    obtain ⟨j, hj, rfl, rfl⟩ := hrel
    by_cases hjk : j < k
    · go_wp2
      have hjs : j < s.length := by omega
      have hts : s.take (j + 1) = s.take j ++ [s[j]] := by rw [List.take_succ_eq_append_getElem hjs]
      have hlt := beN_lt8 (s.take (j + 1)) (by simp; omega)
      rw [hts, beN_snoc] at hlt
      have hstep := or_byte (x := beN (s.take j)) (s[j].toNat_lt) hlt
      go_round
      case rel => exact ⟨j + 1, by omega, by go_num, by rw [hstep, hts, beN_snoc]⟩
      case measure => simp [intOf]; omega
    · obtain rfl : j = k := by omega
      have hlt := Lib.hid (beN_lt8 s (by omega))
      have hts : s.take j = s := List.take_of_length_le (by omega)
      rw [hts]
      have hN : numR 0 (c :: r) = if beN s < 248 ∨ numW (beN s) ≠ j then (0, 4, r.drop j) else (beN s, 0, r.drop j) := by
        have e : c.toNat - 247 = j := by have := hH.out; omega
        have e2 : ¬ c.toNat < 248 := by have := hH.out; omega
        have e3 : ¬ r.length < j := by omega
        simp [numR, e, e2, e3, ← hS.out]
      have hN2 := Lib.hid hN
      obtain ⟨T, hr3⟩ := hr2
      clear hN hts
      by_cases h1 : beN s < 248
      · go_wp2_with (first | (go_at_call 112; refine (fail_any _ _ _ _ _ _ hr3).mono ?_; rintro e w3 ⟨rfl, hr4, hf4⟩))
        go_ret
        rw [hN2.out, if_pos (.inl h1)]
        exact ⟨rfl, ⟨T, hr4⟩, (hf1.trans hf2).trans hf4⟩
      · by_cases h2 : numW (beN s) = j
        · have h3 : ((numW (beN s) : Int) != j) = false := by simp; omega
          have H2 := Lib.hid h2
          clear h2
          go_wp2_with (first | (go_at_call 86; refine (width_any _ _ hlt.out).mono ?_; rintro e w3 ⟨rfl, rfl⟩))
          go_ret
          rw [hN2.out, if_neg (by rw [H2.out]; simp; omega)]
          exact ⟨rfl, ⟨T, hr3⟩, hf1.trans hf2⟩
        · have h3 : ((numW (beN s) : Int) != j) = true := by simpa using fun h => h2 (by omega)
          go_wp2_with (first | (go_at_call 86; refine (width_any _ _ hlt.out).mono ?_; rintro e w3 ⟨rfl, rfl⟩) | (go_at_call 112; refine (fail_any _ _ _ _ _ _ hr3).mono ?_; rintro e w3 ⟨rfl, hr4, hf4⟩))
          go_ret
          rw [hN2.out, if_pos (.inr h2)]
          exact ⟨rfl, ⟨T, by assumption⟩, (hf1.trans hf2).trans (by assumption)⟩
end Go.Proofs.YtlopfabbjilpnaaGreatDoor
