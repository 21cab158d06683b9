/- Package wire: the reader's other calls. -/
import Derived.Test.YtlopfabbjilpnaaGreatDoorWireA
set_option linter.unusedSimpArgs false
set_option linter.unusedVariables false
namespace Go.Proofs.YtlopfabbjilpnaaGreatDoor
open Go.RowKit

theorem numR_len (e : Int) (l : Bytes) : (numR e l).2.2.length ≤ l.length := by
  unfold numR
  split
  · exact Nat.le_refl _
  · split
    · exact Nat.le_refl _
    · (repeat' split) <;> simp <;> omega
set_option maxRecDepth 100000 in
theorem Num_any (b : Nat) (e : Int) (l : Bytes) (w : World) (hr : Rd w b e l) (hl : l.length ≤ 4611686018427380000) :
    Calls Tryz.prog 82 #[.pointer (some ⟨b, 0, none⟩)] w fun en w' => en = .returned (.int .u64 (numR e l).1) ∧
      Rd w' b (numR e l).2.1 (numR e l).2.2 ∧ Frm [b] w w' := by
  by_cases he : e = 0
  · subst he
    rcases l with _ | ⟨c, r⟩
    · have ht := Byte_any b 0 [] w hr (by simp)
      simp only [byteR, ne_eq, not_true_eq_false, ↓reduceIte] at ht
      go_enter Tryz.func82, Tryz.ntmps82
      go_wp2_with (first | (go_at_call 98; refine ht.mono ?_; rintro e w1 ⟨rfl, hr1, hf1⟩))
      go_ret
      exact ⟨rfl, hr1, hf1⟩
    · have hc2 := c.toNat_lt
      simp only [List.length_cons] at hl
      by_cases h1 : c.toNat < 248
      · have ht := Byte_any b 0 (c :: r) w hr (by simp; omega)
        simp only [byteR, ne_eq, not_true_eq_false, ↓reduceIte] at ht
        have hN := Lib.hid (show numR 0 (c :: r) = (c.toNat, 0, r) by simp [numR, h1])
        go_enter Tryz.func82, Tryz.ntmps82
        go_wp2_with (first | (go_at_call 98; refine ht.mono ?_; rintro e w1 ⟨rfl, hr1, hf1⟩))
        go_ret
        rw [hN.out]
        exact ⟨rfl, hr1, hf1⟩
      · by_cases hk : c.toNat - 247 ≤ r.length
        · exact Num_long b c r w hr (by omega) (c.toNat - 247) (by omega) (by omega) hk
        · obtain ⟨k, hck⟩ : ∃ k, c.toNat = 247 + k := ⟨c.toNat - 247, by omega⟩
          have ht := Byte_any b 0 (c :: r) w hr (by simp; omega)
          simp only [byteR, ne_eq, not_true_eq_false, ↓reduceIte, hck] at ht
          have hN := Lib.hid (show numR 0 (c :: r) = (0, 3, r) by simp [numR, h1]; intro h; omega)
          have hz : r.length < k := by omega
          have hk0 : 0 < k := by omega
          have hk8 : k ≤ 8 := by omega
          clear hk h1 hc2 hck
          have hsub : (247 + (k : Int)) - 247 = k := by omega
          go_enter Tryz.func82, Tryz.ntmps82
          go_wp2_with (first | (go_at_call 98; refine ht.mono ?_; rintro e w1 ⟨rfl, hr1, hf1⟩) | (go_at_call 111; have ht2 := take_any b 0 r k w1 hr1 (by omega); simp only [takeR, ne_eq, not_true_eq_false, ↓reduceIte, hz] at ht2; refine ht2.mono ?_; rintro e w2 ⟨rfl, hr2, hf2⟩; clear ht ht2))
          go_ret
          rw [hN.out]
          exact ⟨rfl, hr2, hf1.trans hf2⟩
  · have hN := Lib.hid (show numR e l = (0, e, l) by simp [numR, he])
    refine (Num_err b e l w hr (by omega) he).mono ?_
    rw [hN.out]
    exact fun _ _ h => h

def belowR (e : Int) (l : Bytes) (n : Nat) : Nat × Int × Bytes :=
  if (numR e l).2.1 ≠ 0 then (0, (numR e l).2) else if n ≤ (numR e l).1 then (0, 4, (numR e l).2.2) else numR e l

theorem below_any (b : Nat) (e : Int) (l : Bytes) (n : Nat) (w : World) (hr : Rd w b e l) (hl : l.length ≤ 4611686018427380000) (hn : n ≤ 4294967296) :
    Calls Tryz.prog 113 #[.pointer (some ⟨b, 0, none⟩), .int .u64 n] w fun en w' => en = .returned (.int .u64 (belowR e l n).1) ∧
      Rd w' b (belowR e l n).2.1 (belowR e l n).2.2 ∧ Frm [b] w w' := by
  have ht := Num_any b e l w hr hl
  unfold belowR
  obtain ⟨v, e1, l1, hN⟩ : ∃ v e1 l1, numR e l = (v, e1, l1) := ⟨_, _, _, rfl⟩
  rw [hN] at ht ⊢
  by_cases he : e1 = 0
  · subst he
    by_cases hv : n ≤ v
    · go_enter Tryz.func113, Tryz.ntmps113
      go_wp2_with (first | (go_at_call 82; refine ht.mono ?_; rintro e w1 ⟨rfl, hr1, hf1⟩; obtain ⟨T, hr1⟩ := hr1) | (go_at_call 135; refine (failed_any _ _ _ _ _ hr1).mono ?_; rintro e w2 ⟨rfl, rfl⟩) | (go_at_call 112; refine (fail_any _ _ _ _ _ _ hr1).mono ?_; rintro e w3 ⟨rfl, hr4, hf4⟩))
      go_ret
      simp only [ne_eq, not_true_eq_false, ↓reduceIte, hv]
      exact ⟨rfl, ⟨T, hr4⟩, hf1.trans hf4⟩
    · go_enter Tryz.func113, Tryz.ntmps113
      go_wp2_with (first | (go_at_call 82; refine ht.mono ?_; rintro e w1 ⟨rfl, hr1, hf1⟩; obtain ⟨T, hr1⟩ := hr1) | (go_at_call 135; refine (failed_any _ _ _ _ _ hr1).mono ?_; rintro e w2 ⟨rfl, rfl⟩) | (go_at_call 112; refine (fail_any _ _ _ _ _ _ hr1).mono ?_; rintro e w3 ⟨rfl, hr4, hf4⟩))
      go_ret
      simp only [ne_eq, not_true_eq_false, ↓reduceIte, hv]
      exact ⟨rfl, ⟨T, hr1⟩, hf1⟩
  · have he' : (e1 != 0) = true := by simpa using he
    go_enter Tryz.func113, Tryz.ntmps113
    go_wp2_with (first | (go_at_call 82; refine ht.mono ?_; rintro e w1 ⟨rfl, hr1, hf1⟩; obtain ⟨T, hr1⟩ := hr1) | (go_at_call 135; refine (failed_any _ _ _ _ _ hr1).mono ?_; rintro e w2 ⟨rfl, rfl⟩))
    go_ret
    simp only [ne_eq, he, not_false_eq_true, ↓reduceIte]
    exact ⟨rfl, ⟨T, hr1⟩, hf1⟩

theorem Below_any (b : Nat) (e : Int) (l : Bytes) (n : Nat) (w : World) (hr : Rd w b e l) (hl : l.length ≤ 4611686018427380000) (hn : n ≤ 4294967296) :
    Calls Tryz.prog 108 #[.pointer (some ⟨b, 0, none⟩), .int .u64 n] w fun en w' => en = .returned (.int .u64 (belowR e l n).1) ∧
      Rd w' b (belowR e l n).2.1 (belowR e l n).2.2 ∧ Frm [b] w w' := by
  have ht := below_any b e l n w hr hl hn
  go_enter Tryz.func108, Tryz.ntmps108
  go_wp2_with (first | (go_at_call 113; refine ht.mono ?_; rintro e w1 ⟨rfl, hr1, hf1⟩))
  go_ret
  exact ⟨rfl, hr1, hf1⟩

theorem belowR_len (e : Int) (l : Bytes) (n : Nat) : (belowR e l n).2.2.length ≤ l.length := by
  have := numR_len e l
  unfold belowR
  (repeat' split) <;> simp <;> omega

def strR (e : Int) (l : Bytes) (most : Nat) : Bytes × Int × Bytes :=
  ((takeR (belowR e l (most + 1)).2.1 (belowR e l (most + 1)).2.2 (belowR e l (most + 1)).1).1,
   (takeR (belowR e l (most + 1)).2.1 (belowR e l (most + 1)).2.2 (belowR e l (most + 1)).1).2.2)

theorem Str_any (b : Nat) (e : Int) (l : Bytes) (most : Nat) (w : World) (hr : Rd w b e l) (hl : l.length ≤ 4611686018427380000) (hn : most ≤ 4294967295) :
    Calls Tryz.prog 83 #[.pointer (some ⟨b, 0, none⟩), .int .i64 most] w fun en w' => en = .returned (.string (ba (strR e l most).1)) ∧
      Rd w' b (strR e l most).2.1 (strR e l most).2.2 ∧ Frm [b] w w' := by
  have ht := below_any b e l (most + 1) w hr hl (by omega)
  have hlen := belowR_len e l (most + 1)
  unfold strR
  obtain ⟨v, e1, l1, hN⟩ : ∃ v e1 l1, belowR e l (most + 1) = (v, e1, l1) := ⟨_, _, _, rfl⟩
  rw [hN] at ht hlen ⊢
  simp only at hlen
  go_enter Tryz.func83, Tryz.ntmps83
  go_wp2_with (first | (go_at_call 113; refine ht.mono ?_; rintro e w1 ⟨rfl, hr1, hf1⟩) | (go_at_call 111; refine (take_any b e1 l1 v _ hr1 (by omega)).mono ?_; rintro e w2 ⟨rfl, hr2, hf2⟩))
  go_ret
  exact ⟨rfl, hr2, hf1.trans hf2⟩

def badE (e : Int) : Int := if e = 0 then 4 else e
theorem Bad_any (b : Nat) (e : Int) (l : Bytes) (w : World) (hr : Rd w b e l) :
    Calls Tryz.prog 99 #[.pointer (some ⟨b, 0, none⟩)] w fun en w' => en = .returned (.tuple #[]) ∧
      Rd w' b (badE e) l ∧ Frm [b] w w' := by
  obtain ⟨T, hr⟩ := hr
  go_enter Tryz.func99, Tryz.ntmps99
  go_wp2_with (first | (go_at_call 112; refine (fail_any _ _ _ _ _ _ hr).mono ?_; rintro e w3 ⟨rfl, hr4, hf4⟩))
  go_end0
  exact ⟨rfl, ⟨T, hr4⟩, hf4⟩

theorem Err_any (b : Nat) (e : Int) (l : Bytes) (w : World) (hr : Rd w b e l) :
    Calls Tryz.prog 109 #[.pointer (some ⟨b, 0, none⟩)] w fun en w' => en = .returned (.int .i64 e) ∧ w = w' := by
  obtain ⟨T, hr⟩ := hr
  go_enter Tryz.func109, Tryz.ntmps109
  go_wp2
  go_ret
  exact ⟨rfl, rfl⟩

def leftR (e : Int) (l : Bytes) : Int := if e = 0 then (l.length : Int) else 0
theorem Left_any (b : Nat) (e : Int) (l : Bytes) (w : World) (hr : Rd w b e l) (hl : l.length ≤ 4611686018427380000) :
    Calls Tryz.prog 110 #[.pointer (some ⟨b, 0, none⟩)] w fun en w' => en = .returned (.int .i64 (leftR e l)) ∧ w = w' := by
  obtain ⟨T, hr⟩ := hr
  by_cases he : e = 0
  · subst he
    go_enter Tryz.func110, Tryz.ntmps110
    go_wp2_with (first | (go_at_call 135; refine (failed_any _ _ _ _ _ hr).mono ?_; rintro e w2 ⟨rfl, rfl⟩))
    go_ret
    exact ⟨rfl, rfl⟩
  · have he' : (e != 0) = true := by simpa using he
    go_enter Tryz.func110, Tryz.ntmps110
    go_wp2_with (first | (go_at_call 135; refine (failed_any _ _ _ _ _ hr).mono ?_; rintro e w2 ⟨rfl, rfl⟩))
    go_ret
    exact ⟨by simp [leftR, he], rfl⟩

/-- The error at the end: bytes that are left are one. -/
def endR (e : Int) (l : Bytes) : Int := if e = 0 ∧ l ≠ [] then 4 else e

theorem End_any (b : Nat) (e : Int) (l : Bytes) (w : World) (hr : Rd w b e l) (hl : l.length ≤ 4611686018427380000) :
    Calls Tryz.prog 84 #[.pointer (some ⟨b, 0, none⟩)] w fun en w' => en = .returned (.int .i64 (endR e l)) ∧
      Rd w' b (endR e l) l ∧ Frm [b] w w' := by
  obtain ⟨T, hr⟩ := hr
  rcases l with _ | ⟨c, l⟩
  · go_enter Tryz.func84, Tryz.ntmps84
    go_wp2
    go_ret
    exact ⟨by simp [endR], ⟨T, by simpa [endR] using hr⟩, Frm.refl _ _⟩
  · have h0 : 0 < (c :: l).length := by simp
    by_cases he : e = 0
    · subst he
      have hE : endR 0 (c :: l) = 4 := by simp [endR]
      go_enter Tryz.func84, Tryz.ntmps84
      go_wp2_with (first | (go_at_call 112; refine (fail_any _ _ _ _ _ _ hr).mono ?_; rintro e w3 ⟨rfl, hr4, hf4⟩; rw [if_pos rfl] at hr4))
      go_ret
      exact ⟨rfl, ⟨T, hr4⟩, hf4⟩
    · have hE : endR e (c :: l) = e := by simp [endR, he]
      go_enter Tryz.func84, Tryz.ntmps84
      go_wp2_with (first | (go_at_call 112; refine (fail_any _ _ _ _ _ _ hr).mono ?_; rintro e w3 ⟨rfl, hr4, hf4⟩; rw [if_neg he] at hr4))
      go_ret
      rw [hE]
      exact ⟨rfl, ⟨T, hr4⟩, hf4⟩

theorem Of_any (l : Bytes) (w : World) :
    Calls Tryz.prog 81 #[.string (ba l)] w fun en w' => en = .returned (.pointer (some ⟨w.heap.size, 0, none⟩)) ∧ Rd w' w.heap.size 0 l ∧ w.heap.size < w'.heap.size ∧ Frm [] w w' := by
  go_enter Tryz.func81, Tryz.ntmps81
  go_wp2
  go_ret
  exact ⟨rfl, ⟨_, heap_alloc_new _ _⟩, by simp, (Frm.refl _ _).alloc _⟩
end Go.Proofs.YtlopfabbjilpnaaGreatDoor
