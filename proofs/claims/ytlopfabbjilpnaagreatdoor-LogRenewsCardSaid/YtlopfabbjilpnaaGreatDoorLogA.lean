/- Package log: the names of segments. -/
import Derived.Test.YtlopfabbjilpnaaGreatDoorDiskJ
set_option linter.unusedSimpArgs false
set_option linter.unusedVariables false
namespace Go.Proofs.YtlopfabbjilpnaaGreatDoor
open Go.RowKit

theorem frm_bytesWorld (w : World) (e : TypeId) (s : ByteArray) : Frm [] w (Lib.bytesWorld w e s) :=
  Frm.of_below ⟨rfl, rfl, rfl, by rw [Lib.bytesWorld_size]; omega, fun j hj => Lib.bytesWorld_at_old w e s j hj⟩

theorem dec_small {n : Nat} (h : n < 100) : (Lib.decDigits n).length ≤ 2 := by
  rw [Lib.decDigits]
  split
  · simp
  · rw [Lib.decDigits, dif_pos (by omega)]
    simp

def segName (n : Nat) : Bytes := 115 :: (Lib.repeatL [48] (8 - (Lib.decDigits n).length) ++ Lib.decDigits n)

set_option maxRecDepth 100000 in
theorem name_any (n : Nat) (hn : n < 100) (w : World) : Calls Tryz.prog 62 #[.int .i64 n] w fun en w' => en = .returned (sv (segName n)) ∧ Frm [] w w' := by
  have hl := dec_small hn
  have hi : (8 : Int) - (Lib.decDigits n).length = ((8 - (Lib.decDigits n).length : Nat) : Int) := by omega
  have hrep : ∀ W, Calls Tryz.prog 88 #[.string (ba [48]), .int .i64 (8 - (Lib.decDigits n).length : Nat)] W fun en w' => en = .returned (sv (Lib.repeatL [48] (8 - (Lib.decDigits n).length))) ∧ Frm [] W w' := fun W =>
    (Tryz.strings_Repeat (ba [48]) (8 - (Lib.decDigits n).length) W (by omega) (by rw [ba_size]; simp; omega)).mono (by rintro e w' ⟨rfl, hb⟩; exact ⟨by rw [ba_toList, mk_toArray], Frm.of_below hb⟩)
  have hrl : (Lib.repeatL [48] (8 - (Lib.decDigits n).length)).length ≤ 8 := by rw [Lib.repeatL_length]; simp
  have c1 : (9223372036854775807 < 1 + (Lib.repeatL [48] (8 - (Lib.decDigits n).length)).length) = False := by simp; omega
  have c2 : (9223372036854775807 < 1 + (Lib.repeatL [48] (8 - (Lib.decDigits n).length)).length + (Lib.decDigits n).length) = False := by simp; omega
  have c3 : (9223372036854775807 < (Lib.repeatL [48] (8 - (Lib.decDigits n).length)).length + 1 + (Lib.decDigits n).length) = False := by simp; omega
  go_enter Tryz.func62, Tryz.ntmps62
  go_wp2_with (first | (go_at_call 96; refine (Tryz.strconv_Itoa_small n hn _).mono ?_; rintro e w' ⟨rfl, rfl⟩) | (go_at_call 88; refine (hrep _).mono ?_; rintro e w' ⟨rfl, hb⟩))
  go_ret
  exact ⟨by simp [segName, sv], hb⟩

def isSeg (s : Bytes) : Bool := s.length == 9 && s[0]? == some 115
def numberF (s : Bytes) : Option Nat := if isSeg s then match Lib.parseUintB 32 (s.drop 1) with | .ok u => if u = 0 then none else some u | _ => none else none
theorem numberF_ok {s : Bytes} {u : Nat} (h : isSeg s = true) (hu : Lib.parseUintB 32 (s.drop 1) = .ok u) : numberF s = if u = 0 then none else some u := by unfold numberF; rw [if_pos h, hu]
theorem numberF_no {s : Bytes} (h : isSeg s = false) : numberF s = none := by unfold numberF; rw [if_neg (by rw [h]; simp)]
set_option maxRecDepth 100000 in
set_option maxHeartbeats 1000000 in
theorem numberOf_any (s : Bytes) (hs : isSeg s = true → ∃ u, Lib.parseUintB 32 (s.drop 1) = .ok u) (hl : s.length ≤ 100) (w : World) :
    Calls Tryz.prog 93 #[sv s] w fun en w' => en = .returned (.tuple #[.int .i64 ((numberF s).getD 0 : Nat), .bool (numberF s).isSome]) ∧ Frm [] w w' := by
  by_cases h9 : s.length = 9
  · obtain ⟨c, s, rfl⟩ : ∃ c s', s = c :: s' := by cases s with | nil => simp at h9 | cons c s' => exact ⟨c, s', rfl⟩
    have h8 : s.length = 8 := by simpa using h9
    have t1 : (((c :: s).length : Int) != 9) = false := by rw [h9]; rfl
    by_cases h0 : c = 115
    · subst h0
      obtain ⟨u, hu⟩ := hs (by simp [isSeg, h8])
      simp only [List.drop_succ_cons, List.drop_zero] at hu
      have hu32 : u ≤ 4294967295 := Lib.parseUintB_le hu
      have hT : List.take 8 s = s := List.take_of_length_le (by omega)
      have hp : ∀ W, Calls Tryz.prog 107 #[.string (ba s), .int .i64 10, .int .i64 32] W fun en w' => en = .returned (.tuple #[.int .u64 u, .nilIface]) ∧ Frm [] W w' := fun W =>
        (Tryz.strconv_ParseUint_10_at32_ok (ba s) (by simp [h8]) u (by simpa using hu) W).mono (by
          rintro e w' ⟨rfl, h | h⟩
          · exact ⟨rfl, by rw [h]; exact Frm.refl _ _⟩
          · exact ⟨rfl, by rw [h]; exact frm_bytesWorld _ _ _⟩)
      by_cases hu0 : u = 0
      · subst hu0
        have HF := Lib.hid (show numberF (115 :: s) = none by exact numberF_ok (s := 115 :: s) (u := 0) (by simp [isSeg, h8]) hu)
        clear hs hu h9
        go_enter Tryz.func93, Tryz.ntmps93
        go_wp2_with (go_at_call 107; refine (hp _).mono ?_; rintro e w' ⟨rfl, hb⟩)
        go_ret2
        rw [HF.out]
        exact ⟨rfl, hb⟩
      · have HF := Lib.hid (show numberF (115 :: s) = some u by rw [numberF_ok (s := 115 :: s) (u := u) (by simp [isSeg, h8]) hu, if_neg hu0])
        have t2 : ((u : Int) == 0) = false := int_ne (by omega)
        clear hs hu h9
        go_enter Tryz.func93, Tryz.ntmps93
        go_wp2_with (go_at_call 107; refine (hp _).mono ?_; rintro e w' ⟨rfl, hb⟩)
        go_ret2
        rw [HF.out]
        exact ⟨rfl, hb⟩
    · have HF := Lib.hid (show numberF (c :: s) = none from numberF_no (by simp [isSeg, h0]))
      have t2 : ((c.toNat : Int) != 115) = true := by
        simp only [bne_iff_ne, ne_eq]
        intro e
        exact h0 (UInt8.toNat_inj.1 (by simp; omega))
      clear hs
      go_enter Tryz.func93, Tryz.ntmps93
      go_wp2
      go_ret2
      rw [HF.out]
      exact ⟨rfl, Frm.refl _ _⟩
  · have hF : numberF s = none := numberF_no (by simp [isSeg, h9])
    have t1 : ((s.length : Int) != 9) = true := by simp; omega
    have HF := Lib.hid hF
    clear hF hs
    go_enter Tryz.func93, Tryz.ntmps93
    go_wp2
    go_ret2
    rw [HF.out]
    exact ⟨rfl, Frm.refl _ _⟩
end Go.Proofs.YtlopfabbjilpnaaGreatDoor
