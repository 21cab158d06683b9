/- Package frame: a frame put, a frame taken. -/
import Derived.Test.YtlopfabbjilpnaaGreatDoorWireC
import Derived.Test.YtlopfabbjilpnaaGreatDoorCrc
set_option linter.unusedSimpArgs false
set_option linter.unusedVariables false
namespace Go.Proofs.YtlopfabbjilpnaaGreatDoor
open Go.RowKit

def leB (n : Nat) : Bytes := (List.range 8).map fun j => UInt8.ofNat (n / 256 ^ j)
def frameB (s : Bytes) : Bytes := numB s.length ++ leB (crc s) ++ s

/-- A call hands back a slice of bytes of its own and an error's number, and leaves what was there. -/
def RetSBE (w : World) (l : Bytes) (e : Int) (en : Ending) (w' : World) : Prop := ∃ sv, en = .returned (.tuple #[sv, .int .i64 e]) ∧ SB w.heap.size w' sv l ∧ Frm [] w w'

theorem numB_len (n : Nat) (h : n ≤ 18446744073709551615) : (numB n).length ≤ 9 := by
  have h8 := numW_le n h
  unfold numB; split <;> simp [beB]; omega

set_option maxRecDepth 100000 in
set_option maxHeartbeats 1000000 in
theorem Put_ok (base : Nat) (v : Value) (xs s : Bytes) (w : World) (hv : SB base w v xs) (hx : xs.length ≤ 70368740000000) (h0 : 0 < s.length) (hs : s.length ≤ 65536) :
    Calls Tryz.prog 47 #[v, .string (ba s)] w (RetSBE w (xs ++ frameB s) 0) := by
  have hc := putNum_any base _ xs s.length w hv (by omega) (by omega)
  have hl : (xs ++ numB s.length).length ≤ 70368740000010 := by
    have := numB_len s.length (by omega)
    simp; omega
  have hcl := crc_lt s
  have hCL := Lib.hid hcl
  clear hcl
  have t1 : ((s.length : Int) == 0) = false := int_ne (by omega)
  have t2 : decide ((65536 : Int) < s.length) = false := dec_no (by omega)
  go_enter Tryz.func47, Tryz.ntmps47
  go_wp2_with (first | (go_at_call 49; refine hc.mono ?_; rintro e w1 ⟨v1, rfl, hv1, hf1⟩; have hz1 := hf1.size) | (go_at_call 85; refine (Sum_any s _ (by omega)).mono ?_; rintro e w2 ⟨rfl, rfl⟩))
  go_loopw [6, 26] (fun o i wr => ∃ j : Nat, j ≤ 8 ∧ i = .int .i64 j ∧ SB w.heap.size wr o (xs ++ numB s.length ++ (leB (crc s)).take j) ∧ Frm [] w wr) (fun _ i _ => 8 - (intOf i).toNat)
  case atStart => exact ⟨0, Nat.zero_le _, rfl, by simpa using hv1, hf1⟩
  case round =>
    obtain ⟨j, hj, rfl, hvj, hFj⟩ := hrel
    have hzj := hFj.size
    by_cases hjk : j < 8
    · go_wp2_with (first | ((with_reducible refine wpList_at (o := ⟨some 36, _, _, _, _, _⟩) ?_); refine wpList_app1 elB rfl (.tmp 29) (.tmp 35) rfl w.heap.size _ _ _ _ _ hvj rfl rfl rfl (by simp [Value.oneCell']) (by simp at hl ⊢; omega) (by unfold maxLen; simp at hl ⊢; omega) (by omega) ?_; intro v4 w4 hv4 hg4 _))
      go_round
      case rel =>
        refine ⟨j + 1, by omega, by go_num, ?_, frm_grown1 hFj hvj hg4 (Nat.le_refl _)⟩
        have hb : (leB (crc s)).take (j + 1) = (leB (crc s)).take j ++ [UInt8.ofNat (crc s / 256 ^ j)] := by
          have hlen : j < (leB (crc s)).length := by simpa [leB] using hjk
          rw [List.take_succ_eq_append_getElem hlen]
          simp [leB]
        rw [hb, ← List.append_assoc]
        exact SB_snoc hv4 (byte_at _ _)
      case measure => simp only [intOf]; omega
    · obtain rfl : j = 8 := by omega
      rw [List.take_of_length_le (by simp [leB])] at hvj
      go_wp2_with (first | ((with_reducible refine wpList_at (o := ⟨some 40, _, _, _, _, _⟩) ?_); refine wpList_app elB rfl (.tmp 38) (.tmp 39) 9 rfl w.heap.size _ _ _ hvj rfl _ _ _ rfl (Src.ofString wr Tryz.underlying9 (ba s)) (by unfold maxLen; simp [leB] at hl ⊢; omega) (by simp [leB] at hl ⊢; omega) (by omega) ?_; intro v2 w2 hv2 hg2 _))
      go_ret2
      refine ⟨v2, rfl, ?_, frm_grown hFj hvj hg2 (Nat.le_refl _)⟩
      rw [byteCells_ba, ba_size] at hv2
      have := SB_app hv2
      unfold frameB
      simpa using this

theorem Put_long (v : Value) (s : Bytes) (w : World) (base : Nat) (xs : Bytes) (hv : SB base w v xs) (hx : xs.length ≤ 70368740000000) (h : s.length = 0 ∨ 65536 < s.length) (hs : s.length ≤ 70368740000000) :
    Calls Tryz.prog 47 #[v, .string (ba s)] w (RetSBE w xs 6) := by
  obtain ⟨sp, sc, rfl⟩ : ∃ sp sc, v = .slice sp xs.length sc := by
    rcases hv.2 with ⟨rfl, h⟩ | ⟨_, _, _, rfl, _⟩
    · exact ⟨none, 0, by rw [h]⟩
    · exact ⟨_, _, rfl⟩
  have hsrc : Src Tryz.prog 1 49 (.slice sp xs.length sc) xs.length (xs.map u8) w := by
    rcases hv.2 with ⟨h1, h2⟩ | ⟨g, cap, cur, h1, _⟩
    · injection h1 with h3 h4 h5
      subst h3 h5
      have hx : xs = [] := List.eq_nil_of_length_eq_zero h2
      subst hx
      exact Src.ofNil w elB.ht 0
    · injection h1 with h3 h4 h5
      subst h3
      exact Src.ofSlice w elB.ht ⟨g, 0, none⟩ _ _ _ (by simp) (World.ownsRow.cells hv (g := g) rfl) (fun u hu => by obtain ⟨_, _, rfl⟩ := List.mem_map.1 hu; rfl)
  rcases h with h | h
  · have t1 : ((s.length : Int) == 0) = true := int_eq (by omega)
    go_enter Tryz.func47, Tryz.ntmps47
    go_wp2_with (first | ((with_reducible refine wpList_at (o := ⟨some 18, _, _, _, _, _⟩) ?_); refine wpList_app elB rfl (.const (.slice none 0 0)) (.tmp 17) 49 rfl w.heap.size _ 0 [] (World.ownsRow_nil w _ _ _) rfl _ _ _ rfl hsrc (by unfold maxLen; omega) (by omega) (by omega) ?_; intro v2 w2 hv2 hg2 _))
    go_ret2
    refine ⟨v2, rfl, by unfold SB; simpa using hv2, (Frm.refl _ w).grown hg2 (fun k hk => by cases hk)⟩
  · have t1 : ((s.length : Int) == 0) = false := int_ne (by omega)
    have t2 : decide ((65536 : Int) < s.length) = true := dec_yes (by omega)
    go_enter Tryz.func47, Tryz.ntmps47
    go_wp2_with (first | ((with_reducible refine wpList_at (o := ⟨some 18, _, _, _, _, _⟩) ?_); refine wpList_app elB rfl (.const (.slice none 0 0)) (.tmp 17) 49 rfl w.heap.size _ 0 [] (World.ownsRow_nil w _ _ _) rfl _ _ _ rfl hsrc (by unfold maxLen; omega) (by omega) (by omega) ?_; intro v2 w2 hv2 hg2 _))
    go_ret2
    refine ⟨v2, rfl, by unfold SB; simpa using hv2, (Frm.refl _ w).grown hg2 (fun k hk => by cases hk)⟩
end Go.Proofs.YtlopfabbjilpnaaGreatDoor
