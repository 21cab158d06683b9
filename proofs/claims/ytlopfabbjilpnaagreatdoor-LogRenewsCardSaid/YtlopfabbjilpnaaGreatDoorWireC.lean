/- Package wire: what is written. -/
import Derived.Test.YtlopfabbjilpnaaGreatDoorSl
import Derived.Test.YtlopfabbjilpnaaGreatDoorWireB
set_option linter.unusedSimpArgs false
set_option linter.unusedVariables false
namespace Go.Proofs.YtlopfabbjilpnaaGreatDoor
open Go.RowKit

theorem elB : El Tryz.prog 49 5 1 1 (.int .u8 0) := El.mk' Tryz.underlying49 (by kernel_rfl) rfl (by decide)

/-- The bytes of a number. -/
def beB (k n : Nat) : Bytes := (List.range k).map fun j => UInt8.ofNat (n / 256 ^ (k - 1 - j))
def numB (n : Nat) : Bytes := if n < 248 then [UInt8.ofNat n] else UInt8.ofNat (247 + numW n) :: beB (numW n) n

/-- A call hands back a slice of bytes of its own, and leaves what was there. -/
def RetSB (w : World) (l : Bytes) (en : Ending) (w' : World) : Prop := ∃ sv, en = .returned sv ∧ SB w.heap.size w' sv l ∧ Frm [] w w'

theorem numW_le (n : Nat) (h : n ≤ 18446744073709551615) : numW n ≤ 8 := by
  have hb : Lib.bitLen n ≤ 64 := Lib.bitLen_le n 64 (by omega) (by omega)
  unfold numW; omega

set_option maxRecDepth 100000 in
set_option maxHeartbeats 1000000 in
theorem putNum_any (base : Nat) (v : Value) (xs : Bytes) (n : Nat) (w : World) (hv : SB base w v xs) (hx : xs.length ≤ 140737488000000) (hn : n < 18446744073709551616) :
    Calls Tryz.prog 49 #[v, .int .u64 n] w (RetSB w (xs ++ numB n)) := by
  obtain ⟨i0, hi0, hz0, hs0, hb0⟩ := elB.hi
  obtain ⟨sp, sc, rfl⟩ : ∃ sp sc, v = .slice sp xs.length sc := by
    rcases hv.2 with ⟨rfl, h⟩ | ⟨_, _, _, rfl, _⟩
    · exact ⟨none, 0, by rw [h]⟩
    · exact ⟨_, _, rfl⟩
  have hmk : ∀ w : World, (Instr.makeSlice 49 (.int .i64 xs.length) (.int .i64 (xs.length + 9))).run Tryz.prog w = .ok (.slice (some ⟨w.heap.size, 0, none⟩) xs.length (xs.length + 9)) (w.alloc (.cells (madeCells #[.int .u8 0] (xs.length + 9)) 5)) := fun w => by
    have := run_make (P := Tryz.prog) w 49 5 i0 (.int .u8 0) elB.ht hi0 hz0 .i64 .i64 xs.length (xs.length + 9) (by omega) (by omega) (by rw [hb0]; omega) (by omega)
    have e : ((xs.length : Int) + 9).toNat = xs.length + 9 := by omega
    simpa [hs0, e, Value.cells] using this
  clear hi0 hz0 hs0 hb0
  by_cases hn1 : n < 248
  · have hN := Lib.hid (show numB n = [UInt8.ofNat n] by simp [numB, hn1])
    go_enter Tryz.func49, Tryz.ntmps49
    go_wp2_with (first | ((with_reducible refine wpList_at (o := ⟨some 16, _, _, _, _, _⟩) ?_); refine wpList_copyB elB rfl _ _ rfl base w.heap.size w.heap.size (xs.length + 9) _ _ xs rfl (heap_alloc_new _ _) (by simp [madeCells]) (by omega) (by unfold maxLen; omega) rfl (hv.alloc _) (Nat.le_refl _) ?_; intro w1 hv1 hg1; have hz1 : w.heap.size + 1 ≤ w1.heap.size := (by have := hg1.size; simpa using this)) | ((with_reducible refine wpList_at (o := ⟨some 23, _, _, _, _, _⟩) ?_); refine wpList_app1 elB rfl (.tmp 19) (.tmp 22) rfl w.heap.size _ _ _ _ _ hv1 rfl rfl rfl (by simp [Value.oneCell']) (by omega) (by unfold maxLen; omega) (by omega) ?_; intro v2 w2 hv2 hg2 _))
    go_ret
    refine ⟨v2, rfl, ?_, ?_⟩
    · rw [hN.out]; unfold SB; rw [List.map_append, List.map_singleton, u8_ofNat n (by omega)]; simpa using hv2
    · exact frm_grown1 (((Frm.refl _ w).alloc _).grown hg1 (by simp)) hv1 hg2 (Nat.le_refl _)
  · obtain ⟨k, hk⟩ : ∃ k, k = numW n := ⟨_, rfl⟩
    have hk8 : k ≤ 8 := by rw [hk]; exact numW_le n (by omega)
    have hN := Lib.hid (show numB n = UInt8.ofNat (247 + k) :: beB k n by simp [numB, hn1, hk])
    have hw := width_any n
    rw [← hk] at hw
    have hK := Lib.hid hk
    clear hk
    go_enter Tryz.func49, Tryz.ntmps49
    go_wp2_with (first | ((with_reducible refine wpList_at (o := ⟨some 16, _, _, _, _, _⟩) ?_); refine wpList_copyB elB rfl _ _ rfl base w.heap.size w.heap.size (xs.length + 9) _ _ xs rfl (heap_alloc_new _ _) (by simp [madeCells]) (by omega) (by unfold maxLen; omega) rfl (hv.alloc _) (Nat.le_refl _) ?_; intro w1 hv1 hg1; have hz1 : w.heap.size + 1 ≤ w1.heap.size := (by have := hg1.size; simpa using this)) | (go_at_call 86; refine (hw _ hn).mono ?_; rintro e w2 ⟨rfl, rfl⟩) | ((with_reducible refine wpList_at (o := ⟨some 31, _, _, _, _, _⟩) ?_); refine wpList_app1 elB rfl (.tmp 26) (.tmp 30) rfl w.heap.size _ _ _ _ _ hv1 rfl rfl rfl (by simp [Value.oneCell']) (by omega) (by unfold maxLen; omega) (by omega) ?_; intro v2 w3 hv2 hg2 _))
    have hF2 : Frm [] w w3 := frm_grown1 (((Frm.refl _ w).alloc _).grown hg1 (by simp)) hv1 hg2 (Nat.le_refl _)
    go_loopw [5, 7] (fun o i wr => ∃ j : Nat, j ≤ k ∧ i = .int .i64 ((k : Int) - 1 - j) ∧ SB w.heap.size wr o (xs ++ UInt8.ofNat (247 + k) :: (beB k n).take j) ∧ Frm [] w wr) (fun _ i _ => (intOf i + 1).toNat)
    case atStart => exact ⟨0, Nat.zero_le _, by simp, by unfold SB; rw [List.map_append, List.map_cons, u8_ofNat _ (by omega)]; simpa using hv2, hF2⟩
    case round =>
      obtain ⟨j, hj, rfl, hvj, hFj⟩ := hrel
      have hzj := hFj.size
      by_cases hjk : j < k
      · have hge : (0 : Int) ≤ (k : Int) - 1 - j := by omega
        go_wp2_with (first | ((with_reducible refine wpList_at (o := ⟨some 45, _, _, _, _, _⟩) ?_); refine wpList_app1 elB rfl (.tmp 38) (.tmp 44) rfl w.heap.size _ _ _ _ _ hvj rfl rfl rfl (by simp [Value.oneCell']) (by simp; omega) (by unfold maxLen; simp; omega) (by omega) ?_; intro v4 w4 hv4 hg4 _))
        go_round
        case rel =>
          refine ⟨j + 1, by omega, by go_num, ?_, frm_grown1 hFj hvj hg4 (Nat.le_refl _)⟩
          have hb : (beB k n).take (j + 1) = (beB k n).take j ++ [UInt8.ofNat (n / 256 ^ (k - 1 - j))] := by
            have hlen : j < (beB k n).length := by simpa [beB] using hjk
            rw [List.take_succ_eq_append_getElem hlen]
            simp [beB]
          clear hg4
          rw [hb]
          unfold SB
          have he : Value.int .u8 ((n : Int) / 2 ^ (8 * (k - 1 - j)) % 256) = u8 (UInt8.ofNat (n / 256 ^ (k - 1 - j))) := by
            rw [u8_mod, show (256 : Nat) ^ (k - 1 - j) = 2 ^ (8 * (k - 1 - j)) by rw [Nat.pow_mul]]
            norm_cast
          rw [he] at hv4
          simpa [Nat.add_assoc] using hv4
        case measure => simp only [intOf]; omega
      · obtain rfl : j = k := by omega
        go_wp2
        go_ret
        rw [hN.out]
        refine ⟨_, rfl, ?_, hFj⟩
        rwa [List.take_of_length_le (by simp [beB])] at hvj

def strB (s : Bytes) : Bytes := numB s.length ++ s
set_option maxRecDepth 100000 in
theorem putStr_any (base : Nat) (v : Value) (xs s : Bytes) (w : World) (hv : SB base w v xs) (hx : xs.length ≤ 70368740000000) (hs : s.length ≤ 70368740000000) :
    Calls Tryz.prog 48 #[v, .string (ba s)] w (RetSB w (xs ++ strB s)) := by
  have hc := putNum_any base _ xs s.length w hv (by omega) (by omega)
  have hl : (xs ++ numB s.length).length ≤ 70368740000010 := by
    have h8 := numW_le s.length (by omega)
    have : (numB s.length).length ≤ 9 := by unfold numB; split <;> simp [beB]; omega
    simp; omega
  go_enter Tryz.func48, Tryz.ntmps48
  go_wp2_with (first | (go_at_call 49; refine hc.mono ?_; rintro e w1 ⟨v1, rfl, hv1, hf1⟩; have hz1 := hf1.size) | ((with_reducible refine wpList_at (o := ⟨some 11, _, _, _, _, _⟩) ?_); refine wpList_app elB rfl (.tmp 9) (.tmp 10) 9 rfl w.heap.size _ _ _ hv1 rfl _ _ _ rfl (Src.ofString w1 Tryz.underlying9 (ba s)) (by unfold maxLen; simp at hl ⊢; omega) (by simp at hl ⊢; omega) (by omega) ?_; intro v2 w2 hv2 hg2 _))
  go_ret
  refine ⟨v2, rfl, ?_, frm_grown hf1 hv1 hg2 (Nat.le_refl _)⟩
  rw [byteCells_ba] at hv2
  unfold SB strB
  simpa [Nat.add_assoc] using hv2
end Go.Proofs.YtlopfabbjilpnaaGreatDoor
