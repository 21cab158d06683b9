/- Package log: the calls of a log: Sync, Segments. -/
import Derived.Test.YtlopfabbjilpnaaGreatDoorLogD
import Derived.StillTailTactics
set_option linter.unusedSimpArgs false
set_option linter.unusedVariables false
namespace Go.Proofs.YtlopfabbjilpnaaGreatDoor
open Go.RowKit

/-- A sound disk: bounds within which nothing wraps, names that can be read. -/
structure DGood (D : ADisk) : Prop where
  mass : D.mass ≤ 4294967296
  lo : -1 ≤ D.fuse
  hi : D.fuse ≤ 9223372036854775807
  names : ∀ f ∈ D.files, f.name.length ≤ 24
  num : D.files.length ≤ 1000
  syn : ∀ f ∈ D.files, f.synced ≤ f.bytes.length
  seg : SegOk D.files
  sort : Sorted D.files
theorem DGood.ok {D : ADisk} (h : DGood D) : DOk D := ⟨Nat.le_trans h.mass (by omega), h.lo, h.hi⟩
theorem segsF_mem {l : List AFile} {x : Nat × AFile} (h : x ∈ segsF l) : x.2 ∈ l ∧ numberF x.2.name = some x.1 := by
  obtain ⟨f, hf, hx⟩ := List.mem_filterMap.1 h
  cases hn : numberF f.name with
  | none => simp [hn] at hx
  | some n => simp [hn] at hx; subst hx; exact ⟨hf, hn⟩
theorem numberF_le {s : Bytes} {n : Nat} (h : numberF s = some n) : n ≤ 4294967295 ∧ 0 < n := by
  unfold numberF at h
  split at h
  · split at h
    · rename_i u hu
      have := Lib.parseUintB_le hu
      split at h
      · cases h
      · cases h; omega
    · cases h
  · cases h
theorem DGood.segs {D : ADisk} (h : DGood D) : SegsOk (segsF D.files) := by
  refine ⟨Nat.le_trans (List.length_filterMap_le _ _) h.num, fun x hx => h.syn _ (segsF_mem hx).1, fun x hx => ?_, fun x hx => ?_⟩
  · have := len_le_sumB (segsF_mem hx).1
    have := h.mass
    unfold ADisk.mass at this
    omega
  · have := (numberF_le (segsF_mem hx).2).1
    omega
theorem DGood.segments {D : ADisk} (h : DGood D) {b : Nat} {F : List Nat} (w : World) (hD : DiskAt w b D F) : Calls Tryz.prog 57 #[.pointer (some ⟨b, 0, none⟩)] w (RetSegs w (segsF D.files)) :=
  segments_any b D F w hD h.names h.num h.seg

theorem i64w {k : Int} (h0 : -9223372036854775808 ≤ k) (h : k ≤ 9223372036854775807) : IntKind.i64.wrap k = k := by
  simp only [IntKind.wrap, IntKind.bits, IntKind.signed, Bool.true_and]
  split <;> simp_all <;> omega
def LogAt (w : World) (lb b : Nat) : Prop := w.heap[lb]? = some (.cells #[.pointer (some ⟨b, 0, none⟩)] 111 (0, 0))

def logSyncD (D : ADisk) : Int × ADisk := match (segsF D.files).getLast? with | none => (0, D) | some x => syncD D x.2.name

set_option maxRecDepth 100000 in
set_option maxHeartbeats 1000000 in
theorem LogSync_any (lb b : Nat) (D : ADisk) (F : List Nat) (w : World) (hl : LogAt w lb b) (hD : DiskAt w b D F) (hg : DGood D) :
    Calls Tryz.prog 22 #[.pointer (some ⟨lb, 0, none⟩)] w (DRet w b F (logSyncD D)) := by
  unfold LogAt at hl
  have hseg := hg.segments w hD
  cases hs : (segsF D.files).getLast? with
  | none =>
    have hR := Lib.hid (show logSyncD D = (0, D) by simp [logSyncD, hs])
    rw [List.getLast?_eq_none_iff] at hs
    rw [hs] at hseg
    clear hs
    have HD := Lib.hid hD
    clear hD hg
    go_enter Tryz.func22, Tryz.ntmps22
    go_wp2_with (go_at_call 57; refine hseg.mono ?_; rintro e w1 ⟨v, rfl, hrow, hF1⟩; obtain ⟨a, c, rfl, hrw⟩ := SG_row hrow)
    go_ret
    rw [hR.out]
    exact DRet.same HD.out hF1 rfl
  | some x =>
    obtain ⟨n, f⟩ := x
    have hR := Lib.hid (show logSyncD D = syncD D f.name by simp [logSyncD, hs])
    have hsy := fun W hW => Sync_any b D F f.name W hW hg.ok
    obtain ⟨k, hk⟩ : ∃ k, (segsF D.files).length = k + 1 := by
      cases h : segsF D.files with
      | nil => rw [h] at hs; cases hs
      | cons a l => exact ⟨l.length, rfl⟩
    have hlast : (segsF D.files)[k]? = some (n, f) := by
      rw [List.getLast?_eq_getElem?, hk] at hs
      exact hs
    have HD := Lib.hid hD
    have HK := Lib.hid hlast
    have hkb : k ≤ 1000 := by have := hg.segs.num; omega
    have hwk : IntKind.i64.wrap (k : Int) = k := i64w (by omega) (by omega)
    have hk0 : (0 : Int) ≤ (k : Int) := by omega
    have hk1 : (k : Int) < (k : Int) + 1 := by omega
    have hk2 : k < k + 1 := by omega
    clear hs hD hg hlast
    go_enter Tryz.func22, Tryz.ntmps22
    go_wp2_with (go_at_call 57; refine hseg.mono ?_; rintro e w1 ⟨v, rfl, hrow, hF1⟩; obtain ⟨a, c, rfl, hrw⟩ := SG_row hrow; obtain ⟨g, cur, rfl, hg2, e0, e1, e2, e3⟩ := hrw k (n, f) HK.out; have hl1 := hF1.blk hl (by simp); simp only [hk] at *)
    go_still_tail 12, (by kernel_rfl)
    change wpList _ _ _ _ _ w1.drew
    go_wp2_with (go_at_call 51; refine (hsy w1.drew (HD.out.frm0 hF1.drew)).mono ?_; rintro e w2 ⟨rfl, F2, hd2, hf2, hn2⟩)
    go_ret
    rw [hR.out]
    exact DRet.from hF1 ⟨rfl, F2, hd2, (Frm.refl _ w1).drew.trans hf2, hn2⟩
end Go.Proofs.YtlopfabbjilpnaaGreatDoor
