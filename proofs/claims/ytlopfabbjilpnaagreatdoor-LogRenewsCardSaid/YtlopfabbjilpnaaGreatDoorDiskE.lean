/- Package disk: Sync, Cut, Remove. -/
import Derived.Test.YtlopfabbjilpnaaGreatDoorDiskD
set_option linter.unusedSimpArgs false
set_option linter.unusedVariables false
namespace Go.Proofs.YtlopfabbjilpnaaGreatDoor
open Go.RowKit Go.MapKept

/-- shorten: a file keeps its first k bytes. -/
theorem shorten_any (b c : Nat) (m dd fu : Value) (r : Nat) (x : Bytes) (sy : Value) (k : Nat) (w : World) (hb : w.heap[b]? = some (.cells #[m, .int .i64 r, fu, dd] 85 (0, 0)))
    (hc : w.heap[c]? = some (.cells #[sv x, sy] 103 (0, 0))) (hne : c ≠ b) (hk : k ≤ x.length) (hm : r + x.length ≤ 4611686018427387000) :
    Calls Tryz.prog 55 #[.pointer (some ⟨b, 0, none⟩), .pointer (some ⟨c, 0, none⟩), .int .i64 k] w fun en w' => en = .returned (.tuple #[]) ∧
      w'.heap[b]? = some (.cells #[m, .int .i64 (r + (x.length - k) : Nat), fu, dd] 85 (0, 0)) ∧ w'.heap[c]? = some (.cells #[sv (x.take k), sy] 103 (0, 0)) ∧ Frm [b, c] w w' := by
  have hne' := hne.symm
  have hx : x.length ≤ 4611686018427387000 := by omega
  have hr : r ≤ 4611686018427387000 := by omega
  have hi : (r : Int) + (x.length - k) = ((r + (x.length - k) : Nat) : Int) := by omega
  go_enter Tryz.func55, Tryz.ntmps55
  go_wp2
  go_region
  go_wp2
  go_end0
  refine ⟨rfl, ?_, ?_, by (repeat (first | (with_reducible exact Frm.refl _ _) | assumption | (with_reducible refine Frm.alloc ?_ _) | ((with_reducible refine Frm.setCell ?_ ?_ _); rotate_left; (first | (focus (left; simp; done)) | (focus (right; simp; done)) | (focus (right; simp; omega)))) | ((with_reducible refine Frm.put ?_ _ ?_); rotate_left; (first | (focus (left; simp; done)) | (focus (right; simp; done)) | (focus (right; simp; omega)))) | (with_reducible refine Frm.drew ?_) | (with_reducible refine Frm.drewN ?_ _)))⟩
  · rw [← hi]
    simp [go_sem, hb, hc, hne, hne']
    omega
  · simp [go_sem, hb, hc, hne, hne']

set_option maxRecDepth 100000 in
set_option maxHeartbeats 1000000 in
theorem Sync_any (b : Nat) (D : ADisk) (F : List Nat) (n : Bytes) (w : World) (hD : DiskAt w b D F) (hok : DOk D) :
    Calls Tryz.prog 51 #[.pointer (some ⟨b, 0, none⟩), sv n] w (DRet w b F (syncD D n)) := by
  have hD0 := hD
  obtain ⟨m, es, clk, L, hd, rfl⟩ := hD
  have ho := hd.own
  have hm := hd.map
  obtain ⟨r1, r2, r3, r4⟩ := old_ne (lt_of_block ho)
  obtain ⟨r5, r6, r7, r8⟩ := old_ne (lt_of_block hm)
  cases hdead : D.dead
  · rw [hdead] at ho
    have hlk := fun W h => look_run keyS (T := 83) (et := 101) Tryz.underlying83 zeroPtr hd.ents n m true W h
    cases hg : getF D.files n with
    | none =>
      have hr : syncD D n = (11, D) := by simp [syncD, withD, hdead, hg]
      have HR := Lib.hid hr
      simp only [if_true, hd.get_none hg, Option.getD_none, Option.isSome_none] at hlk
      clear hr hd hok
      go_enter Tryz.func51, Tryz.ntmps51
      go_wp2_with (first | (go_at_call 53; go_in) | (go_at_call 66; go_in) | (go_at_call 97; go_in))
      go_quiet (fail)
      go_wp2
      go_ret
      rw [HR.out]
      exact DRet.same hD0 (by (repeat (first | (with_reducible exact Frm.refl _ _) | assumption | (with_reducible refine Frm.alloc ?_ _) | ((with_reducible refine Frm.setCell ?_ ?_ _); rotate_left; (first | (focus (left; simp; done)) | (focus (right; simp; done)) | (focus (right; simp; omega)))) | ((with_reducible refine Frm.put ?_ _ ?_); rotate_left; (first | (focus (left; simp; done)) | (focus (right; simp; done)) | (focus (right; simp; omega)))) | (with_reducible refine Frm.drew ?_) | (with_reducible refine Frm.drewN ?_ _)))) rfl
    | some f =>
      have hr : syncD D n = (0, { D with files := setF D.files { f with synced := f.bytes.length } }) := by simp [syncD, withD, hdead, hg]
      have HR := Lib.hid hr
      obtain ⟨c, hcL, hfn, hlook⟩ := hd.get_some hg
      have hc := hd.file _ hcL
      obtain ⟨hcb, hcm, hbm⟩ := hd.ne hcL
      have hbc := hcb.symm
      simp only [if_true, hlook, Option.getD_some, Option.isSome_some] at hlk hc
      have HD := Lib.hid hd
      have HDD := Lib.hid hdead
      have hfl := hok.file (getF_mem hg).1
      clear hr hd hok hfn hlook hdead
      go_enter Tryz.func51, Tryz.ntmps51
      go_wp2_with (first | (go_at_call 53; go_in) | (go_at_call 66; go_in) | (go_at_call 97; go_in))
      go_quiet (fail)
      go_wp2
      go_ret
      rw [HR.out]
      refine DRet.upd (w := w) HD.out hcL (f' := { f with synced := f.bytes.length }) rfl { D with files := setF D.files { f with synced := f.bytes.length } } rfl 0 ?_ ?_ ?_ rfl
      · (repeat (first | (with_reducible exact Frm.refl _ _) | assumption | (with_reducible refine Frm.alloc ?_ _) | ((with_reducible refine Frm.setCell ?_ ?_ _); rotate_left; (first | (focus (left; simp; done)) | (focus (right; simp; done)) | (focus (right; simp; omega)))) | ((with_reducible refine Frm.put ?_ _ ?_); rotate_left; (first | (focus (left; simp; done)) | (focus (right; simp; done)) | (focus (right; simp; omega)))) | (with_reducible refine Frm.drew ?_) | (with_reducible refine Frm.drewN ?_ _)))
      · simp [go_sem, ho, hc, hbc, HDD.out]
      · simp [go_sem, hc]
  · rw [hdead] at ho
    have hr : syncD D n = (8, D) := by simp [syncD, withD, hdead]
    have HR := Lib.hid hr
    clear hr hd hok
    go_enter Tryz.func51, Tryz.ntmps51
    go_wp2_with (first | (go_at_call 53; go_in) | (go_at_call 66; go_in))
    go_ret
    rw [HR.out]
    exact DRet.same hD0 (by (repeat (first | (with_reducible exact Frm.refl _ _) | assumption | (with_reducible refine Frm.alloc ?_ _) | ((with_reducible refine Frm.setCell ?_ ?_ _); rotate_left; (first | (focus (left; simp; done)) | (focus (right; simp; done)) | (focus (right; simp; omega)))) | ((with_reducible refine Frm.put ?_ _ ?_); rotate_left; (first | (focus (left; simp; done)) | (focus (right; simp; done)) | (focus (right; simp; omega)))) | (with_reducible refine Frm.drew ?_) | (with_reducible refine Frm.drewN ?_ _)))) rfl
end Go.Proofs.YtlopfabbjilpnaaGreatDoor
