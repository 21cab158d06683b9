/- Package disk: Append, where the file is new. -/
import Derived.Test.YtlopfabbjilpnaaGreatDoorDiskB
set_option linter.unusedSimpArgs false
set_option linter.unusedVariables false
namespace Go.Proofs.YtlopfabbjilpnaaGreatDoor
open Go.RowKit Go.MapKept

set_option maxRecDepth 100000 in
set_option maxHeartbeats 2000000 in
/-- A new file; no fuse. -/
theorem App_new0 (bn bd bs b m : Nat) (es : Array MapEntry) (clk : Nat) (L : LF) (D : ADisk) (n s : Bytes) (w : World) (hE : AppEnv w bn bd bs b n s) (hD : DiskIs w b m es clk L D) (h1 : 0 < n.length) (h2 : n.length ≤ 24)
    (hbn : bn ∉ fp b m L) (hbd : bd ∉ fp b m L) (hbs : bs ∉ fp b m L) (hdead : D.dead = false) (hnum : D.files.length < 1000)
    (hr : s.length ≤ D.room) (hrm : D.room ≤ 4611686018427380000) (hf : getF D.files n = none) (hfu : D.fuse = -1) :
    Calls Tryz.prog 65 #[.pointer (some ⟨bn, 0, none⟩), .pointer (some ⟨bd, 0, none⟩), .pointer (some ⟨bs, 0, none⟩)] w
      (DRet w b (fp b m L) (0, { D with files := insF ⟨n, s, 0⟩ D.files, room := D.room - s.length, fuse := -1 })) := by
  obtain ⟨hn, hd, hs⟩ := hE
  have hlook := hD.get_none hf
  have ho := hD.own
  have hm := hD.map
  have hsz := hD.size
  have hbm : b ≠ m := by have := hD.nodup; simp only [List.nodup_cons, List.mem_cons, not_or] at this; exact this.1.1
  have hmb := hbm.symm
  obtain ⟨q1, q2, _⟩ := not_fp hbd
  obtain ⟨q4, q5, _⟩ := not_fp hbs
  obtain ⟨q6, q7, _⟩ := not_fp hbn
  obtain ⟨r1, r2, r3, r4⟩ := old_ne (lt_of_block ho)
  obtain ⟨r5, r6, r7, r8⟩ := old_ne (lt_of_block hm)
  obtain ⟨r9, r10, r11, r12⟩ := old_ne (lt_of_block hs)
  obtain ⟨r13, r14, r15, r16⟩ := old_ne (lt_of_block hd)
  obtain ⟨r17, r18, r19, r20⟩ := old_ne (lt_of_block hn)
  have hlk := fun W h => look_run keyS (T := 83) (et := 101) Tryz.underlying83 zeroPtr hD.ents n m true W h
  have hput := fun W h => put_run keyS (T := 83) (et := 101) Tryz.underlying83 hD.ents n (.pointer (some ⟨w.heap.size, 0, none⟩)) hlook m W h
  have hln := fun W h => len_run (P := Tryz.prog) (T := 83) (ty := 3) Tryz.underlying83 (m := m) (es := es) (clk := clk) W h
  have t1 : ((n.length : Int) == 0) = false := int_ne (by omega)
  have t2 : decide ((24 : Int) < n.length) = false := dec_no (by omega)
  have t3 : decide (D.room < s.length) = false := dec_no (by omega)
  have t7 : decide ((1000 : Int) ≤ es.size) = false := dec_no (by omega)
  rw [hfu, hdead] at ho
  simp only [if_true, hlook, Option.getD_none, Option.isSome_none] at hlk
  have HD := Lib.hid hD
  have HR := Lib.hid hr
  have HDD := Lib.hid hdead
  have HG := Lib.hid hf
  clear hD hlook hfu hdead hsz hf
  go_enter Tryz.func65, Tryz.ntmps65
  go_wp2
  go_quiet (fail)
  go_wp2
  go_quiet (fail)
  go_wp2
  go_region
  go_wp2
  go_region
  go_wp2
  go_ret
  refine DRet.come (w := w) HD.out ⟨n, s, 0⟩ w.heap.size HG.out { D with files := insF ⟨n, s, 0⟩ D.files, room := D.room - s.length, fuse := -1 } rfl 0 (Nat.le_refl _) ?_ ?_ ?_ ?_ rfl
  · (repeat (first | (with_reducible exact Frm.refl _ _) | assumption | (with_reducible refine Frm.alloc ?_ _) | ((with_reducible refine Frm.setCell ?_ ?_ _); rotate_left; (first | (focus (left; simp; done)) | (focus (right; simp; done)) | (focus (right; simp; omega)))) | ((with_reducible refine Frm.put ?_ _ ?_); rotate_left; (first | (focus (left; simp; done)) | (focus (right; simp; done)) | (focus (right; simp; omega)))) | (with_reducible refine Frm.drew ?_) | (with_reducible refine Frm.drewN ?_ _)))
  · rw [show (((D.room - s.length : Nat)) : Int) = D.room - s.length by have := HR.out; omega]
    simp [go_sem, ho, hm, hmb, hbm, r1, r2, r5, r6, HDD.out]
  · simp [go_sem, ho, hm, hmb, hbm, r1, r2, r5, r6]
  · simp [go_sem, ho, hm, hmb, hbm, r1, r2, r5, r6]
set_option maxRecDepth 100000 in
set_option maxHeartbeats 2000000 in
/-- A new file; a fuse that is long enough. -/
theorem App_new1 (bn bd bs b m : Nat) (es : Array MapEntry) (clk : Nat) (L : LF) (D : ADisk) (n s : Bytes) (w : World) (hE : AppEnv w bn bd bs b n s) (hD : DiskIs w b m es clk L D) (h1 : 0 < n.length) (h2 : n.length ≤ 24)
    (hbn : bn ∉ fp b m L) (hbd : bd ∉ fp b m L) (hbs : bs ∉ fp b m L) (hdead : D.dead = false) (hnum : D.files.length < 1000)
    (hr : s.length ≤ D.room) (hrm : D.room ≤ 4611686018427380000) (hf : getF D.files n = none) (k : Nat) (hfu : D.fuse = k) (hk : s.length ≤ k) (hk2 : k ≤ 9223372036854775807) :
    Calls Tryz.prog 65 #[.pointer (some ⟨bn, 0, none⟩), .pointer (some ⟨bd, 0, none⟩), .pointer (some ⟨bs, 0, none⟩)] w
      (DRet w b (fp b m L) (0, { D with files := insF ⟨n, s, 0⟩ D.files, room := D.room - s.length, fuse := k - s.length })) := by
  obtain ⟨hn, hd, hs⟩ := hE
  have hlook := hD.get_none hf
  have ho := hD.own
  have hm := hD.map
  have hsz := hD.size
  have hbm : b ≠ m := by have := hD.nodup; simp only [List.nodup_cons, List.mem_cons, not_or] at this; exact this.1.1
  have hmb := hbm.symm
  obtain ⟨q1, q2, _⟩ := not_fp hbd
  obtain ⟨q4, q5, _⟩ := not_fp hbs
  obtain ⟨q6, q7, _⟩ := not_fp hbn
  obtain ⟨r1, r2, r3, r4⟩ := old_ne (lt_of_block ho)
  obtain ⟨r5, r6, r7, r8⟩ := old_ne (lt_of_block hm)
  obtain ⟨r9, r10, r11, r12⟩ := old_ne (lt_of_block hs)
  obtain ⟨r13, r14, r15, r16⟩ := old_ne (lt_of_block hd)
  obtain ⟨r17, r18, r19, r20⟩ := old_ne (lt_of_block hn)
  have hlk := fun W h => look_run keyS (T := 83) (et := 101) Tryz.underlying83 zeroPtr hD.ents n m true W h
  have hput := fun W h => put_run keyS (T := 83) (et := 101) Tryz.underlying83 hD.ents n (.pointer (some ⟨w.heap.size, 0, none⟩)) hlook m W h
  have hln := fun W h => len_run (P := Tryz.prog) (T := 83) (ty := 3) Tryz.underlying83 (m := m) (es := es) (clk := clk) W h
  have t1 : ((n.length : Int) == 0) = false := int_ne (by omega)
  have t2 : decide ((24 : Int) < n.length) = false := dec_no (by omega)
  have t3 : decide (D.room < s.length) = false := dec_no (by omega)
  have t7 : decide ((1000 : Int) ≤ es.size) = false := dec_no (by omega)
  have t4 : ((k : Int) != -1) = true := by simp
  have t5 : decide (k < s.length) = false := dec_no (by omega)
  rw [hfu, hdead] at ho
  simp only [if_true, hlook, Option.getD_none, Option.isSome_none] at hlk
  have HD := Lib.hid hD
  have HR := Lib.hid hr
  have HDD := Lib.hid hdead
  have HG := Lib.hid hf
  clear hD hlook hfu hdead hsz hf
  go_enter Tryz.func65, Tryz.ntmps65
  go_wp2
  go_quiet (fail)
  go_wp2
  go_quiet (fail)
  go_wp2
  go_region
  go_wp2
  go_region
  go_wp2
  go_ret
  refine DRet.come (w := w) HD.out ⟨n, s, 0⟩ w.heap.size HG.out { D with files := insF ⟨n, s, 0⟩ D.files, room := D.room - s.length, fuse := k - s.length } rfl 0 (Nat.le_refl _) ?_ ?_ ?_ ?_ rfl
  · (repeat (first | (with_reducible exact Frm.refl _ _) | assumption | (with_reducible refine Frm.alloc ?_ _) | ((with_reducible refine Frm.setCell ?_ ?_ _); rotate_left; (first | (focus (left; simp; done)) | (focus (right; simp; done)) | (focus (right; simp; omega)))) | ((with_reducible refine Frm.put ?_ _ ?_); rotate_left; (first | (focus (left; simp; done)) | (focus (right; simp; done)) | (focus (right; simp; omega)))) | (with_reducible refine Frm.drew ?_) | (with_reducible refine Frm.drewN ?_ _)))
  · rw [show (((D.room - s.length : Nat)) : Int) = D.room - s.length by have := HR.out; omega]
    simp [go_sem, ho, hm, hmb, hbm, r1, r2, r5, r6, HDD.out]
  · simp [go_sem, ho, hm, hmb, hbm, r1, r2, r5, r6]
  · simp [go_sem, ho, hm, hmb, hbm, r1, r2, r5, r6]
set_option maxRecDepth 100000 in
set_option maxHeartbeats 2000000 in
/-- A new file; the power goes meanwhile. -/
theorem App_new2 (bn bd bs b m : Nat) (es : Array MapEntry) (clk : Nat) (L : LF) (D : ADisk) (n s : Bytes) (w : World) (hE : AppEnv w bn bd bs b n s) (hD : DiskIs w b m es clk L D) (h1 : 0 < n.length) (h2 : n.length ≤ 24)
    (hbn : bn ∉ fp b m L) (hbd : bd ∉ fp b m L) (hbs : bs ∉ fp b m L) (hdead : D.dead = false) (hnum : D.files.length < 1000)
    (hr : s.length ≤ D.room) (hrm : D.room ≤ 4611686018427380000) (hf : getF D.files n = none) (k : Nat) (hfu : D.fuse = k) (hk : k < s.length) :
    Calls Tryz.prog 65 #[.pointer (some ⟨bn, 0, none⟩), .pointer (some ⟨bd, 0, none⟩), .pointer (some ⟨bs, 0, none⟩)] w
      (DRet w b (fp b m L) (9, { files := insF ⟨n, s.take k, 0⟩ D.files, room := D.room - k, fuse := -1, dead := true })) := by
  obtain ⟨hn, hd, hs⟩ := hE
  have hlook := hD.get_none hf
  have ho := hD.own
  have hm := hD.map
  have hsz := hD.size
  have hbm : b ≠ m := by have := hD.nodup; simp only [List.nodup_cons, List.mem_cons, not_or] at this; exact this.1.1
  have hmb := hbm.symm
  obtain ⟨q1, q2, _⟩ := not_fp hbd
  obtain ⟨q4, q5, _⟩ := not_fp hbs
  obtain ⟨q6, q7, _⟩ := not_fp hbn
  obtain ⟨r1, r2, r3, r4⟩ := old_ne (lt_of_block ho)
  obtain ⟨r5, r6, r7, r8⟩ := old_ne (lt_of_block hm)
  obtain ⟨r9, r10, r11, r12⟩ := old_ne (lt_of_block hs)
  obtain ⟨r13, r14, r15, r16⟩ := old_ne (lt_of_block hd)
  obtain ⟨r17, r18, r19, r20⟩ := old_ne (lt_of_block hn)
  have hlk := fun W h => look_run keyS (T := 83) (et := 101) Tryz.underlying83 zeroPtr hD.ents n m true W h
  have hput := fun W h => put_run keyS (T := 83) (et := 101) Tryz.underlying83 hD.ents n (.pointer (some ⟨w.heap.size, 0, none⟩)) hlook m W h
  have hln := fun W h => len_run (P := Tryz.prog) (T := 83) (ty := 3) Tryz.underlying83 (m := m) (es := es) (clk := clk) W h
  have t1 : ((n.length : Int) == 0) = false := int_ne (by omega)
  have t2 : decide ((24 : Int) < n.length) = false := dec_no (by omega)
  have t3 : decide (D.room < s.length) = false := dec_no (by omega)
  have t7 : decide ((1000 : Int) ≤ es.size) = false := dec_no (by omega)
  have t4 : ((k : Int) != -1) = true := by simp
  have t5 : decide (k < s.length) = true := dec_yes (by omega)
  have t6 : k ≤ D.room := by omega
  rw [hfu, hdead] at ho
  simp only [if_true, hlook, Option.getD_none, Option.isSome_none] at hlk
  have HD := Lib.hid hD
  have HR := Lib.hid hr
  have HDD := Lib.hid hdead
  have HG := Lib.hid hf
  clear hD hlook hfu hdead hsz hf
  go_enter Tryz.func65, Tryz.ntmps65
  go_wp2
  go_quiet (fail)
  go_wp2
  go_quiet (fail)
  go_wp2
  go_region
  go_wp2
  go_region
  go_wp2
  go_end0
  dsimp only
  go_wp2
  go_ret
  refine DRet.come (w := w) HD.out ⟨n, s.take k, 0⟩ w.heap.size HG.out { files := insF ⟨n, s.take k, 0⟩ D.files, room := D.room - k, fuse := -1, dead := true } rfl 9 (Nat.le_refl _) ?_ ?_ ?_ ?_ rfl
  · (repeat (first | (with_reducible exact Frm.refl _ _) | assumption | (with_reducible refine Frm.alloc ?_ _) | ((with_reducible refine Frm.setCell ?_ ?_ _); rotate_left; (first | (focus (left; simp; done)) | (focus (right; simp; done)) | (focus (right; simp; omega)))) | ((with_reducible refine Frm.put ?_ _ ?_); rotate_left; (first | (focus (left; simp; done)) | (focus (right; simp; done)) | (focus (right; simp; omega)))) | (with_reducible refine Frm.drew ?_) | (with_reducible refine Frm.drewN ?_ _)))
  · rw [show (((D.room - k : Nat)) : Int) = D.room - k by omega]
    simp [go_sem, ho, hm, hmb, hbm, r1, r2, r5, r6, HDD.out]
  · simp [go_sem, ho, hm, hmb, hbm, r1, r2, r5, r6]
  · simp [go_sem, ho, hm, hmb, hbm, r1, r2, r5, r6]
end Go.Proofs.YtlopfabbjilpnaaGreatDoor
