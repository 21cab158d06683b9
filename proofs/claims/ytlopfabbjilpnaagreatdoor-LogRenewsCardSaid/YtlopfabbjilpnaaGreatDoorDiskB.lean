/- Package disk: Append. -/
import Derived.Test.YtlopfabbjilpnaaGreatDoorDiskL
import Derived.RegionTactic
import Derived.BigQuiet
import Derived.Deep.QuietTactic
set_option linter.unusedSimpArgs false
set_option linter.unusedVariables false
namespace Go.Proofs.YtlopfabbjilpnaaGreatDoor
open Go.RowKit Go.MapKept

theorem zeroPtr (W : World) : (zeroValue 101).run Tryz.prog W = .ok (.pointer none) W := by kernel_rfl

/-- The closure's own surroundings: the name, the disk, the text. -/
structure AppEnv (w : World) (bn bd bs b : Nat) (n s : Bytes) : Prop where
  hn : w.heap[bn]? = some (.cells #[sv n] 9 (0, 0))
  hd : w.heap[bd]? = some (.cells #[.pointer (some ⟨b, 0, none⟩)] 27 (0, 0))
  hs : w.heap[bs]? = some (.cells #[sv s] 9 (0, 0))
theorem not_fp {x b m : Nat} {L : LF} (h : x ∉ fp b m L) : x ≠ b ∧ x ≠ m ∧ (∀ y ∈ L, x ≠ y.2) := by
  simp only [fp, List.mem_cons, not_or] at h
  exact ⟨h.1, h.2.1, fun y hy e => h.2.2 (List.mem_map.2 ⟨y, hy, e.symm⟩)⟩

theorem getF_look (L : LF) (n : Bytes) : look (kvOf L) n = ((L.find? fun x => decide (x.1.name = n)).map fun x => .pointer (some ⟨x.2, 0, none⟩)) := by
  induction L with
  | nil => rfl
  | cons x L ih =>
    unfold look kvOf at ih ⊢
    simp only [List.map_cons, List.find?_cons]
    by_cases h : x.1.name = n
    · simp [h]
    · simp only [h, decide_false]; exact ih

set_option maxRecDepth 100000 in
set_option maxHeartbeats 1000000 in
/-- The name may not be. -/
theorem App_arg (bn bd bs b : Nat) (n s : Bytes) (w : World) (hE : AppEnv w bn bd bs b n s) (hbad : n.length = 0 ∨ 24 < n.length) (hnl : n.length ≤ 4611686018427380000) :
    Calls Tryz.prog 65 #[.pointer (some ⟨bn, 0, none⟩), .pointer (some ⟨bd, 0, none⟩), .pointer (some ⟨bs, 0, none⟩)] w fun en w' => en = .returned (.int .i64 2) ∧ w = w' := by
  obtain ⟨hn, hd, hs⟩ := hE
  rcases hbad with h | h
  · have t1 : ((n.length : Int) == 0) = true := int_eq (by omega)
    go_enter Tryz.func65, Tryz.ntmps65
    go_wp2
    go_ret
    exact ⟨rfl, rfl⟩
  · have t1 : ((n.length : Int) == 0) = false := int_ne (by omega)
    have t2 : decide ((24 : Int) < n.length) = true := dec_yes (by omega)
    go_enter Tryz.func65, Tryz.ntmps65
    go_wp2
    go_ret
    exact ⟨rfl, rfl⟩

set_option maxRecDepth 100000 in
set_option maxHeartbeats 1000000 in
/-- There is no room for so many bytes. -/
theorem App_full (bn bd bs b m : Nat) (es : Array MapEntry) (clk : Nat) (L : LF) (D : ADisk) (n s : Bytes) (w : World) (hE : AppEnv w bn bd bs b n s) (hD : DiskIs w b m es clk L D) (h1 : 0 < n.length) (h2 : n.length ≤ 24) (hsl : s.length ≤ 4611686018427380000)
    (hr : D.room < s.length) (hrm : D.room ≤ 4611686018427380000) :
    Calls Tryz.prog 65 #[.pointer (some ⟨bn, 0, none⟩), .pointer (some ⟨bd, 0, none⟩), .pointer (some ⟨bs, 0, none⟩)] w fun en w' => en = .returned (.int .i64 7) ∧ Frm [] w w' := by
  obtain ⟨hn, hd, hs⟩ := hE
  have ho := hD.own
  have hm := hD.map
  have hlk := fun W h => look_run keyS (T := 83) (et := 101) Tryz.underlying83 zeroPtr hD.ents n m true W h
  have t1 : ((n.length : Int) == 0) = false := int_ne (by omega)
  have t2 : decide ((24 : Int) < n.length) = false := dec_no (by omega)
  have t3 : decide ((D.room : Int) < s.length) = true := dec_yes (by omega)
  simp only [if_true] at hlk
  obtain ⟨lv, hlv⟩ : ∃ v, v = (look (kvOf L) n).getD (.pointer none) := ⟨_, rfl⟩
  obtain ⟨lb, hlb⟩ : ∃ v, v = (look (kvOf L) n).isSome := ⟨_, rfl⟩
  rw [← hlv, ← hlb] at hlk
  clear hlv hlb hD
  go_enter Tryz.func65, Tryz.ntmps65
  go_wp2
  go_quiet (fail)
  go_wp2
  go_quiet (fail)
  go_wp2
  go_ret
  exact ⟨rfl, by (repeat (first | (with_reducible exact Frm.refl _ _) | assumption | (with_reducible refine Frm.alloc ?_ _) | ((with_reducible refine Frm.setCell ?_ ?_ _); rotate_left; (first | (focus (left; simp; done)) | (focus (right; simp; done)) | (focus (right; simp; omega)))) | ((with_reducible refine Frm.put ?_ _ ?_); rotate_left; (first | (focus (left; simp; done)) | (focus (right; simp; done)) | (focus (right; simp; omega)))) | (with_reducible refine Frm.drew ?_) | (with_reducible refine Frm.drewN ?_ _)))⟩

/-- What Append's closure leaves of a file that was there. -/
def appF (f : AFile) (s : Bytes) : AFile := { f with bytes := f.bytes ++ s }

set_option maxRecDepth 100000 in
set_option maxHeartbeats 2000000 in
/-- The file is there; no fuse. -/
theorem App_found0 (bn bd bs b m : Nat) (es : Array MapEntry) (clk : Nat) (L : LF) (D : ADisk) (n s : Bytes) (w : World) (hE : AppEnv w bn bd bs b n s) (hD : DiskIs w b m es clk L D) (h1 : 0 < n.length) (h2 : n.length ≤ 24)
    (hbn : bn ∉ fp b m L) (hbd : bd ∉ fp b m L) (hbs : bs ∉ fp b m L) (hdead : D.dead = false)
    (hr : s.length ≤ D.room) (hrm : D.room ≤ 4611686018427380000) (f : AFile) (hf : getF D.files n = some f) (hfl : f.bytes.length ≤ 4611686018427380000) (hfu : D.fuse = -1) :
    Calls Tryz.prog 65 #[.pointer (some ⟨bn, 0, none⟩), .pointer (some ⟨bd, 0, none⟩), .pointer (some ⟨bs, 0, none⟩)] w
      (DRet w b (fp b m L) (0, { D with files := setF D.files (appF f s), room := D.room - s.length, fuse := -1 })) := by
  obtain ⟨hn, hd, hs⟩ := hE
  obtain ⟨c, hcL, hfn, hlook⟩ := hD.get_some hf
  have ho := hD.own
  have hm := hD.map
  have hc := hD.file _ hcL
  obtain ⟨hcb, hcm, hbm⟩ := hD.ne hcL
  obtain ⟨q1, q2, q3⟩ := not_fp hbd
  obtain ⟨q4, q5, q6⟩ := not_fp hbs
  have q7 := q3 _ hcL
  have q8 := q6 _ hcL
  have q9 := hcb.symm
  simp only at q7 q8
  have hlk := fun W h => look_run keyS (T := 83) (et := 101) Tryz.underlying83 zeroPtr hD.ents n m true W h
  have t1 : ((n.length : Int) == 0) = false := int_ne (by omega)
  have t2 : decide ((24 : Int) < n.length) = false := dec_no (by omega)
  have t3 : decide (D.room < s.length) = false := dec_no (by omega)
  rw [hfu, hdead] at ho
  simp only [if_true, hlook, Option.getD_some, Option.isSome_some] at hlk
  simp only at hc
  have HD := Lib.hid hD
  have HR := Lib.hid hr
  have HFN := Lib.hid hfn
  have HDD := Lib.hid hdead
  clear hD hfn hlook hf hfu q3 q6 hdead
  go_enter Tryz.func65, Tryz.ntmps65
  go_wp2
  go_quiet (fail)
  go_wp2
  go_quiet (fail)
  go_wp2
  go_region
  go_wp2
  go_ret
  refine DRet.upd (w := w) HD.out hcL (f' := appF f s) rfl { D with files := setF D.files (appF f s), room := D.room - s.length, fuse := -1 } rfl 0 ?_ ?_ ?_ rfl
  · (repeat (first | (with_reducible exact Frm.refl _ _) | assumption | (with_reducible refine Frm.alloc ?_ _) | ((with_reducible refine Frm.setCell ?_ ?_ _); rotate_left; (first | (focus (left; simp; done)) | (focus (right; simp; done)) | (focus (right; simp; omega)))) | ((with_reducible refine Frm.put ?_ _ ?_); rotate_left; (first | (focus (left; simp; done)) | (focus (right; simp; done)) | (focus (right; simp; omega)))) | (with_reducible refine Frm.drew ?_) | (with_reducible refine Frm.drewN ?_ _)))
  · rw [show (((D.room - s.length : Nat)) : Int) = D.room - s.length by have := HR.out; omega]
    simp [go_sem, ho, hc, hcb, q9, HDD.out]
  · simp [go_sem, hc, hcb, appF]
set_option maxRecDepth 100000 in
set_option maxHeartbeats 2000000 in
/-- The file is there; a fuse that is long enough. -/
theorem App_found1 (bn bd bs b m : Nat) (es : Array MapEntry) (clk : Nat) (L : LF) (D : ADisk) (n s : Bytes) (w : World) (hE : AppEnv w bn bd bs b n s) (hD : DiskIs w b m es clk L D) (h1 : 0 < n.length) (h2 : n.length ≤ 24)
    (hbn : bn ∉ fp b m L) (hbd : bd ∉ fp b m L) (hbs : bs ∉ fp b m L) (hdead : D.dead = false)
    (hr : s.length ≤ D.room) (hrm : D.room ≤ 4611686018427380000) (f : AFile) (hf : getF D.files n = some f) (hfl : f.bytes.length ≤ 4611686018427380000) (k : Nat) (hfu : D.fuse = k) (hk : s.length ≤ k) (hk2 : k ≤ 9223372036854775807) :
    Calls Tryz.prog 65 #[.pointer (some ⟨bn, 0, none⟩), .pointer (some ⟨bd, 0, none⟩), .pointer (some ⟨bs, 0, none⟩)] w
      (DRet w b (fp b m L) (0, { D with files := setF D.files (appF f s), room := D.room - s.length, fuse := k - s.length })) := by
  obtain ⟨hn, hd, hs⟩ := hE
  obtain ⟨c, hcL, hfn, hlook⟩ := hD.get_some hf
  have ho := hD.own
  have hm := hD.map
  have hc := hD.file _ hcL
  obtain ⟨hcb, hcm, hbm⟩ := hD.ne hcL
  obtain ⟨q1, q2, q3⟩ := not_fp hbd
  obtain ⟨q4, q5, q6⟩ := not_fp hbs
  have q7 := q3 _ hcL
  have q8 := q6 _ hcL
  have q9 := hcb.symm
  simp only at q7 q8
  have hlk := fun W h => look_run keyS (T := 83) (et := 101) Tryz.underlying83 zeroPtr hD.ents n m true W h
  have t1 : ((n.length : Int) == 0) = false := int_ne (by omega)
  have t2 : decide ((24 : Int) < n.length) = false := dec_no (by omega)
  have t3 : decide (D.room < s.length) = false := dec_no (by omega)
  have t4 : ((k : Int) != -1) = true := by simp
  have t5 : decide (k < s.length) = false := dec_no (by omega)
  rw [hfu, hdead] at ho
  simp only [if_true, hlook, Option.getD_some, Option.isSome_some] at hlk
  simp only at hc
  have HD := Lib.hid hD
  have HR := Lib.hid hr
  have HFN := Lib.hid hfn
  have HDD := Lib.hid hdead
  clear hD hfn hlook hf hfu q3 q6 hdead
  go_enter Tryz.func65, Tryz.ntmps65
  go_wp2
  go_quiet (fail)
  go_wp2
  go_quiet (fail)
  go_wp2
  go_region
  go_wp2
  go_ret
  refine DRet.upd (w := w) HD.out hcL (f' := appF f s) rfl { D with files := setF D.files (appF f s), room := D.room - s.length, fuse := k - s.length } rfl 0 ?_ ?_ ?_ rfl
  · (repeat (first | (with_reducible exact Frm.refl _ _) | assumption | (with_reducible refine Frm.alloc ?_ _) | ((with_reducible refine Frm.setCell ?_ ?_ _); rotate_left; (first | (focus (left; simp; done)) | (focus (right; simp; done)) | (focus (right; simp; omega)))) | ((with_reducible refine Frm.put ?_ _ ?_); rotate_left; (first | (focus (left; simp; done)) | (focus (right; simp; done)) | (focus (right; simp; omega)))) | (with_reducible refine Frm.drew ?_) | (with_reducible refine Frm.drewN ?_ _)))
  · rw [show (((D.room - s.length : Nat)) : Int) = D.room - s.length by have := HR.out; omega]
    simp [go_sem, ho, hc, hcb, q9, HDD.out]
  · simp [go_sem, hc, hcb, appF]
set_option maxRecDepth 100000 in
set_option maxHeartbeats 2000000 in
/-- The file is there; the power goes meanwhile. -/
theorem App_found2 (bn bd bs b m : Nat) (es : Array MapEntry) (clk : Nat) (L : LF) (D : ADisk) (n s : Bytes) (w : World) (hE : AppEnv w bn bd bs b n s) (hD : DiskIs w b m es clk L D) (h1 : 0 < n.length) (h2 : n.length ≤ 24)
    (hbn : bn ∉ fp b m L) (hbd : bd ∉ fp b m L) (hbs : bs ∉ fp b m L) (hdead : D.dead = false)
    (hr : s.length ≤ D.room) (hrm : D.room ≤ 4611686018427380000) (f : AFile) (hf : getF D.files n = some f) (hfl : f.bytes.length ≤ 4611686018427380000) (k : Nat) (hfu : D.fuse = k) (hk : k < s.length) :
    Calls Tryz.prog 65 #[.pointer (some ⟨bn, 0, none⟩), .pointer (some ⟨bd, 0, none⟩), .pointer (some ⟨bs, 0, none⟩)] w
      (DRet w b (fp b m L) (9, { files := setF D.files (appF f (s.take k)), room := D.room - k, fuse := -1, dead := true })) := by
  obtain ⟨hn, hd, hs⟩ := hE
  obtain ⟨c, hcL, hfn, hlook⟩ := hD.get_some hf
  have ho := hD.own
  have hm := hD.map
  have hc := hD.file _ hcL
  obtain ⟨hcb, hcm, hbm⟩ := hD.ne hcL
  obtain ⟨q1, q2, q3⟩ := not_fp hbd
  obtain ⟨q4, q5, q6⟩ := not_fp hbs
  have q7 := q3 _ hcL
  have q8 := q6 _ hcL
  have q9 := hcb.symm
  simp only at q7 q8
  have hlk := fun W h => look_run keyS (T := 83) (et := 101) Tryz.underlying83 zeroPtr hD.ents n m true W h
  have t1 : ((n.length : Int) == 0) = false := int_ne (by omega)
  have t2 : decide ((24 : Int) < n.length) = false := dec_no (by omega)
  have t3 : decide (D.room < s.length) = false := dec_no (by omega)
  have t4 : ((k : Int) != -1) = true := by simp
  have t5 : decide (k < s.length) = true := dec_yes (by omega)
  have t6 : k ≤ D.room := by omega
  rw [hfu, hdead] at ho
  simp only [if_true, hlook, Option.getD_some, Option.isSome_some] at hlk
  simp only at hc
  have HD := Lib.hid hD
  have HR := Lib.hid hr
  have HFN := Lib.hid hfn
  have HDD := Lib.hid hdead
  clear hD hfn hlook hf hfu q3 q6 hdead
  go_enter Tryz.func65, Tryz.ntmps65
  go_wp2
  go_quiet (fail)
  go_wp2
  go_quiet (fail)
  go_wp2
  go_region
  go_wp2
  go_end0
  dsimp only
  go_wp2
  go_ret
  refine DRet.upd (w := w) HD.out hcL (f' := appF f (s.take k)) rfl { files := setF D.files (appF f (s.take k)), room := D.room - k, fuse := -1, dead := true } rfl 9 ?_ ?_ ?_ rfl
  · (repeat (first | (with_reducible exact Frm.refl _ _) | assumption | (with_reducible refine Frm.alloc ?_ _) | ((with_reducible refine Frm.setCell ?_ ?_ _); rotate_left; (first | (focus (left; simp; done)) | (focus (right; simp; done)) | (focus (right; simp; omega)))) | ((with_reducible refine Frm.put ?_ _ ?_); rotate_left; (first | (focus (left; simp; done)) | (focus (right; simp; done)) | (focus (right; simp; omega)))) | (with_reducible refine Frm.drew ?_) | (with_reducible refine Frm.drewN ?_ _)))
  · rw [show (((D.room - k : Nat)) : Int) = D.room - k by omega]
    simp [go_sem, ho, hc, hcb, q9, HDD.out]
  · simp [go_sem, hc, hcb, appF]
end Go.Proofs.YtlopfabbjilpnaaGreatDoor
