/- Package disk: Cut. -/
import Derived.Test.YtlopfabbjilpnaaGreatDoorDiskE
set_option linter.unusedSimpArgs false
set_option linter.unusedVariables false
namespace Go.Proofs.YtlopfabbjilpnaaGreatDoor
open Go.RowKit Go.MapKept

set_option maxRecDepth 100000 in
set_option maxHeartbeats 2000000 in
theorem Cut_any (b : Nat) (D : ADisk) (F : List Nat) (n : Bytes) (k : Int) (w : World) (hD : DiskAt w b D F) (hok : DOk D) :
    Calls Tryz.prog 61 #[.pointer (some ⟨b, 0, none⟩), sv n, .int .i64 k] w (DRet w b F (cutD D n k)) := by
  have hD0 := hD
  obtain ⟨m, es, clk, L, hd, rfl⟩ := hD
  have ho := hd.own
  have hm := hd.map
  obtain ⟨r1, r2, r3, r4⟩ := old_ne (lt_of_block ho)
  obtain ⟨r5, r6, r7, r8⟩ := old_ne (lt_of_block hm)
  cases hdead : D.dead
  · rw [hdead] at ho
    have hlk := fun W h => look_run keyS (T := 83) (et := 101) Tryz.underlying83 zeroPtr hd.ents n m true W h
    cases hg : getF D.files n with
    | none =>
      have hr : cutD D n k = (11, D) := by simp [cutD, withD, hdead, hg]
      have HR := Lib.hid hr
      simp only [if_true, hd.get_none hg, Option.getD_none, Option.isSome_none] at hlk
      clear hr hd hok
      go_enter Tryz.func61, Tryz.ntmps61
      go_wp2_with (first | (go_at_call 53; go_in) | (go_at_call 66; go_in) | (go_at_call 97; go_in))
      go_quiet (fail)
      go_wp2
      go_ret
      rw [HR.out]
      exact DRet.same hD0 (by (repeat (first | (with_reducible exact Frm.refl _ _) | assumption | (with_reducible refine Frm.alloc ?_ _) | ((with_reducible refine Frm.setCell ?_ ?_ _); rotate_left; (first | (focus (left; simp; done)) | (focus (right; simp; done)) | (focus (right; simp; omega)))) | ((with_reducible refine Frm.put ?_ _ ?_); rotate_left; (first | (focus (left; simp; done)) | (focus (right; simp; done)) | (focus (right; simp; omega)))) | (with_reducible refine Frm.drew ?_) | (with_reducible refine Frm.drewN ?_ _)))) rfl
    | some f =>
      obtain ⟨c, hcL, hfn, hlook⟩ := hd.get_some hg
      have hc := hd.file _ hcL
      obtain ⟨hcb, hcm, hbm⟩ := hd.ne hcL
      have hbc := hcb.symm
      obtain ⟨r9, r10, r11, r12⟩ := old_ne (lt_of_block hc)
      simp only [if_true, hlook, Option.getD_some, Option.isSome_some] at hlk hc
      simp only at r9 r10 r11 r12
      have HD := Lib.hid hd
      have HDD := Lib.hid hdead
      have hfl := hok.file (getF_mem hg).1
      have hms := hok.mass
      have hsb := len_le_sumB (getF_mem hg).1
      unfold ADisk.mass at hms
      have hmm : D.room + f.bytes.length ≤ 4611686018427387000 := by omega
      clear hok hfn hlook hms hsb hd
      by_cases h1 : k < f.synced
      · have hr : cutD D n k = (2, D) := by simp [cutD, withD, hdead, hg, h1]
        have HR := Lib.hid hr
        have t1 : decide (k < (f.synced : Int)) = true := dec_yes h1
        clear hr hdead
        go_enter Tryz.func61, Tryz.ntmps61
        go_wp2_with (first | (go_at_call 53; go_in) | (go_at_call 66; go_in) | (go_at_call 97; go_in))
        go_quiet (fail)
        go_wp2
        go_quiet (fail)
        go_wp2
        go_ret
        rw [HR.out]
        exact DRet.same hD0 (by (repeat (first | (with_reducible exact Frm.refl _ _) | assumption | (with_reducible refine Frm.alloc ?_ _) | ((with_reducible refine Frm.setCell ?_ ?_ _); rotate_left; (first | (focus (left; simp; done)) | (focus (right; simp; done)) | (focus (right; simp; omega)))) | ((with_reducible refine Frm.put ?_ _ ?_); rotate_left; (first | (focus (left; simp; done)) | (focus (right; simp; done)) | (focus (right; simp; omega)))) | (with_reducible refine Frm.drew ?_) | (with_reducible refine Frm.drewN ?_ _)))) rfl
      · by_cases h2 : (f.bytes.length : Int) < k
        · have hr : cutD D n k = (2, D) := by simp [cutD, withD, hdead, hg, h2]
          have HR := Lib.hid hr
          have t1 : decide (k < (f.synced : Int)) = false := dec_no h1
          have t2 : decide ((f.bytes.length : Int) < k) = true := dec_yes h2
          clear hr hdead
          go_enter Tryz.func61, Tryz.ntmps61
          go_wp2_with (first | (go_at_call 53; go_in) | (go_at_call 66; go_in) | (go_at_call 97; go_in))
          go_quiet (fail)
          go_wp2
          go_quiet (fail)
          go_wp2
          go_ret
          rw [HR.out]
          exact DRet.same hD0 (by (repeat (first | (with_reducible exact Frm.refl _ _) | assumption | (with_reducible refine Frm.alloc ?_ _) | ((with_reducible refine Frm.setCell ?_ ?_ _); rotate_left; (first | (focus (left; simp; done)) | (focus (right; simp; done)) | (focus (right; simp; omega)))) | ((with_reducible refine Frm.put ?_ _ ?_); rotate_left; (first | (focus (left; simp; done)) | (focus (right; simp; done)) | (focus (right; simp; omega)))) | (with_reducible refine Frm.drew ?_) | (with_reducible refine Frm.drewN ?_ _)))) rfl
        · obtain ⟨j, rfl⟩ := Int.eq_ofNat_of_zero_le (show 0 ≤ k by omega)
          have hr : cutD D n j = (0, { D with files := setF D.files { f with bytes := f.bytes.take j }, room := D.room + (f.bytes.length - j) }) := by
            simp [cutD, withD, hdead, hg, show ¬ (j < f.synced ∨ f.bytes.length < j) by omega]
          have HR := Lib.hid hr
          have hjl : j ≤ f.bytes.length := by omega
          have t1 : decide (j < f.synced) = false := dec_no (by omega)
          have t2 : decide (f.bytes.length < j) = false := dec_no (by omega)
          clear hr hdead h1 h2
          go_enter Tryz.func61, Tryz.ntmps61
          go_wp2_with (first | (go_at_call 53; go_in) | (go_at_call 66; go_in) | (go_at_call 97; go_in))
          go_quiet (fail)
          go_wp2
          go_quiet (fail)
          go_wp2_with (go_at_call 55; refine (shorten_any b c (.map (some m)) (.bool false) (.int .i64 D.fuse) D.room f.bytes (.int .i64 f.synced) j _ (by simp [go_sem, ho]) (by simp [go_sem, hc]) hcb hjl hmm).mono ?_; rintro e w' ⟨rfl, hb1, hc1, hf1⟩)
          go_wp2
          go_ret
          rw [HR.out]
          refine DRet.upd (w := w) HD.out hcL (f' := { f with bytes := f.bytes.take j }) rfl { D with files := setF D.files { f with bytes := f.bytes.take j }, room := D.room + (f.bytes.length - j) } rfl 0 ?_ ?_ ?_ rfl
          · refine Frm.trans' (G := [b, c]) (b := _) ?_ hf1 (fun _ hx => .inl hx)
            (repeat (first | (with_reducible exact Frm.refl _ _) | assumption | (with_reducible refine Frm.alloc ?_ _) | ((with_reducible refine Frm.setCell ?_ ?_ _); rotate_left; (first | (focus (left; simp; done)) | (focus (right; simp; done)) | (focus (right; simp; omega)))) | ((with_reducible refine Frm.put ?_ _ ?_); rotate_left; (first | (focus (left; simp; done)) | (focus (right; simp; done)) | (focus (right; simp; omega)))) | (with_reducible refine Frm.drew ?_) | (with_reducible refine Frm.drewN ?_ _)))
          · rw [hb1, HDD.out]
          · exact hc1
  · rw [hdead] at ho
    have hr : cutD D n k = (8, D) := by simp [cutD, withD, hdead]
    have HR := Lib.hid hr
    clear hr hd hok
    go_enter Tryz.func61, Tryz.ntmps61
    go_wp2_with (first | (go_at_call 53; go_in) | (go_at_call 66; go_in))
    go_ret
    rw [HR.out]
    exact DRet.same hD0 (by (repeat (first | (with_reducible exact Frm.refl _ _) | assumption | (with_reducible refine Frm.alloc ?_ _) | ((with_reducible refine Frm.setCell ?_ ?_ _); rotate_left; (first | (focus (left; simp; done)) | (focus (right; simp; done)) | (focus (right; simp; omega)))) | ((with_reducible refine Frm.put ?_ _ ?_); rotate_left; (first | (focus (left; simp; done)) | (focus (right; simp; done)) | (focus (right; simp; omega)))) | (with_reducible refine Frm.drew ?_) | (with_reducible refine Frm.drewN ?_ _)))) rfl
end Go.Proofs.YtlopfabbjilpnaaGreatDoor
