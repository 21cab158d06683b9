/- Package disk: Remove. -/
import Derived.Test.YtlopfabbjilpnaaGreatDoorDiskF
set_option linter.unusedSimpArgs false
set_option linter.unusedVariables false
namespace Go.Proofs.YtlopfabbjilpnaaGreatDoor
open Go.RowKit Go.MapKept

/-- A file has gone. -/
theorem DRet.gone {w w' : World} {b m : Nat} {es : Array MapEntry} {clk : Nat} {L : LF} {D : ADisk} (h : DiskIs w b m es clk L D) {f : AFile} {c : Nat} (hc : (f, c) ∈ L) (D' : ADisk) (hfl : D'.files = delF D.files f.name) (es' : Array MapEntry) (hE : Ents sv es' clk (delL (kvOf L) f.name)) (e : Int) (hf : Frm [b, m, c] w w')
    (ho : w'.heap[b]? = some (.cells #[.map (some m), .int .i64 D'.room, .int .i64 D'.fuse, .bool D'.dead] 85 (0, 0)))
    (hm : w'.heap[m]? = some (.map es' clk)) {en : Ending} (hen : en = .returned (.int .i64 e)) : DRet w b (fp b m L) (e, D') en w' :=
  ⟨hen, _, ⟨m, _, _, _, h.gone hc D' hfl es' hE hf ho hm, rfl⟩, frm_fp hc hf, fun x hx => by
    simp only [fp, List.mem_cons] at hx ⊢
    rcases hx with h1 | h1 | h1
    · exact .inl (.inl h1)
    · exact .inl (.inr (.inl h1))
    · obtain ⟨y, hy, rfl⟩ := List.mem_map.1 h1
      exact .inl (.inr (.inr (List.mem_map.2 ⟨y, (List.mem_filter.1 hy).1, rfl⟩)))⟩

set_option maxRecDepth 100000 in
set_option maxHeartbeats 2000000 in
theorem Remove_any (b : Nat) (D : ADisk) (F : List Nat) (n : Bytes) (w : World) (hD : DiskAt w b D F) (hok : DOk D) :
    Calls Tryz.prog 27 #[.pointer (some ⟨b, 0, none⟩), sv n] w (DRet w b F (removeD D n)) := by
  have hD0 := hD
  obtain ⟨m, es, clk, L, hd, rfl⟩ := hD
  have ho := hd.own
  have hm := hd.map
  obtain ⟨r1, r2, r3, r4⟩ := old_ne (lt_of_block ho)
  obtain ⟨r5, r6, r7, r8⟩ := old_ne (lt_of_block hm)
  cases hdead : D.dead
  · rw [hdead] at ho
    have hlk := fun W h => look_run keyS (T := 83) (et := 101) Tryz.underlying83 zeroPtr hd.ents n m true W h
    cases hg : getF D.files n with
    | none =>
      have hr : removeD D n = (11, D) := by simp [removeD, withD, hdead, hg]
      have HR := Lib.hid hr
      simp only [if_true, hd.get_none hg, Option.getD_none, Option.isSome_none] at hlk
      clear hr hd hok
      go_enter Tryz.func27, Tryz.ntmps27
      go_wp2_with (first | (go_at_call 53; go_in) | (go_at_call 66; go_in) | (go_at_call 97; go_in))
      go_quiet (fail)
      go_wp2
      go_ret
      rw [HR.out]
      exact DRet.same hD0 (by (repeat (first | (with_reducible exact Frm.refl _ _) | assumption | (with_reducible refine Frm.alloc ?_ _) | ((with_reducible refine Frm.setCell ?_ ?_ _); rotate_left; (first | (focus (left; simp; done)) | (focus (right; simp; done)) | (focus (right; simp; omega)))) | ((with_reducible refine Frm.put ?_ _ ?_); rotate_left; (first | (focus (left; simp; done)) | (focus (right; simp; done)) | (focus (right; simp; omega)))) | (with_reducible refine Frm.drew ?_) | (with_reducible refine Frm.drewN ?_ _)))) rfl
    | some f =>
      obtain ⟨c, hcL, hfn, hlook⟩ := hd.get_some hg
      have hc := hd.file _ hcL
      obtain ⟨hcb, hcm, hbm⟩ := hd.ne hcL
      have hbc := hcb.symm
      have hmb := hbm.symm
      have hbm' : (b = m) = False := by simp [hbm]
      have hmc := hcm.symm
      obtain ⟨r9, r10, r11, r12⟩ := old_ne (lt_of_block hc)
      obtain ⟨es', hE', hdl⟩ := del_run keyS (T := 83) (et := 101) Tryz.underlying83 hd.ents n _ hlook m
      simp only [if_true, hlook, Option.getD_some, Option.isSome_some] at hlk hc
      simp only at r9 r10 r11 r12
      have HD := Lib.hid hd
      have HDD := Lib.hid hdead
      have HN := Lib.hid hfn
      have HE := Lib.hid hE'
      have hfl := hok.file (getF_mem hg).1
      have hms := hok.mass
      have hsb := len_le_sumB (getF_mem hg).1
      unfold ADisk.mass at hms
      have hmm : D.room + f.bytes.length ≤ 4611686018427387000 := by omega
      have hr : removeD D n = (0, { D with files := delF D.files n, room := D.room + f.bytes.length }) := by simp [removeD, withD, hdead, hg]
      have HR := Lib.hid hr
      clear hr hdead hok hfn hlook hms hsb hd hE'
      go_enter Tryz.func27, Tryz.ntmps27
      go_wp2_with (first | (go_at_call 53; go_in) | (go_at_call 66; go_in) | (go_at_call 97; go_in))
      go_quiet (fail)
      go_wp2_with (first | (go_at_call 67; go_in) | (go_at_call 55; refine (shorten_any b c (.map (some m)) (.bool false) (.int .i64 D.fuse) D.room f.bytes (.int .i64 f.synced) 0 _ (by simp [go_sem, ho]) (by simp [go_sem, hc]) hcb (Nat.zero_le _) hmm).mono ?_; rintro e w' ⟨rfl, hb1, hc1, hf1⟩))
      have hm1 := hf1.blk (k := m) (o := .map es clk) (by simp [go_sem, hm]) (by simp [hmb, hmc])
      have hs1 := hf1.blk (k := w.heap.size + 1) (o := .cells #[sv n] 9 (0, 0)) (by simp [go_sem]) (by simp [r2, r3, r4, r11, r12, r10])
      have hs0 := hf1.blk (k := w.heap.size) (o := .cells #[.pointer (some ⟨b, 0, none⟩)] 27 (0, 0)) (by simp [go_sem]) (by simp [r2, r10])
      go_region
      go_wp2
      go_ret
      rw [HR.out]
      refine DRet.gone (w := w) HD.out hcL { D with files := delF D.files n, room := D.room + f.bytes.length } (by simp [HN.out]) es' (by rw [HN.out]; exact HE.out) 0 ?_ ?_ ?_ rfl
      · refine Frm.put (frm_bc (Frm.drew (Frm.trans' (G := [b, c]) (b := _) ?_ hf1 (fun _ hx => .inl hx)))) _ (.inl (by simp))
        (repeat (first | (with_reducible exact Frm.refl _ _) | assumption | (with_reducible refine Frm.alloc ?_ _) | ((with_reducible refine Frm.setCell ?_ ?_ _); rotate_left; (first | (focus (left; simp; done)) | (focus (right; simp; done)) | (focus (right; simp; omega)))) | ((with_reducible refine Frm.put ?_ _ ?_); rotate_left; (first | (focus (left; simp; done)) | (focus (right; simp; done)) | (focus (right; simp; omega)))) | (with_reducible refine Frm.drew ?_) | (with_reducible refine Frm.drewN ?_ _)))
      · simp only [heap_put_ne _ hbm', heap_drew, hb1, HDD.out, Nat.sub_zero]
      · simp [go_sem, hm1]
  · rw [hdead] at ho
    have hr : removeD D n = (8, D) := by simp [removeD, withD, hdead]
    have HR := Lib.hid hr
    clear hr hd hok
    go_enter Tryz.func27, Tryz.ntmps27
    go_wp2_with (first | (go_at_call 53; go_in) | (go_at_call 66; go_in))
    go_ret
    rw [HR.out]
    exact DRet.same hD0 (by (repeat (first | (with_reducible exact Frm.refl _ _) | assumption | (with_reducible refine Frm.alloc ?_ _) | ((with_reducible refine Frm.setCell ?_ ?_ _); rotate_left; (first | (focus (left; simp; done)) | (focus (right; simp; done)) | (focus (right; simp; omega)))) | ((with_reducible refine Frm.put ?_ _ ?_); rotate_left; (first | (focus (left; simp; done)) | (focus (right; simp; done)) | (focus (right; simp; omega)))) | (with_reducible refine Frm.drew ?_) | (with_reducible refine Frm.drewN ?_ _)))) rfl
end Go.Proofs.YtlopfabbjilpnaaGreatDoor
