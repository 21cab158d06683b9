/- Package disk: Append, whole. -/
import Derived.Test.YtlopfabbjilpnaaGreatDoorDiskC
set_option linter.unusedSimpArgs false
set_option linter.unusedVariables false
namespace Go.Proofs.YtlopfabbjilpnaaGreatDoor
open Go.RowKit Go.MapKept

/-- Bounds within which nothing wraps. -/
structure DOk (D : ADisk) : Prop where
  mass : D.mass ≤ 4611686018427380000
  lo : -1 ≤ D.fuse
  hi : D.fuse ≤ 9223372036854775807
theorem DOk.room {D : ADisk} (h : DOk D) : D.room ≤ 4611686018427380000 := by have := h.mass; unfold ADisk.mass at this; omega
theorem len_le_sumB : ∀ {l : List AFile} {f : AFile}, f ∈ l → f.bytes.length ≤ sumB l
  | g :: l, f, h => by
    rcases List.mem_cons.1 h with rfl | h
    · simp [sumB]
    · have := len_le_sumB h
      simp only [sumB, List.map_cons, List.sum_cons] at this ⊢
      omega
theorem DOk.file {D : ADisk} (h : DOk D) {f : AFile} (hf : f ∈ D.files) : f.bytes.length ≤ 4611686018427380000 := by
  have := len_le_sumB hf; have := h.mass; unfold ADisk.mass at this; omega

set_option maxRecDepth 100000 in
set_option maxHeartbeats 1000000 in
/-- There are too many files. -/
theorem App_many (bn bd bs b m : Nat) (es : Array MapEntry) (clk : Nat) (L : LF) (D : ADisk) (n s : Bytes) (w : World) (hE : AppEnv w bn bd bs b n s) (hD : DiskIs w b m es clk L D) (h1 : 0 < n.length) (h2 : n.length ≤ 24) (hsl : s.length ≤ 4611686018427380000)
    (hr : s.length ≤ D.room) (hrm : D.room ≤ 4611686018427380000) (hf : getF D.files n = none) (hnum : 1000 ≤ D.files.length) (hnm : D.files.length ≤ 4611686018427380000) :
    Calls Tryz.prog 65 #[.pointer (some ⟨bn, 0, none⟩), .pointer (some ⟨bd, 0, none⟩), .pointer (some ⟨bs, 0, none⟩)] w fun en w' => en = .returned (.int .i64 7) ∧ Frm [] w w' := by
  obtain ⟨hn, hd, hs⟩ := hE
  have ho := hD.own
  have hm := hD.map
  have hsz := hD.size
  have hlook := hD.get_none hf
  have hlk := fun W h => look_run keyS (T := 83) (et := 101) Tryz.underlying83 zeroPtr hD.ents n m true W h
  have hln := fun W h => len_run (P := Tryz.prog) (T := 83) (ty := 3) Tryz.underlying83 (m := m) (es := es) (clk := clk) W h
  have t1 : ((n.length : Int) == 0) = false := int_ne (by omega)
  have t2 : decide ((24 : Int) < n.length) = false := dec_no (by omega)
  have t3 : decide (D.room < s.length) = false := dec_no (by omega)
  have t7 : decide ((1000 : Int) ≤ es.size) = true := dec_yes (by omega)
  simp only [if_true, hlook, Option.getD_none, Option.isSome_none] at hlk
  clear hD hlook hsz hf
  go_enter Tryz.func65, Tryz.ntmps65
  go_wp2
  go_quiet (fail)
  go_wp2
  go_quiet (fail)
  go_wp2
  go_ret
  exact ⟨rfl, by (repeat (first | (with_reducible exact Frm.refl _ _) | assumption | (with_reducible refine Frm.alloc ?_ _) | ((with_reducible refine Frm.setCell ?_ ?_ _); rotate_left; (first | (focus (left; simp; done)) | (focus (right; simp; done)) | (focus (right; simp; omega)))) | ((with_reducible refine Frm.put ?_ _ ?_); rotate_left; (first | (focus (left; simp; done)) | (focus (right; simp; done)) | (focus (right; simp; omega)))) | (with_reducible refine Frm.drew ?_) | (with_reducible refine Frm.drewN ?_ _)))⟩

theorem DRet.from {w W w' : World} {b : Nat} {F : List Nat} {r : Int × ADisk} {en : Ending} (hW : Frm [] w W) (h : DRet W b F r en w') : DRet w b F r en w' := by
  obtain ⟨h1, F', h2, h3, h4⟩ := h
  exact ⟨h1, F', h2, (hW.nil (F := F)).trans h3, fun x hx => (h4 x hx).imp id (fun h => Nat.le_trans hW.size h)⟩
theorem DRet.same {w w' : World} {b : Nat} {F : List Nat} {D : ADisk} {e : Int} {en : Ending} (h : DiskAt w b D F) (hf : Frm [] w w') (hen : en = .returned (.int .i64 e)) : DRet w b F (e, D) en w' :=
  ⟨hen, F, h.frm0 hf, hf.nil, fun _ hx => .inl hx⟩

theorem AppC_any (bn bd bs b : Nat) (D : ADisk) (F : List Nat) (n s : Bytes) (w : World) (hE : AppEnv w bn bd bs b n s) (hD : DiskAt w b D F) (hok : DOk D) (hdead : D.dead = false)
    (hbn : bn ∉ F) (hbd : bd ∉ F) (hbs : bs ∉ F) (hnl : n.length ≤ 4611686018427380000) (hsl : s.length ≤ 4611686018427380000) (hnm : D.files.length ≤ 4611686018427380000) :
    Calls Tryz.prog 65 #[.pointer (some ⟨bn, 0, none⟩), .pointer (some ⟨bd, 0, none⟩), .pointer (some ⟨bs, 0, none⟩)] w (DRet w b F (appendD D n s)) := by
  have hD0 := hD
  obtain ⟨m, es, clk, L, hd, rfl⟩ := hD
  have hroom := hok.room
  unfold appendD
  rw [if_neg (by simp [hdead])]
  by_cases hbad : n.length = 0 ∨ 24 < n.length
  · rw [if_pos hbad]
    refine (App_arg bn bd bs b n s w hE hbad hnl).mono ?_
    rintro e w' ⟨rfl, rfl⟩
    exact DRet.same hD0 (Frm.refl _ _) rfl
  · rw [if_neg hbad]
    have h1 : 0 < n.length := by omega
    have h2 : n.length ≤ 24 := by omega
    by_cases hfull : D.room < s.length ∨ (getF D.files n = none ∧ 1000 ≤ D.files.length)
    · rw [if_pos hfull]
      rcases hfull with h | ⟨h, h'⟩
      · refine (App_full bn bd bs b m es clk L D n s w hE hd h1 h2 hsl h hroom).mono ?_
        rintro e w' ⟨rfl, hf⟩
        exact DRet.same hD0 hf rfl
      · by_cases hr : D.room < s.length
        · refine (App_full bn bd bs b m es clk L D n s w hE hd h1 h2 hsl hr hroom).mono ?_
          rintro e w' ⟨rfl, hf⟩
          exact DRet.same hD0 hf rfl
        · refine (App_many bn bd bs b m es clk L D n s w hE hd h1 h2 hsl (by omega) hroom h h' hnm).mono ?_
          rintro e w' ⟨rfl, hf⟩
          exact DRet.same hD0 hf rfl
    · rw [if_neg hfull]
      have hr : s.length ≤ D.room := by omega
      have hlo := hok.lo
      have hhi := hok.hi
      cases hg : getF D.files n with
      | some f =>
        have hfm := getF_mem hg
        have hfl := hok.file hfm.1
        have hput : ∀ x : Bytes, putF D.files { f with bytes := f.bytes ++ x } = setF D.files (appF f x) := fun x => by
          unfold putF
          rw [if_pos (by simp only [hfm.2, hg, Option.isSome_some])]; rfl
        simp only [Option.getD_some]
        by_cases hfu : D.fuse = -1
        · rw [if_neg (by simp [hfu]), hput, if_pos hfu]
          exact App_found0 bn bd bs b m es clk L D n s w hE hd h1 h2 hbn hbd hbs hdead hr hroom f hg hfl hfu
        · obtain ⟨k, hk⟩ := Int.eq_ofNat_of_zero_le (show 0 ≤ D.fuse by omega)
          by_cases hlt : D.fuse < s.length
          · rw [if_pos ⟨hfu, hlt⟩, hput]
            have := App_found2 bn bd bs b m es clk L D n s w hE hd h1 h2 hbn hbd hbs hdead hr hroom f hg hfl k hk (by omega)
            simpa [offD, hk] using this
          · rw [if_neg (fun h => hlt h.2), hput, if_neg hfu]
            have := App_found1 bn bd bs b m es clk L D n s w hE hd h1 h2 hbn hbd hbs hdead hr hroom f hg hfl k hk (by omega) (by omega)
            rw [hk]
            exact this
      | none =>
        have hnum : D.files.length < 1000 := by
          rcases Nat.lt_or_ge D.files.length 1000 with h | h
          · exact h
          · exact absurd (.inr ⟨hg, h⟩) hfull
        have hput : ∀ x : Bytes, putF D.files ⟨n, [] ++ x, 0⟩ = insF ⟨n, x, 0⟩ D.files := fun x => by
          unfold putF
          rw [if_neg (by simp [hg])]; rfl
        simp only [Option.getD_none]
        by_cases hfu : D.fuse = -1
        · rw [if_neg (by simp [hfu]), hput, if_pos hfu]
          exact App_new0 bn bd bs b m es clk L D n s w hE hd h1 h2 hbn hbd hbs hdead hnum hr hroom hg hfu
        · obtain ⟨k, hk⟩ := Int.eq_ofNat_of_zero_le (show 0 ≤ D.fuse by omega)
          by_cases hlt : D.fuse < s.length
          · rw [if_pos ⟨hfu, hlt⟩, hput]
            have := App_new2 bn bd bs b m es clk L D n s w hE hd h1 h2 hbn hbd hbs hdead hnum hr hroom hg k hk (by omega)
            simpa [offD, hk] using this
          · rw [if_neg (fun h => hlt h.2), hput, if_neg hfu]
            have := App_new1 bn bd bs b m es clk L D n s w hE hd h1 h2 hbn hbd hbs hdead hnum hr hroom hg k hk (by omega) (by omega)
            rw [hk]
            exact this

theorem not_mem_of_lt {F : List Nat} {n k : Nat} (h : ∀ x ∈ F, x < n) : n + k ∉ F := fun hm => by have := h _ hm; omega

set_option maxRecDepth 100000 in
theorem Append_any (b : Nat) (D : ADisk) (F : List Nat) (n s : Bytes) (w : World) (hD : DiskAt w b D F) (hok : DOk D) (hnl : n.length ≤ 4611686018427380000) (hsl : s.length ≤ 4611686018427380000) (hnm : D.files.length ≤ 4611686018427380000) :
    Calls Tryz.prog 26 #[.pointer (some ⟨b, 0, none⟩), sv n, sv s] w (DRet w b F (appendD D n s)) := by
  have hlt := hD.lt
  obtain ⟨m, ho⟩ := hD.own
  cases hdead : D.dead
  · have hc := fun W (hE : AppEnv W (w.heap.size + 1) w.heap.size (w.heap.size + 2) b n s) (hW : Frm [] w W) => AppC_any (w.heap.size + 1) w.heap.size (w.heap.size + 2) b D F n s W hE (hD.frm0 hW) hok hdead (not_mem_of_lt hlt) (not_mem_of_lt (k := 0) hlt) (not_mem_of_lt hlt) hnl hsl hnm
    obtain ⟨r1, r2, r3, r4⟩ := old_ne (lt_of_block ho)
    rw [hdead] at ho
    clear hlt hok hD
    go_enter Tryz.func26, Tryz.ntmps26
    go_wp2_with (first | (go_at_call 53; go_in) | (go_at_call 65; refine (hc _ ⟨by simp [go_sem], by simp [go_sem], by simp [go_sem]⟩ (by (repeat (first | (with_reducible exact Frm.refl _ _) | assumption | (with_reducible refine Frm.alloc ?_ _) | ((with_reducible refine Frm.setCell ?_ ?_ _); rotate_left; (first | (focus (left; simp; done)) | (focus (right; simp; done)) | (focus (right; simp; omega)))) | ((with_reducible refine Frm.put ?_ _ ?_); rotate_left; (first | (focus (left; simp; done)) | (focus (right; simp; done)) | (focus (right; simp; omega)))) | (with_reducible refine Frm.drew ?_) | (with_reducible refine Frm.drewN ?_ _))))).mono ?_; intro e w' hq; have hq2 := DRet.from (w := w) (by (repeat (first | (with_reducible exact Frm.refl _ _) | assumption | (with_reducible refine Frm.alloc ?_ _) | ((with_reducible refine Frm.setCell ?_ ?_ _); rotate_left; (first | (focus (left; simp; done)) | (focus (right; simp; done)) | (focus (right; simp; omega)))) | ((with_reducible refine Frm.put ?_ _ ?_); rotate_left; (first | (focus (left; simp; done)) | (focus (right; simp; done)) | (focus (right; simp; omega)))) | (with_reducible refine Frm.drew ?_) | (with_reducible refine Frm.drewN ?_ _)))) hq; clear hq; obtain ⟨rfl, hq3⟩ := hq2))
    go_ret
    exact ⟨rfl, hq3⟩
  · obtain ⟨r1, r2, r3, r4⟩ := old_ne (lt_of_block ho)
    rw [hdead] at ho
    have hr : appendD D n s = (8, D) := by simp [appendD, hdead]
    go_enter Tryz.func26, Tryz.ntmps26
    go_wp2_with (first | (go_at_call 53; go_in))
    go_ret
    rw [hr]
    exact DRet.same hD (by (repeat (first | (with_reducible exact Frm.refl _ _) | assumption | (with_reducible refine Frm.alloc ?_ _) | ((with_reducible refine Frm.setCell ?_ ?_ _); rotate_left; (first | (focus (left; simp; done)) | (focus (right; simp; done)) | (focus (right; simp; omega)))) | ((with_reducible refine Frm.put ?_ _ ?_); rotate_left; (first | (focus (left; simp; done)) | (focus (right; simp; done)) | (focus (right; simp; omega)))) | (with_reducible refine Frm.drew ?_) | (with_reducible refine Frm.drewN ?_ _)))) rfl
end Go.Proofs.YtlopfabbjilpnaaGreatDoor
