/- Sound disks stay sound: what the calls of a disk make of them, as plain data. -/
import Derived.Test.YtlopfabbjilpnaaGreatDoorLogE
set_option linter.unusedSimpArgs false
set_option linter.unusedVariables false
namespace Go.Proofs.YtlopfabbjilpnaaGreatDoor
open Go.RowKit

theorem sumB_perm {l m : List AFile} (h : l.Perm m) : sumB l = sumB m := (h.map _).sum_nat
theorem sumB_setF : ∀ {l : List AFile} (f g : AFile), (l.map (·.name)).Nodup → getF l f.name = some g → sumB (setF l f) + g.bytes.length = sumB l + f.bytes.length
  | [], f, g, _, h => by simp [getF] at h
  | x :: l, f, g, hn, h => by
    simp only [List.map_cons, List.nodup_cons] at hn
    by_cases hx : x.name = f.name
    · have hg : x = g := by simpa [getF, hx] using h
      subst hg
      have hrest : setF l f = l := by
        unfold setF
        conv => rhs; rw [← List.map_id l]
        refine List.map_congr_left fun y hy => ?_
        have : y.name ≠ f.name := fun e => hn.1 (List.mem_map.2 ⟨y, hy, by rw [e, hx]⟩)
        simp [this]
      have e : setF (x :: l) f = f :: l := by
        show (if x.name = f.name then f else x) :: setF l f = _
        rw [if_pos hx, hrest]
      rw [e]
      simp only [sumB, List.map_cons, List.sum_cons]
      omega
    · have h' : getF l f.name = some g := by simpa [getF, hx] using h
      have ih := sumB_setF f g hn.2 h'
      have e : setF (x :: l) f = x :: setF l f := by
        show (if x.name = f.name then f else x) :: setF l f = _
        rw [if_neg hx]
      rw [e]
      simp only [sumB, List.map_cons, List.sum_cons] at ih ⊢
      omega
theorem sumB_delF : ∀ {l : List AFile} {n : Bytes} {g : AFile}, (l.map (·.name)).Nodup → getF l n = some g → sumB (delF l n) + g.bytes.length = sumB l
  | [], n, g, _, h => by simp [getF] at h
  | x :: l, n, g, hn, h => by
    simp only [List.map_cons, List.nodup_cons] at hn
    by_cases hx : x.name = n
    · have hg : x = g := by simpa [getF, hx] using h
      subst hg
      have hrest : delF l n = l := by
        unfold delF
        refine List.filter_eq_self.2 fun y hy => ?_
        have : y.name ≠ n := fun e => hn.1 (List.mem_map.2 ⟨y, hy, by rw [e, hx]⟩)
        simp [this]
      have e : delF (x :: l) n = l := by
        unfold delF at hrest ⊢
        rw [List.filter_cons, if_neg (by simp [hx]), hrest]
      rw [e]
      simp only [sumB, List.map_cons, List.sum_cons]
      omega
    · have h' : getF l n = some g := by simpa [getF, hx] using h
      have ih := sumB_delF hn.2 h'
      have e : delF (x :: l) n = x :: delF l n := by
        unfold delF
        rw [List.filter_cons, if_pos (by simp [hx])]
      rw [e]
      simp only [sumB, List.map_cons, List.sum_cons] at ih ⊢
      omega
theorem sumB_insF (f : AFile) (l : List AFile) : sumB (insF f l) = f.bytes.length + sumB l := by
  rw [sumB_perm (insF_perm f l)]; simp [sumB]
theorem mem_setF {l : List AFile} {f x : AFile} (h : x ∈ setF l f) : x = f ∨ x ∈ l := by
  unfold setF at h
  obtain ⟨y, hy, rfl⟩ := List.mem_map.1 h
  split
  · exact .inl rfl
  · exact .inr hy
theorem mem_putF {l : List AFile} {f x : AFile} (h : x ∈ putF l f) : x = f ∨ x ∈ l := by
  unfold putF at h
  split at h
  · exact mem_setF h
  · simpa using (insF_perm f l).mem_iff.1 h
theorem setF_len (l : List AFile) (f : AFile) : (setF l f).length = l.length := by simp [setF]
theorem insF_len (l : List AFile) (f : AFile) : (insF f l).length = l.length + 1 := by simpa using (insF_perm f l).length_eq
theorem delF_len (l : List AFile) (n : Bytes) : (delF l n).length ≤ l.length := List.length_filter_le _ _
theorem putF_sorted {l : List AFile} (h : Sorted l) (f : AFile) : Sorted (putF l f) := by
  unfold putF
  split
  · exact setF_sorted h f
  · rename_i hn
    exact insF_sorted f h (by cases hg : getF l f.name with | none => rfl | some g => simp [hg] at hn)

/-- A file may lie on a sound disk. -/
structure FGood (f : AFile) : Prop where
  name : f.name.length ≤ 24
  syn : f.synced ≤ f.bytes.length
  seg : isSeg f.name = true → ∃ u, Lib.parseUintB 32 (f.name.drop 1) = .ok u
theorem DGood.fgood {D : ADisk} (h : DGood D) {f : AFile} (hf : f ∈ D.files) : FGood f := ⟨h.names f hf, h.syn f hf, h.seg f hf⟩
theorem DGood.mk' {D : ADisk} (hm : D.mass ≤ 4294967296) (h1 : -1 ≤ D.fuse) (h2 : D.fuse ≤ 9223372036854775807) (hf : ∀ f ∈ D.files, FGood f) (hn : D.files.length ≤ 1000) (hs : Sorted D.files) : DGood D :=
  ⟨hm, h1, h2, fun f h => (hf f h).name, hn, fun f h => (hf f h).syn, fun f h => (hf f h).seg, hs⟩
theorem newD_good : DGood newD := ⟨by decide, by decide, by decide, by simp [newD], by decide, by simp [newD], by simp [newD, SegOk], by simp [newD, Sorted]⟩
theorem DGood.set {D D' : ADisk} (h : DGood D) {f g : AFile} (hg : getF D.files f.name = some g) (hf : FGood f) (hfl : D'.files = setF D.files f) (hr : D'.room + f.bytes.length ≤ D.room + g.bytes.length) (h1 : -1 ≤ D'.fuse) (h2 : D'.fuse ≤ 9223372036854775807) : DGood D' := by
  have hs := sumB_setF f g (sorted_nodup h.sort) hg
  have hm := h.mass
  refine DGood.mk' ?_ h1 h2 (fun x hx => ?_) (by rw [hfl, setF_len]; exact h.num) (by rw [hfl]; exact setF_sorted h.sort f)
  · unfold ADisk.mass at hm ⊢
    rw [hfl]; omega
  · rw [hfl] at hx
    rcases mem_setF hx with rfl | hx
    · exact hf
    · exact h.fgood hx
theorem DGood.start {D : ADisk} (h : DGood D) : DGood (startD D) := ⟨h.mass, h.lo, h.hi, h.names, h.num, h.syn, h.seg, h.sort⟩
theorem DGood.fuse {D : ADisk} (h : DGood D) {k : Int} (hk : k ≤ 9223372036854775807) : DGood (fuseD D k).2 := by
  unfold fuseD
  split
  · exact h
  · exact ⟨h.mass, by show -1 ≤ (if k < -1 then -1 else k); split <;> omega, by show (if k < -1 then -1 else k) ≤ _; split <;> omega, h.names, h.num, h.syn, h.seg, h.sort⟩
theorem DGood.withd {D : ADisk} (h : DGood D) (n : Bytes) (act : AFile → Int × ADisk) (ha : ∀ f, getF D.files n = some f → DGood (act f).2) : DGood (withD D n act).2 := by
  unfold withD
  split
  · exact h
  · split
    · exact h
    · exact ha _ ‹_›
theorem DGood.sync {D : ADisk} (h : DGood D) (n : Bytes) : DGood (syncD D n).2 := by
  refine h.withd n _ fun f hf => ?_
  have hfm := getF_mem hf
  have hg := h.fgood hfm.1
  exact h.set (f := { f with synced := f.bytes.length }) (g := f) (by rw [← hfm.2] at hf; exact hf) ⟨hg.name, Nat.le_refl _, hg.seg⟩ rfl (Nat.le_refl _) h.lo h.hi
theorem DGood.cut {D : ADisk} (h : DGood D) (n : Bytes) (k : Int) : DGood (cutD D n k).2 := by
  refine h.withd n _ fun f hf => ?_
  have hfm := getF_mem hf
  have hg := h.fgood hfm.1
  have hs := hg.syn
  split
  · exact h
  · exact h.set (f := { f with bytes := f.bytes.take k.toNat }) (g := f) (by rw [← hfm.2] at hf; exact hf) ⟨hg.name, by simp; omega, hg.seg⟩ rfl (by simp; omega) h.lo h.hi
theorem DGood.remove {D : ADisk} (h : DGood D) (n : Bytes) : DGood (removeD D n).2 := by
  refine h.withd n _ fun f hf => ?_
  have hs := sumB_delF (sorted_nodup h.sort) hf
  have hm := h.mass
  refine DGood.mk' ?_ h.lo h.hi (fun x hx => h.fgood (List.mem_filter.1 hx).1) (Nat.le_trans (delF_len _ _) h.num) (delF_sorted h.sort n)
  unfold ADisk.mass at hm ⊢
  simp only
  omega
theorem DGood.put {D D' : ADisk} (h : DGood D) {f : AFile} {k : Nat} (hf : FGood f) (hfl : D'.files = putF D.files f) (hk : k ≤ D.room) (hb : f.bytes.length ≤ ((getF D.files f.name).map (·.bytes.length)).getD 0 + k) (hroom : D'.room = D.room - k)
    (hnum : getF D.files f.name = none → D.files.length < 1000) (h1 : -1 ≤ D'.fuse) (h2 : D'.fuse ≤ 9223372036854775807) : DGood D' := by
  cases hg : getF D.files f.name with
  | some g =>
    rw [hg] at hb
    simp only [Option.map_some, Option.getD_some] at hb
    exact h.set hg hf (by rw [hfl]; unfold putF; rw [hg]; rfl) (by omega) h1 h2
  | none =>
    rw [hg] at hb
    simp only [Option.map_none, Option.getD_none] at hb
    have hfl' : D'.files = insF f D.files := by rw [hfl]; unfold putF; rw [hg]; rfl
    have hm := h.mass
    refine DGood.mk' ?_ h1 h2 (fun x hx => ?_) (by rw [hfl', insF_len]; exact hnum hg) (by rw [hfl]; exact putF_sorted h.sort f)
    · unfold ADisk.mass at hm ⊢
      rw [hfl', sumB_insF]; omega
    · rw [hfl] at hx
      rcases mem_putF hx with rfl | hx
      · exact hf
      · exact h.fgood hx
theorem DGood.append {D : ADisk} (h : DGood D) (n s : Bytes) (hn : isSeg n = true → ∃ u, Lib.parseUintB 32 (n.drop 1) = .ok u) : DGood (appendD D n s).2 := by
  unfold appendD
  split
  · exact h
  · split
    · exact h
    · split
      · exact h
      · rename_i h1 h2 h3
        obtain ⟨f, hf⟩ : ∃ f, f = (getF D.files n).getD ⟨n, [], 0⟩ := ⟨_, rfl⟩
        have hnum : getF D.files n = none → D.files.length < 1000 := fun hg => by
          rcases Nat.lt_or_ge D.files.length 1000 with h | h
          · exact h
          · exact absurd (.inr ⟨hg, h⟩) h3
        have hname : f.name = n := by
          rw [hf]
          cases hg : getF D.files n with
          | none => rfl
          | some g => exact (getF_mem hg).2
        have hsyn : f.synced ≤ f.bytes.length := by
          rw [hf]
          cases hg : getF D.files n with
          | none => simp
          | some g => exact h.syn _ (getF_mem hg).1
        have hlen : f.bytes.length = ((getF D.files f.name).map (·.bytes.length)).getD 0 := by
          rw [hname, hf]
          cases hg : getF D.files n <;> simp
        have hlo := h.lo
        have hhi := h.hi
        simp only
        rw [← hf]
        split
        · rename_i h4
          refine h.put (f := { f with bytes := f.bytes ++ s.take D.fuse.toNat }) (k := D.fuse.toNat) ⟨by show f.name.length ≤ 24; rw [hname]; omega, by simp; omega, by show isSeg f.name = true → _; rw [hname]; exact hn⟩ rfl (by omega) ?_ rfl (fun hg => hnum (by rw [← hname]; exact hg)) (by simp [offD]) (by simp [offD])
          simp only [List.length_append, List.length_take]
          rw [← hlen]; omega
        · rename_i h4
          refine h.put (f := { f with bytes := f.bytes ++ s }) (k := s.length) ⟨by show f.name.length ≤ 24; rw [hname]; omega, by simp; omega, by show isSeg f.name = true → _; rw [hname]; exact hn⟩ rfl (by omega) ?_ rfl (fun hg => hnum (by rw [← hname]; exact hg)) ?_ ?_
          · simp only [List.length_append]
            rw [← hlen]; exact Nat.le_refl _
          · show -1 ≤ (if D.fuse = -1 then -1 else D.fuse - (s.length : Int))
            split
            · omega
            · rename_i h5
              have : ¬ D.fuse < s.length := fun h6 => h4 ⟨h5, h6⟩
              omega
          · show (if D.fuse = -1 then -1 else D.fuse - (s.length : Int)) ≤ _
            split <;> omega

/-- Names of segments. -/
def segNameOk (n : Nat) : Bool := numberF (segName n) == if n = 0 then none else some n
theorem segName_ok : (List.range 100).all segNameOk = true := by decide +kernel
theorem numberF_name (n : Nat) (h : n < 100) (h0 : 0 < n) : numberF (segName n) = some n := by
  have := List.all_eq_true.1 segName_ok n (by simp [h])
  unfold segNameOk at this
  rw [if_neg (by omega)] at this
  simpa using this
theorem segName_parse (n : Nat) (h : n < 100) (h0 : 0 < n) : ∃ u, Lib.parseUintB 32 ((segName n).drop 1) = .ok u := by
  have := numberF_name n h h0
  unfold numberF at this
  split at this
  · split at this
    · exact ⟨_, ‹_›⟩
    · cases this
  · cases this
theorem segName_len (n : Nat) (h : n < 100) : (segName n).length ≤ 24 := by
  have := dec_small h
  simp [segName, Lib.repeatL_length]; omega

theorem DGood.logSync {D : ADisk} (h : DGood D) : DGood (logSyncD D).2 := by
  unfold logSyncD
  split
  · exact h
  · exact h.sync _
end Go.Proofs.YtlopfabbjilpnaaGreatDoor
