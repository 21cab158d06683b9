/- A disk in memory behind a file's having turned, come, or gone. -/
import Derived.Test.YtlopfabbjilpnaaGreatDoorDiskA
set_option linter.unusedSimpArgs false
set_option linter.unusedVariables false
namespace Go.Proofs.YtlopfabbjilpnaaGreatDoor
open Go.RowKit Go.MapKept

theorem bytes_lt_irrefl (a : Bytes) : ¬ a < a := List.lt_irrefl a
theorem bytes_lt_trans {a b c : Bytes} (h : a < b) (k : b < c) : a < c := List.lt_trans h k
theorem bytes_tri (a b : Bytes) : a < b ∨ a = b ∨ b < a := by
  by_cases h1 : a < b
  · exact .inl h1
  · by_cases h2 : b < a
    · exact .inr (.inr h2)
    · exact .inr (.inl (List.le_antisymm (List.not_lt.1 h2) (List.not_lt.1 h1)))

theorem sorted_nodup {l : List AFile} (h : Sorted l) : (l.map (·.name)).Nodup := by
  unfold Sorted at h
  rw [List.nodup_iff_pairwise_ne, List.pairwise_map]
  refine h.imp ?_
  intro a b hab e
  rw [e] at hab
  exact bytes_lt_irrefl _ hab
theorem getF_mem {l : List AFile} {n : Bytes} {f : AFile} (h : getF l n = some f) : f ∈ l ∧ f.name = n := by
  unfold getF at h
  exact ⟨List.mem_of_find?_eq_some h, by simpa using List.find?_some h⟩
theorem getF_of_mem {l : List AFile} (hn : (l.map (·.name)).Nodup) {f : AFile} (h : f ∈ l) : getF l f.name = some f := by
  induction l with
  | nil => cases h
  | cons g l ih =>
    simp only [List.map_cons, List.nodup_cons] at hn
    unfold getF
    rw [List.find?_cons]
    rcases List.mem_cons.1 h with rfl | hm
    · simp
    · have hne : g.name ≠ f.name := fun e => hn.1 (List.mem_map.2 ⟨f, hm, e.symm⟩)
      simp only [hne, decide_false]
      exact ih hn.2 hm
theorem getF_none {l : List AFile} {n : Bytes} (h : getF l n = none) : ∀ f ∈ l, f.name ≠ n := by
  unfold getF at h
  intro f hf
  simpa using List.find?_eq_none.1 h f hf
theorem getF_none_of {l : List AFile} {n : Bytes} (h : ∀ f ∈ l, f.name ≠ n) : getF l n = none := by
  unfold getF
  exact List.find?_eq_none.2 (fun f hf => by simpa using h f hf)
theorem setF_sorted {l : List AFile} (h : Sorted l) (f : AFile) : Sorted (setF l f) := by
  unfold Sorted setF
  rw [List.pairwise_map]
  refine h.imp fun {a b} hab => ?_
  have e : ∀ g : AFile, (if g.name = f.name then f else g).name = g.name := fun g => by split <;> simp_all
  rw [e, e]; exact hab
theorem insF_perm (f : AFile) : ∀ l, (insF f l).Perm (f :: l)
  | [] => .refl _
  | g :: l => by
    unfold insF
    split
    · exact .refl _
    · exact ((insF_perm f l).cons g).trans (.swap f g l)
theorem insF_sorted (f : AFile) : ∀ {l : List AFile}, Sorted l → getF l f.name = none → Sorted (insF f l)
  | [], _, _ => by simp [insF, Sorted]
  | g :: l, h, hn => by
    have hne := getF_none hn
    unfold insF
    unfold Sorted at h ⊢
    rw [List.pairwise_cons] at h
    split
    · rename_i hlt
      refine List.pairwise_cons.2 ⟨fun a ha => ?_, List.pairwise_cons.2 h⟩
      rcases List.mem_cons.1 ha with rfl | ha
      · exact hlt
      · exact bytes_lt_trans hlt (h.1 a ha)
    · rename_i hlt
      have hgf : g.name < f.name := by
        rcases bytes_tri g.name f.name with h1 | h1 | h1
        · exact h1
        · exact absurd h1 (hne g (by simp))
        · exact absurd h1 hlt
      refine List.pairwise_cons.2 ⟨fun a ha => ?_, insF_sorted f h.2 (getF_none_of fun a ha => hne a (by simp [ha]))⟩
      rcases List.mem_cons.1 ((insF_perm f l).mem_iff.1 ha) with rfl | ha
      · exact hgf
      · exact h.1 a ha
theorem delF_sorted {l : List AFile} (h : Sorted l) (n : Bytes) : Sorted (delF l n) := List.Pairwise.filter _ h

section
variable {w w' : World} {b m : Nat} {es : Array MapEntry} {clk : Nat} {L : LF} {D : ADisk}
theorem DiskIs.names (h : DiskIs w b m es clk L D) : (L.map (·.1.name)).Nodup := by
  have h1 := h.ents.nodup'
  rw [show (kvOf L).map (·.1) = L.map (·.1.name) by simp [kvOf]] at h1
  exact h1
theorem DiskIs.names' (h : DiskIs w b m es clk L D) : ((L.map (·.1)).map (·.name)).Nodup := by rw [List.map_map]; exact h.names
theorem DiskIs.size (h : DiskIs w b m es clk L D) : es.size = D.files.length := by
  rw [h.ents.size, kvOf, List.length_map, ← h.perm.length_eq, List.length_map]
theorem DiskIs.get_some (h : DiskIs w b m es clk L D) {n : Bytes} {f : AFile} (hf : getF D.files n = some f) : ∃ c, (f, c) ∈ L ∧ f.name = n ∧ look (kvOf L) n = some (.pointer (some ⟨c, 0, none⟩)) := by
  obtain ⟨h1, h2⟩ := getF_mem hf
  obtain ⟨⟨f', c⟩, hx, rfl⟩ := List.mem_map.1 (h.perm.mem_iff.2 h1)
  refine ⟨c, hx, h2, ?_⟩
  obtain ⟨j, hj⟩ := List.mem_iff_getElem?.1 hx
  have := look_at (L := kvOf L) h.ents.nodup' (j := j) (x := (f'.name, .pointer (some ⟨c, 0, none⟩))) (by simp [kvOf, hj])
  simp only at h2
  rw [← h2]; exact this
theorem DiskIs.get_none (h : DiskIs w b m es clk L D) {n : Bytes} (hf : getF D.files n = none) : look (kvOf L) n = none := by
  refine look_none fun x hx => ?_
  obtain ⟨y, hy, rfl⟩ := List.mem_map.1 hx
  exact getF_none hf y.1 (h.perm.mem_iff.1 (List.mem_map.2 ⟨y, hy, rfl⟩))

def replL (L : LF) (c : Nat) (f : AFile) : LF := L.map fun y => if y.2 = c then (f, c) else y
theorem replL_snd (L : LF) (c : Nat) (f : AFile) : (replL L c f).map (·.2) = L.map (·.2) := by
  unfold replL
  rw [List.map_map]
  refine List.map_congr_left fun y _ => ?_
  simp only [Function.comp_apply]
  split <;> simp_all
theorem fp_repl (b m : Nat) (L : LF) (c : Nat) (f : AFile) : fp b m (replL L c f) = fp b m L := by unfold fp; rw [replL_snd]
theorem nodup_inj {α β : Type} {f : α → β} {l : List α} (h : (l.map f).Nodup) {a c : α} (ha : a ∈ l) (hc : c ∈ l) (e : f a = f c) : a = c := by
  induction l with
  | nil => cases ha
  | cons x l ih =>
    simp only [List.map_cons, List.nodup_cons] at h
    rcases List.mem_cons.1 ha with h1 | h1 <;> rcases List.mem_cons.1 hc with h2 | h2
    · rw [h1, h2]
    · exact absurd (List.mem_map.2 ⟨c, h2, by rw [← e, h1]⟩) h.1
    · exact absurd (List.mem_map.2 ⟨a, h1, by rw [e, h2]⟩) h.1
    · exact ih h.2 h1 h2
theorem DiskIs.snds (h : DiskIs w b m es clk L D) : (L.map (·.2)).Nodup := by
  have := h.nodup
  simp only [List.nodup_cons] at this
  exact this.2.2
theorem DiskIs.ne (h : DiskIs w b m es clk L D) {f : AFile} {c : Nat} (hc : (f, c) ∈ L) : c ≠ b ∧ c ≠ m ∧ b ≠ m := by
  have := h.nodup
  simp only [List.nodup_cons, List.mem_cons, not_or] at this
  have hm : c ∈ L.map (·.2) := List.mem_map.2 ⟨_, hc, rfl⟩
  exact ⟨fun e => this.1.2 (e ▸ hm), fun e => this.2.1 (e ▸ hm), this.1.1⟩

theorem frm_fp {f : AFile} {c : Nat} (hc : (f, c) ∈ L) (hf : Frm [b, m, c] w w') : Frm (fp b m L) w w' :=
  hf.mono fun x hx => .inl (by
    simp only [List.mem_cons, List.not_mem_nil, or_false] at hx
    simp only [fp, List.mem_cons]
    rcases hx with rfl | rfl | rfl
    · exact .inl rfl
    · exact .inr (.inl rfl)
    · exact .inr (.inr (List.mem_map.2 ⟨_, hc, rfl⟩)))
theorem frm_bc {c : Nat} (hf : Frm [b, c] w w') : Frm [b, m, c] w w' := hf.mono fun x hx => .inl (by simp at hx ⊢; rcases hx with rfl | rfl <;> simp)

/-- A file has turned. -/
theorem DiskIs.upd (h : DiskIs w b m es clk L D) {f f' : AFile} {c : Nat} (hc : (f, c) ∈ L) (hname : f'.name = f.name) (D' : ADisk) (hfl : D'.files = setF D.files f') (hf : Frm [b, c] w w')
    (ho : w'.heap[b]? = some (.cells #[.map (some m), .int .i64 D'.room, .int .i64 D'.fuse, .bool D'.dead] 85 (0, 0)))
    (hcc : w'.heap[c]? = some (.cells #[sv f'.bytes, .int .i64 f'.synced] 103 (0, 0))) : DiskIs w' b m es clk (replL L c f') D' := by
  obtain ⟨hcb, hcm, hbm⟩ := h.ne hc
  have hkey : ∀ y ∈ L, (y.2 = c ↔ y.1.name = f'.name) := fun y hy => by
    constructor
    · intro e
      have : y = (f, c) := nodup_inj (f := Prod.snd) h.snds hy hc e
      rw [this, hname]
    · intro e
      have : y = (f, c) := nodup_inj (f := fun x : AFile × Nat => x.1.name) h.names hy hc (by rw [e, hname])
      rw [this]
  have hfst : (replL L c f').map (·.1) = setF (L.map (·.1)) f' := by
    unfold replL setF
    rw [List.map_map, List.map_map]
    refine List.map_congr_left fun y hy => ?_
    simp only [Function.comp_apply]
    by_cases e : y.2 = c
    · rw [if_pos e, if_pos ((hkey y hy).1 e)]
    · rw [if_neg e, if_neg (fun e' => e ((hkey y hy).2 e'))]
  have hkv : kvOf (replL L c f') = kvOf L := by
    unfold kvOf replL
    rw [List.map_map]
    refine List.map_congr_left fun y hy => ?_
    simp only [Function.comp_apply]
    by_cases e : y.2 = c
    · rw [if_pos e, ← (hkey y hy).1 e, e]
    · rw [if_neg e]
  refine ⟨ho, hf.blk h.map (by simp; exact ⟨fun e => hbm e.symm, fun e => hcm e.symm⟩), by rw [hkv]; exact h.ents, ?_, by rw [replL_snd]; exact h.nodup, by rw [hfst, hfl]; exact h.perm.map _, by rw [hfl]; exact setF_sorted h.sorted _⟩
  intro x hx
  obtain ⟨y, hy, rfl⟩ := List.mem_map.1 hx
  by_cases e : y.2 = c
  · rw [if_pos e]; exact hcc
  · rw [if_neg e]
    refine hf.blk (h.file y hy) ?_
    have hyb := (h.ne (f := y.1) (c := y.2) hy).1
    simp [e, hyb]

theorem DRet.upd (h : DiskIs w b m es clk L D) {f f' : AFile} {c : Nat} (hc : (f, c) ∈ L) (hname : f'.name = f.name) (D' : ADisk) (hfl : D'.files = setF D.files f') (e : Int) (hf : Frm [b, c] w w')
    (ho : w'.heap[b]? = some (.cells #[.map (some m), .int .i64 D'.room, .int .i64 D'.fuse, .bool D'.dead] 85 (0, 0)))
    (hcc : w'.heap[c]? = some (.cells #[sv f'.bytes, .int .i64 f'.synced] 103 (0, 0))) {en : Ending} (hen : en = .returned (.int .i64 e)) : DRet w b (fp b m L) (e, D') en w' :=
  ⟨hen, _, ⟨m, es, clk, _, h.upd hc hname D' hfl hf ho hcc, rfl⟩, frm_fp hc (frm_bc hf), by rw [fp_repl]; exact fun x hx => .inl hx⟩

/-- A file has come. -/
theorem DiskIs.come (h : DiskIs w b m es clk L D) (f' : AFile) (c : Nat) (hget : getF D.files f'.name = none) (D' : ADisk) (hfl : D'.files = insF f' D.files) (hc : w.heap.size ≤ c) (hf : Frm [b, m] w w')
    (ho : w'.heap[b]? = some (.cells #[.map (some m), .int .i64 D'.room, .int .i64 D'.fuse, .bool D'.dead] 85 (0, 0)))
    (hm : w'.heap[m]? = some (.map (es.push { key := sv f'.name, val := .pointer (some ⟨c, 0, none⟩), born := clk }) (clk + 1)))
    (hcc : w'.heap[c]? = some (.cells #[sv f'.bytes, .int .i64 f'.synced] 103 (0, 0))) : DiskIs w' b m (es.push { key := sv f'.name, val := .pointer (some ⟨c, 0, none⟩), born := clk }) (clk + 1) (L ++ [(f', c)]) D' := by
  have hlt := h.lt
  have hnew : c ∉ b :: m :: L.map (·.2) := fun hm => by have := hlt c (by simpa [fp] using hm); omega
  refine ⟨ho, hm, ?_, ?_, ?_, ?_, by rw [hfl]; exact insF_sorted f' h.sorted hget⟩
  · have := h.ents.push keyS (k := f'.name) (.pointer (some ⟨c, 0, none⟩)) (h.get_none hget)
    simpa [kvOf] using this
  · intro x hx
    rcases List.mem_append.1 hx with hx | hx
    · refine hf.blk (h.file x hx) ?_
      obtain ⟨h1, h2, _⟩ := h.ne (f := x.1) (c := x.2) hx
      simp [h1, h2]
    · simp at hx; subst hx; exact hcc
  · have hnd := h.nodup
    rw [List.map_append]
    rw [show b :: m :: (L.map (·.2) ++ [(f', c)].map (·.2)) = (b :: m :: L.map (·.2)) ++ [c] by simp]
    refine List.nodup_append.2 ⟨hnd, by simp, ?_⟩
    intro a ha x hx
    simp at hx; subst hx
    intro e; exact hnew (e ▸ ha)
  · rw [hfl, List.map_append]
    refine (List.perm_append_comm).trans ?_
    exact ((h.perm.cons f')).trans (insF_perm f' D.files).symm

theorem DRet.come (h : DiskIs w b m es clk L D) (f' : AFile) (c : Nat) (hget : getF D.files f'.name = none) (D' : ADisk) (hfl : D'.files = insF f' D.files) (e : Int) (hc : w.heap.size ≤ c) (hf : Frm [b, m] w w')
    (ho : w'.heap[b]? = some (.cells #[.map (some m), .int .i64 D'.room, .int .i64 D'.fuse, .bool D'.dead] 85 (0, 0)))
    (hm : w'.heap[m]? = some (.map (es.push { key := sv f'.name, val := .pointer (some ⟨c, 0, none⟩), born := clk }) (clk + 1)))
    (hcc : w'.heap[c]? = some (.cells #[sv f'.bytes, .int .i64 f'.synced] 103 (0, 0))) {en : Ending} (hen : en = .returned (.int .i64 e)) : DRet w b (fp b m L) (e, D') en w' :=
  ⟨hen, _, ⟨m, _, _, _, h.come f' c hget D' hfl hc hf ho hm hcc, rfl⟩, hf.mono (fun x hx => .inl (by simp at hx; rcases hx with rfl | rfl <;> simp [fp])), fun x hx => by
    simp only [fp, List.map_append, List.mem_cons, List.mem_append, List.map_cons, List.map_nil, List.not_mem_nil, or_false] at hx ⊢
    rcases hx with h1 | h1 | h1 | h1
    · exact .inl (.inl h1)
    · exact .inl (.inr (.inl h1))
    · exact .inl (.inr (.inr h1))
    · exact .inr (by omega)⟩

/-- A file has gone. -/
theorem DiskIs.gone (h : DiskIs w b m es clk L D) {f : AFile} {c : Nat} (hc : (f, c) ∈ L) (D' : ADisk) (hfl : D'.files = delF D.files f.name) (es' : Array MapEntry) (hE : Ents sv es' clk (delL (kvOf L) f.name)) (hf : Frm [b, m, c] w w')
    (ho : w'.heap[b]? = some (.cells #[.map (some m), .int .i64 D'.room, .int .i64 D'.fuse, .bool D'.dead] 85 (0, 0)))
    (hm : w'.heap[m]? = some (.map es' clk)) : DiskIs w' b m es' clk (L.filter fun x => decide (x.1.name ≠ f.name)) D' := by
  have hsub : (L.filter fun x => decide (x.1.name ≠ f.name)).Sublist L := List.filter_sublist
  refine ⟨ho, hm, ?_, ?_, h.nodup.sublist ?_, ?_, by rw [hfl]; exact delF_sorted h.sorted _⟩
  · have e : kvOf (L.filter fun x => decide (x.1.name ≠ f.name)) = delL (kvOf L) f.name := by
      unfold kvOf delL
      rw [List.filter_map]
      rfl
    rw [e]; exact hE
  · intro x hx
    have hxL := hsub.subset hx
    refine hf.blk (h.file x hxL) ?_
    obtain ⟨h1, h2, _⟩ := h.ne (f := x.1) (c := x.2) hxL
    have h3 : x.2 ≠ c := by
      intro e
      have : x = (f, c) := nodup_inj (f := Prod.snd) h.snds hxL hc e
      rw [this] at hx
      simp at hx
    simp [h1, h2, h3]
  · exact List.Sublist.cons_cons _ (List.Sublist.cons_cons _ (hsub.map _))
  · rw [hfl]
    have e : (L.filter fun x => decide (x.1.name ≠ f.name)).map (·.1) = delF (L.map (·.1)) f.name := by
      unfold delF
      rw [List.filter_map]
      rfl
    rw [e]
    exact h.perm.filter _
end
end Go.Proofs.YtlopfabbjilpnaaGreatDoor
