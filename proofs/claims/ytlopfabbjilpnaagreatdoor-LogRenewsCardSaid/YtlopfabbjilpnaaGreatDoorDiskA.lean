/- Package disk: a disk in memory; the calls that look at its own fields alone. -/
import Derived.Test.YtlopfabbjilpnaaGreatDoorDiskP
import Derived.Test.YtlopfabbjilpnaaGreatDoorMaps
import Derived.Test.YtlopfabbjilpnaaGreatDoorSplitB
set_option linter.unusedSimpArgs false
set_option linter.unusedVariables false
namespace Go.Proofs.YtlopfabbjilpnaaGreatDoor
open Go.RowKit Go.MapKept

theorem keyS : KeyK Tryz.prog 9 sv := ⟨⟨.string, Tryz.underlying9, fun _ => trivial⟩, fun a b h => by simpa [sv] using h, fun a => by simp only [sv, Instr.sameBits]; exact (bytes_beq _ _).2 rfl⟩
/-- Files, each with the block in which its content lies. -/
abbrev LF := List (AFile × Nat)
def kvOf (L : LF) : List (Bytes × Value) := L.map fun x => (x.1.name, .pointer (some ⟨x.2, 0, none⟩))

structure DiskIs (w : World) (b m : Nat) (es : Array MapEntry) (clk : Nat) (L : LF) (D : ADisk) : Prop where
  own : w.heap[b]? = some (.cells #[.map (some m), .int .i64 D.room, .int .i64 D.fuse, .bool D.dead] 85 (0, 0))
  map : w.heap[m]? = some (.map es clk)
  ents : Ents sv es clk (kvOf L)
  file : ∀ x ∈ L, w.heap[x.2]? = some (.cells #[sv x.1.bytes, .int .i64 x.1.synced] 103 (0, 0))
  nodup : (b :: m :: L.map (·.2)).Nodup
  perm : (L.map (·.1)).Perm D.files
  sorted : Sorted D.files
def fp (b m : Nat) (L : LF) : List Nat := b :: m :: L.map (·.2)
/-- A disk at an address; the blocks in which it lies. -/
def DiskAt (w : World) (b : Nat) (D : ADisk) (F : List Nat) : Prop := ∃ m es clk L, DiskIs w b m es clk L D ∧ F = fp b m L

theorem DiskIs.frm {w w' : World} {b m : Nat} {es : Array MapEntry} {clk : Nat} {L : LF} {D : ADisk} {G : List Nat} (h : DiskIs w b m es clk L D) (hf : Frm G w w') (hG : ∀ x ∈ G, x ∈ fp b m L → False) : DiskIs w' b m es clk L D :=
  ⟨hf.blk h.own (fun hm => hG _ hm (by simp [fp])), hf.blk h.map (fun hm => hG _ hm (by simp [fp])), h.ents,
    fun x hx => hf.blk (h.file x hx) (fun hm => hG _ hm (by simp only [fp, List.mem_cons]; exact .inr (.inr (List.mem_map.2 ⟨x, hx, rfl⟩)))), h.nodup, h.perm, h.sorted⟩
theorem DiskAt.frm {w w' : World} {b : Nat} {D : ADisk} {F G : List Nat} (h : DiskAt w b D F) (hf : Frm G w w') (hG : ∀ x ∈ G, x ∈ F → False) : DiskAt w' b D F := by
  obtain ⟨m, es, clk, L, hd, rfl⟩ := h
  exact ⟨m, es, clk, L, hd.frm hf hG, rfl⟩
theorem DiskAt.frm0 {w w' : World} {b : Nat} {D : ADisk} {F : List Nat} (h : DiskAt w b D F) (hf : Frm [] w w') : DiskAt w' b D F := h.frm hf (fun _ h => by cases h)
theorem DiskIs.lt {w : World} {b m : Nat} {es : Array MapEntry} {clk : Nat} {L : LF} {D : ADisk} (h : DiskIs w b m es clk L D) : ∀ x ∈ fp b m L, x < w.heap.size := by
  intro x hx
  simp only [fp, List.mem_cons] at hx
  rcases hx with rfl | rfl | hx
  · exact lt_of_block h.own
  · exact lt_of_block h.map
  · obtain ⟨y, hy, rfl⟩ := List.mem_map.1 hx
    exact lt_of_block (h.file y hy)
theorem DiskAt.lt {w : World} {b : Nat} {D : ADisk} {F : List Nat} (h : DiskAt w b D F) : ∀ x ∈ F, x < w.heap.size := by
  obtain ⟨m, es, clk, L, hd, rfl⟩ := h; exact hd.lt
theorem DiskAt.mem {w : World} {b : Nat} {D : ADisk} {F : List Nat} (h : DiskAt w b D F) : b ∈ F := by
  obtain ⟨m, es, clk, L, hd, rfl⟩ := h; simp [fp]
theorem DiskAt.own {w : World} {b : Nat} {D : ADisk} {F : List Nat} (h : DiskAt w b D F) : ∃ m, w.heap[b]? = some (.cells #[.map (some m), .int .i64 D.room, .int .i64 D.fuse, .bool D.dead] 85 (0, 0)) := by
  obtain ⟨m, es, clk, L, hd, rfl⟩ := h; exact ⟨m, hd.own⟩

/-- What a call on a disk answers, and makes of it. -/
def DRet (w : World) (b : Nat) (F : List Nat) (r : Int × ADisk) (en : Ending) (w' : World) : Prop :=
  en = .returned (.int .i64 r.1) ∧ ∃ F', DiskAt w' b r.2 F' ∧ Frm F w w' ∧ ∀ x ∈ F', x ∈ F ∨ w.heap.size ≤ x

theorem New_any (w : World) : Calls Tryz.prog 13 #[] w fun en w' => en = .returned (.pointer (some ⟨w.heap.size + 1, 0, none⟩)) ∧ DiskAt w' (w.heap.size + 1) newD [w.heap.size + 1, w.heap.size] ∧ Frm [] w w' := by
  have hmm := @run_makeMap Tryz.prog
  go_enter Tryz.func13, Tryz.ntmps13
  go_wp2
  go_ret
  refine ⟨rfl, ⟨w.heap.size, #[], 0, [], ⟨?_, ?_, ⟨⟨by simp, by simp, by simp⟩, rfl⟩, by simp, by simp, .refl _, .nil⟩, rfl⟩, by (repeat (first | (with_reducible exact Frm.refl _ _) | assumption | (with_reducible refine Frm.alloc ?_ _) | ((with_reducible refine Frm.setCell ?_ ?_ _); rotate_left; (first | (focus (left; simp; done)) | (focus (right; simp; done)) | (focus (right; simp; omega)))) | ((with_reducible refine Frm.put ?_ _ ?_); rotate_left; (first | (focus (left; simp; done)) | (focus (right; simp; done)) | (focus (right; simp; omega)))) | (with_reducible refine Frm.drew ?_) | (with_reducible refine Frm.drewN ?_ _)))⟩
  · simp [go_sem, newD]
  · simp [go_sem]

theorem Dead_any (b : Nat) (D : ADisk) (F : List Nat) (w : World) (h : DiskAt w b D F) : Calls Tryz.prog 29 #[.pointer (some ⟨b, 0, none⟩)] w fun en w' => en = .returned (.bool D.dead) ∧ w = w' := by
  obtain ⟨m, hm⟩ := h.own
  go_enter Tryz.func29, Tryz.ntmps29
  go_wp2
  go_ret
  exact ⟨rfl, rfl⟩

theorem DiskIs.own' {w w' : World} {b m : Nat} {es : Array MapEntry} {clk : Nat} {L : LF} {D : ADisk} (h : DiskIs w b m es clk L D) (D' : ADisk) (hf : Frm [b] w w') (hfl : D'.files = D.files)
    (ho : w'.heap[b]? = some (.cells #[.map (some m), .int .i64 D'.room, .int .i64 D'.fuse, .bool D'.dead] 85 (0, 0))) : DiskIs w' b m es clk L D' := by
  have hnd := h.nodup
  simp only [List.nodup_cons, List.mem_cons, not_or] at hnd
  refine ⟨ho, hf.blk h.map (by simp; exact fun e => hnd.1.1 e.symm), h.ents, fun x hx => hf.blk (h.file x hx) ?_, h.nodup, by rw [hfl]; exact h.perm, by rw [hfl]; exact h.sorted⟩
  simp only [List.mem_singleton]
  intro e
  exact hnd.1.2 (List.mem_map.2 ⟨x, hx, e⟩)
theorem DRet.own {w w' : World} {b m : Nat} {es : Array MapEntry} {clk : Nat} {L : LF} {D : ADisk} (h : DiskIs w b m es clk L D) (D' : ADisk) (e : Int) (hf : Frm [b] w w') (hfl : D'.files = D.files)
    (ho : w'.heap[b]? = some (.cells #[.map (some m), .int .i64 D'.room, .int .i64 D'.fuse, .bool D'.dead] 85 (0, 0))) {en : Ending} (hen : en = .returned (.int .i64 e)) : DRet w b (fp b m L) (e, D') en w' :=
  ⟨hen, _, ⟨m, es, clk, L, h.own' D' hf hfl ho, rfl⟩, hf.mono (fun x hx => by simp at hx; subst hx; simp [fp]), fun x hx => .inl hx⟩

theorem Start_any (b : Nat) (D : ADisk) (F : List Nat) (w : World) (h : DiskAt w b D F) : Calls Tryz.prog 19 #[.pointer (some ⟨b, 0, none⟩)] w (DRet w b F (0, startD D)) := by
  obtain ⟨m, es, clk, L, hd, rfl⟩ := h
  have ho := hd.own
  go_enter Tryz.func19, Tryz.ntmps19
  go_wp2
  go_ret
  refine DRet.own hd (startD D) 0 ?_ rfl (heap_setCell _ ho) rfl
  (repeat (first | (with_reducible exact Frm.refl _ _) | assumption | (with_reducible refine Frm.alloc ?_ _) | ((with_reducible refine Frm.setCell ?_ ?_ _); rotate_left; (first | (focus (left; simp; done)) | (focus (right; simp; done)) | (focus (right; simp; omega)))) | ((with_reducible refine Frm.put ?_ _ ?_); rotate_left; (first | (focus (left; simp; done)) | (focus (right; simp; done)) | (focus (right; simp; omega)))) | (with_reducible refine Frm.drew ?_) | (with_reducible refine Frm.drewN ?_ _)))

theorem off_any (b : Nat) (m : Value) (r f : Int) (dd : Bool) (w : World) (h : w.heap[b]? = some (.cells #[m, .int .i64 r, .int .i64 f, .bool dd] 85 (0, 0))) : Calls Tryz.prog 56 #[.pointer (some ⟨b, 0, none⟩)] w fun en w' =>
    en = .returned (.tuple #[]) ∧ w'.heap[b]? = some (.cells #[m, .int .i64 r, .int .i64 (-1), .bool true] 85 (0, 0)) ∧ Frm [b] w w' := by
  go_enter Tryz.func56, Tryz.ntmps56
  go_wp2
  go_end0
  exact ⟨rfl, by simp [go_sem, h], by (repeat (first | (with_reducible exact Frm.refl _ _) | assumption | (with_reducible refine Frm.alloc ?_ _) | ((with_reducible refine Frm.setCell ?_ ?_ _); rotate_left; (first | (focus (left; simp; done)) | (focus (right; simp; done)) | (focus (right; simp; omega)))) | ((with_reducible refine Frm.put ?_ _ ?_); rotate_left; (first | (focus (left; simp; done)) | (focus (right; simp; done)) | (focus (right; simp; omega)))) | (with_reducible refine Frm.drew ?_) | (with_reducible refine Frm.drewN ?_ _)))⟩

theorem Fuse_any (b : Nat) (D : ADisk) (F : List Nat) (k : Int) (w : World) (h : DiskAt w b D F) : Calls Tryz.prog 28 #[.pointer (some ⟨b, 0, none⟩), .int .i64 k] w (DRet w b F (fuseD D k)) := by
  obtain ⟨n1, n2, n3, n4⟩ := old_ne (h.lt b h.mem)
  obtain ⟨m, es, clk, L, hd, rfl⟩ := h
  have ho := hd.own
  cases hD : D.dead
  · rw [hD] at ho
    have hR := Lib.hid (show fuseD D k = (0, { D with fuse := if k < -1 then -1 else k }) by simp [fuseD, hD])
    go_enter Tryz.func28, Tryz.ntmps28
    go_wp2
    go_ret
    rw [hR.out]
    refine DRet.own hd { D with fuse := if k < -1 then -1 else k } 0 ?_ rfl ?_ rfl
    · (repeat (first | (with_reducible exact Frm.refl _ _) | assumption | (with_reducible refine Frm.alloc ?_ _) | ((with_reducible refine Frm.setCell ?_ ?_ _); rotate_left; (first | (focus (left; simp; done)) | (focus (right; simp; done)) | (focus (right; simp; omega)))) | ((with_reducible refine Frm.put ?_ _ ?_); rotate_left; (first | (focus (left; simp; done)) | (focus (right; simp; done)) | (focus (right; simp; omega)))) | (with_reducible refine Frm.drew ?_) | (with_reducible refine Frm.drewN ?_ _)))
    · simp [go_sem, ho, hD]
      omega
  · rw [hD] at ho
    have hR := Lib.hid (show fuseD D k = (8, D) by simp [fuseD, hD])
    go_enter Tryz.func28, Tryz.ntmps28
    go_wp2
    go_ret
    rw [hR.out]
    refine DRet.own hd D 8 ?_ rfl ?_ rfl
    · (repeat (first | (with_reducible exact Frm.refl _ _) | assumption | (with_reducible refine Frm.alloc ?_ _) | ((with_reducible refine Frm.setCell ?_ ?_ _); rotate_left; (first | (focus (left; simp; done)) | (focus (right; simp; done)) | (focus (right; simp; omega)))) | ((with_reducible refine Frm.put ?_ _ ?_); rotate_left; (first | (focus (left; simp; done)) | (focus (right; simp; done)) | (focus (right; simp; omega)))) | (with_reducible refine Frm.drew ?_) | (with_reducible refine Frm.drewN ?_ _)))
    · simp [go_sem, ho, hD]
end Go.Proofs.YtlopfabbjilpnaaGreatDoor
