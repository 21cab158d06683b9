/- Package log: sound disks behind its calls; a log under way, in a law's walk. -/
import Derived.Test.YtlopfabbjilpnaaGreatDoorLogK
set_option linter.unusedSimpArgs false
set_option linter.unusedVariables false
namespace Go.Proofs.YtlopfabbjilpnaaGreatDoor
open Go.RowKit

theorem nextSeg_pos (D : ADisk) : 0 < nextSeg D := by unfold nextSeg; split <;> omega
theorem segName_seg (n : Nat) (h : n < 100) (h0 : 0 < n) : isSeg (segName n) = true → ∃ u, Lib.parseUintB 32 ((segName n).drop 1) = .ok u := fun _ => segName_parse n h h0
theorem DGood.add {D : ADisk} (h : DGood D) (r : Bytes) (hn : nextSeg D < 100) : DGood (addD D r).2 := by
  unfold addD
  split
  · exact h
  · unfold nextSeg at hn
    cases hs : (segsF D.files).getLast? with
    | none => exact h.append _ _ (segName_seg 1 (by decide) (by decide))
    | some x =>
      rw [hs] at hn
      simp only at hn ⊢
      obtain ⟨k, hk, hlast⟩ := segs_last (n := x.1) (f := x.2) hs
      split
      · exact h.append _ _ (h.seg _ (segsF_mem (List.mem_iff_getElem?.2 ⟨k, hlast⟩)).1)
      · refine runActs_good _ (fun a ha D' hD' => ?_) D h
        simp only [List.mem_cons, List.not_mem_nil, or_false] at ha
        rcases ha with rfl | rfl
        · exact hD'.logSync
        · simp only
          split
          · exact hD'
          · exact hD'.append _ _ (segName_seg _ hn (by omega))
theorem DGood.renew {D : ADisk} (h : DGood D) (l : List Bytes) (hn : nextSeg D < 100) : DGood (renewD D l).2 := by
  unfold renewD
  split
  · exact h
  · refine runActs_good _ (fun a ha D' hD' => ?_) D h
    rcases List.mem_append.1 ha with ha | ha
    · simp only [List.mem_cons, List.not_mem_nil, or_false] at ha
      rcases ha with rfl | rfl | rfl
      · exact hD'.logSync
      · simp only
        split
        · exact hD'
        · exact hD'.append _ _ (segName_seg _ hn (nextSeg_pos D))
      · exact hD'.logSync
    · obtain ⟨x, _, rfl⟩ := List.mem_map.1 ha
      exact hD'.remove _
theorem DGood.open {D : ADisk} (h : DGood D) : DGood (openD D).2.2 := by
  have key : ∀ (x : Bytes) (k : Int), DGood (runActs [fun D => cutD D x k, logSyncD] D).2 := fun x k => by
    refine runActs_good _ (fun a ha D' hD' => ?_) D h
    simp only [List.mem_cons, List.not_mem_nil, or_false] at ha
    rcases ha with rfl | rfl
    · exact hD'.cut _ _
    · exact hD'.logSync
  unfold openD
  split
  · exact h
  · split
    · exact h
    · split
      · exact h
      · split <;> exact key _ _

/-- A disk that a call made itself. -/
structure DSt (w0 W : World) (b : Nat) (D : ADisk) (F : List Nat) : Prop where
  disk : DiskAt W b D F
  new : ∀ x ∈ F, w0.heap.size ≤ x
  frm : Frm [] w0 W
/-- A log on it. -/
structure LSt (w0 W : World) (b lb : Nat) (D : ADisk) (F : List Nat) : Prop extends DSt w0 W b D F where
  log : LogAt W lb b
  out : lb ∉ F

theorem DSt.frm0 {w0 W W' : World} {b : Nat} {D : ADisk} {F : List Nat} (h : DSt w0 W b D F) (hf : Frm [] W W') : DSt w0 W' b D F := ⟨h.disk.frm0 hf, h.new, h.frm.trans hf⟩
theorem LSt.frm0 {w0 W W' : World} {b lb : Nat} {D : ADisk} {F : List Nat} (h : LSt w0 W b lb D F) (hf : Frm [] W W') : LSt w0 W' b lb D F := ⟨h.toDSt.frm0 hf, hf.blk h.log (by simp), h.out⟩
/-- What came of a step: the new blocks, and what the call leaves. -/
structure Went (W W' : World) (F F' : List Nat) : Prop where
  frm : Frm F W W'
  new : ∀ x ∈ F', x ∈ F ∨ W.heap.size ≤ x
theorem Went.out {W W' : World} {F F' : List Nat} (h : Went W W' F F') {k : Nat} (hk : k ∉ F) (hl : k < W.heap.size) : k ∉ F' := fun hm => by
  rcases h.new k hm with h1 | h1
  · exact hk h1
  · omega
theorem Went.blk {W W' : World} {F F' : List Nat} (h : Went W W' F F') {k : Nat} {o : Obj} (hb : W.heap[k]? = some o) (hk : k ∉ F) : W'.heap[k]? = some o ∧ k ∉ F' := ⟨h.frm.blk hb hk, h.out hk (lt_of_block hb)⟩
theorem DSt.went {w0 W W' : World} {b : Nat} {D D' : ADisk} {F F' : List Nat} (h : DSt w0 W b D F) (hd : DiskAt W' b D' F') (hw : Went W W' F F') : DSt w0 W' b D' F' :=
  ⟨hd, fun x hx => by
    rcases hw.new x hx with h1 | h1
    · exact h.new x h1
    · exact Nat.le_trans h.frm.size h1, h.frm.trans' hw.frm (fun x hx => .inr (h.new x hx))⟩
theorem LSt.went {w0 W W' : World} {b lb : Nat} {D D' : ADisk} {F F' : List Nat} (h : LSt w0 W b lb D F) (hd : DiskAt W' b D' F') (hw : Went W W' F F') : LSt w0 W' b lb D' F' :=
  ⟨h.toDSt.went hd hw, (hw.blk h.log h.out).1, (hw.blk h.log h.out).2⟩
theorem DSt.step {w0 W W' : World} {b : Nat} {D : ADisk} {F : List Nat} {r : Int × ADisk} {e : Ending} (h : DSt w0 W b D F) (hd : DRet W b F r e W') : e = .returned (.int .i64 r.1) ∧ ∃ F', DSt w0 W' b r.2 F' ∧ Went W W' F F' := by
  obtain ⟨rfl, F', hdk, hf, hn⟩ := hd
  exact ⟨rfl, F', h.went hdk ⟨hf, hn⟩, hf, hn⟩
theorem LSt.step {w0 W W' : World} {b lb : Nat} {D : ADisk} {F : List Nat} {r : Int × ADisk} {e : Ending} (h : LSt w0 W b lb D F) (hd : DRet W b F r e W') : e = .returned (.int .i64 r.1) ∧ ∃ F', LSt w0 W' b lb r.2 F' ∧ Went W W' F F' := by
  obtain ⟨rfl, F', hdk, hf, hn⟩ := hd
  exact ⟨rfl, F', h.went hdk ⟨hf, hn⟩, hf, hn⟩
/-- Open, where it opens. -/
theorem DSt.opens {w0 W W' : World} {b : Nat} {D D' : ADisk} {recs : List Bytes} {F : List Nat} {e : Ending} (h : DSt w0 W b D F) (hd : RetOpen W b F (0, recs, D') e W') :
    ∃ F' lb v, e = .returned (.tuple #[.pointer (some ⟨lb, 0, none⟩), v, .int .i64 0]) ∧ LSt w0 W' b lb D' F' ∧ Went W W' F F' ∧ SS w0.heap.size W' v recs ∧ ∀ g, v.ownBlock = some g → g ∉ F' := by
  obtain ⟨F', hdk, hf, hn, h1 | h1⟩ := hd
  · obtain ⟨_, lb, v, rfl, hl, hlb, hlf, hs, hg⟩ := h1
    exact ⟨F', lb, v, rfl, ⟨h.went hdk ⟨hf, hn⟩, hl, hlf⟩, ⟨hf, hn⟩, own_mono hs h.frm.size, hg⟩
  · exact absurd rfl h1.1
theorem DSt.halts {w0 W W' : World} {b : Nat} {D D' : ADisk} {recs : List Bytes} {F : List Nat} {r : Int} {e : Ending} (h : DSt w0 W b D F) (hd : RetOpen W b F (r, recs, D') e W') (hr : r ≠ 0) :
    ∃ F', e = .returned (.tuple #[.pointer none, .slice none 0 0, .int .i64 r]) ∧ DSt w0 W' b D' F' ∧ Went W W' F F' := by
  obtain ⟨F', hdk, hf, hn, h1 | h1⟩ := hd
  · exact absurd h1.1 hr
  · exact ⟨F', h1.2, h.went hdk ⟨hf, hn⟩, hf, hn⟩

/-- A slice of texts of the call's own, read. -/
theorem SS_get {base : Nat} {w : World} {v : Value} {l : List Bytes} (h : SS base w v l) : ∃ a c, v = .slice a l.length c ∧ ∀ (i : Nat) (x : Bytes), l[i]? = some x → ∃ g cur, a = some ⟨g, 0, none⟩ ∧ base ≤ g ∧ w.heap[g]? = some (.cells cur 9 (0, 0)) ∧ cur[i]? = some (sv x) := by
  rcases SS_cases h with ⟨rfl, a, c, rfl⟩ | ⟨g, cap, cur, rfl, h1, h2, h3⟩
  · exact ⟨a, c, rfl, fun i x hx => by simp at hx⟩
  · exact ⟨_, _, rfl, fun i x hx => ⟨g, cur, rfl, h1, h2, h3 i x hx⟩⟩
theorem New_st (w : World) : Calls Tryz.prog 13 #[] w fun en w' => ∃ b F, en = .returned (.pointer (some ⟨b, 0, none⟩)) ∧ DSt w w' b newD F :=
  (New_any w).mono (by rintro e w' ⟨rfl, hd, hf⟩; exact ⟨_, _, rfl, hd, by simp, hf⟩)
end Go.Proofs.YtlopfabbjilpnaaGreatDoor
