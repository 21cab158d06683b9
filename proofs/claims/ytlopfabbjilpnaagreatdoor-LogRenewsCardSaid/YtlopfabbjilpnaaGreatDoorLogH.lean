/- Package log: Open. -/
import Derived.Test.YtlopfabbjilpnaaGreatDoorLogG
import Derived.StillTailTactics
import Derived.Outline
set_option linter.unusedSimpArgs false
set_option linter.unusedVariables false
namespace Go.Proofs.YtlopfabbjilpnaaGreatDoor
open Go.RowKit

set_option maxRecDepth 100000 in
set_option maxHeartbeats 1000000 in
/-- Open's first step: what is behind the last whole frame is cut. -/
theorem Open1_any (p9 p5 p7 lb b n : Nat) (f : AFile) (k c m en : Nat) (a : Option Addr) (segs : List (Nat × AFile)) (D : ADisk) (F : List Nat) (w : World)
    (h9 : w.heap[p9]? = some (.cells #[.pointer (some ⟨lb, 0, none⟩)] 41 (0, 0))) (hl : LogAt w lb b)
    (h5 : w.heap[p5]? = some (.cells #[.slice a m c] 106 (0, 0))) (h7 : w.heap[p7]? = some (.cells #[.int .i64 en] 3 (0, 0)))
    (hm : m = k + 1) (hk : k ≤ 1000) (hrow : SegRow w a segs) (hx : segs[k]? = some (n, f)) (hD : DiskAt w b D F) (hg : DGood D) :
    Calls Tryz.prog 60 #[.pointer (some ⟨p9, 0, none⟩), .pointer (some ⟨p5, 0, none⟩), .pointer (some ⟨p7, 0, none⟩)] w (DRet w b F (cutD D f.name en)) := by
  obtain ⟨g, cur, rfl, hg2, e0, e1, e2, e3⟩ := hrow k (n, f) hx
  unfold LogAt at hl
  subst hm
  have hcut := fun W hW => Cut_any b D F f.name en W hW hg.ok
  have HD := Lib.hid hD
  have hwk : IntKind.i64.wrap (k : Int) = k := i64w (by omega) (by omega)
  have hk0 : (0 : Int) ≤ (k : Int) := by omega
  have hk1 : (k : Int) < (k : Int) + 1 := by omega
  have hk2 : k < k + 1 := by omega
  clear hx hrow hD hg
  go_enter Tryz.func60, Tryz.ntmps60
  go_wp2
  go_still_tail 13, (by kernel_rfl)
  change wpList _ _ _ _ _ w.drew
  go_wp2_with (go_at_call 61; refine (hcut w.drew (HD.out.frm0 (Frm.refl _ _).drew)).mono ?_; rintro e w2 ⟨rfl, F2, hd2, hf2, hn2⟩)
  go_ret
  exact DRet.from (Frm.refl _ w).drew ⟨rfl, F2, hd2, hf2, hn2⟩

theorem SegRow.frm' {F : List Nat} {w w' : World} {a : Option Addr} {l : List (Nat × AFile)} (h : SegRow w a l) (hf : Frm F w w') (hne : ∀ g, a = some ⟨g, 0, none⟩ → g ∉ F) : SegRow w' a l := fun i x hx => by
  obtain ⟨g, cur, h1, h2, h3⟩ := h i x hx
  exact ⟨g, cur, h1, hf.blk h2 (hne g h1), h3⟩
theorem RetOpen.ok {w w' : World} {b : Nat} {F F' : List Nat} {recs : List Bytes} {D : ADisk} {en : Ending} {lb : Nat} {v : Value} (hD : DiskAt w' b D F') (hf : Frm F w w') (hn : ∀ x ∈ F', x ∈ F ∨ w.heap.size ≤ x)
    (he : en = .returned (.tuple #[.pointer (some ⟨lb, 0, none⟩), v, .int .i64 0])) (hl : LogAt w' lb b) (hlb : w.heap.size ≤ lb) (hlf : lb ∉ F') (hs : SS w.heap.size w' v recs) (hg : ∀ g, v.ownBlock = some g → g ∉ F') : RetOpen w b F (0, recs, D) en w' :=
  ⟨F', hD, hf, hn, .inl ⟨rfl, lb, v, he, hl, hlb, hlf, hs, hg⟩⟩

theorem Open_dead (b : Nat) (D : ADisk) (F : List Nat) (w : World) (hD : DiskAt w b D F) (hd : D.dead = true) :
    Calls Tryz.prog 20 #[.pointer (some ⟨b, 0, none⟩)] w (RetOpen w b F (openD D)) := by
  have hR := Lib.hid (show openD D = (8, [], D) by simp [openD, hd])
  have hde := Dead_any b D F w hD
  rw [hd] at hde
  have HD := Lib.hid hD
  clear hD hd
  go_enter Tryz.func20, Tryz.ntmps20
  go_wp2_with (go_at_call 29; refine hde.mono ?_; rintro e w1 ⟨rfl, rfl⟩)
  go_ret3
  rw [hR.out]
  exact ⟨F, HD.out, Frm.refl _ _, fun _ h => .inl h, .inr ⟨by simp, rfl⟩⟩

set_option maxRecDepth 100000 in
set_option maxHeartbeats 1000000 in
theorem Open_any (b : Nat) (D : ADisk) (F : List Nat) (w : World) (hD : DiskAt w b D F) (hg : DGood D) (hd : D.dead = false) :
    Calls Tryz.prog 20 #[.pointer (some ⟨b, 0, none⟩)] w (RetOpen w b F (openD D)) := by
  have hde := Dead_any b D F w hD
  rw [hd] at hde
  have hseg := hg.segments w hD
  have HD := Lib.hid hD
  cases hr : readF (segsF D.files) with
  | none =>
    have hread := fun a c W hW => read_any a c (segsF D.files) W hW hg.segs
    rw [hr] at hread
    have HR := Lib.hid (show openD D = (10, [], D) by simp [openD, hd, hr])
    clear hD hd hr
    go_enter Tryz.func20, Tryz.ntmps20
    go_wp2_with (first | (go_at_call 29; refine hde.mono ?_; rintro e w1 ⟨rfl, rfl⟩) | (go_at_call 57; refine hseg.mono ?_; rintro e w1 ⟨v, rfl, hrow, hF1⟩; obtain ⟨a, c, rfl, hrw⟩ := SG_row hrow) | (go_at_call 58; refine (hread a c _ (hrw.frm (by (repeat (first | (with_reducible exact Frm.refl _ _) | assumption | (with_reducible refine Frm.alloc ?_ _) | ((with_reducible refine Frm.setCell ?_ ?_ _); rotate_left; (first | (focus (left; simp; done)) | (focus (right; simp; done)) | (focus (right; simp; omega)))) | ((with_reducible refine Frm.put ?_ _ ?_); rotate_left; (first | (focus (left; simp; done)) | (focus (right; simp; done)) | (focus (right; simp; omega)))) | (with_reducible refine Frm.drew ?_) | (with_reducible refine Frm.drewN ?_ _)))))).mono ?_; rintro e w2 ⟨rfl, hF2⟩; have hF12 : Frm [] w w2 := hF1.trans (Frm.trans (by (repeat (first | (with_reducible exact Frm.refl _ _) | assumption | (with_reducible refine Frm.alloc ?_ _) | ((with_reducible refine Frm.setCell ?_ ?_ _); rotate_left; (first | (focus (left; simp; done)) | (focus (right; simp; done)) | (focus (right; simp; omega)))) | ((with_reducible refine Frm.put ?_ _ ?_); rotate_left; (first | (focus (left; simp; done)) | (focus (right; simp; done)) | (focus (right; simp; omega)))) | (with_reducible refine Frm.drew ?_) | (with_reducible refine Frm.drewN ?_ _)))) hF2)))
    go_ret3
    rw [HR.out]
    have hFF : Frm [] w (w2.alloc (.cells #[.int .i64 0] 3)) := by (repeat (first | (with_reducible exact Frm.refl _ _) | assumption | (with_reducible refine Frm.alloc ?_ _) | ((with_reducible refine Frm.setCell ?_ ?_ _); rotate_left; (first | (focus (left; simp; done)) | (focus (right; simp; done)) | (focus (right; simp; omega)))) | ((with_reducible refine Frm.put ?_ _ ?_); rotate_left; (first | (focus (left; simp; done)) | (focus (right; simp; done)) | (focus (right; simp; omega)))) | (with_reducible refine Frm.drew ?_) | (with_reducible refine Frm.drewN ?_ _)))
    exact ⟨F, HD.out.frm0 hFF, hFF.nil, fun _ h => .inl h, .inr ⟨by simp, rfl⟩⟩
  | some r =>
    obtain ⟨recs, en⟩ := r
    have hread := fun a c W hW => read_any a c (segsF D.files) W hW hg.segs
    rw [hr] at hread
    cases hs : (segsF D.files).getLast? with
    | none =>
      have HR := Lib.hid (show openD D = (0, recs, D) by simp [openD, hd, hr, hs])
      rw [List.getLast?_eq_none_iff] at hs
      rw [hs] at hseg hread
      clear hD hd hr hs
      go_enter Tryz.func20, Tryz.ntmps20
      go_wp2_with (first | (go_at_call 29; refine hde.mono ?_; rintro e w1 ⟨rfl, rfl⟩) | (go_at_call 57; refine hseg.mono ?_; rintro e w1 ⟨v, rfl, hrow, hF1⟩; obtain ⟨a, c, rfl, hrw⟩ := SG_row hrow) | (go_at_call 58; refine (hread a c _ (hrw.frm (by (repeat (first | (with_reducible exact Frm.refl _ _) | assumption | (with_reducible refine Frm.alloc ?_ _) | ((with_reducible refine Frm.setCell ?_ ?_ _); rotate_left; (first | (focus (left; simp; done)) | (focus (right; simp; done)) | (focus (right; simp; omega)))) | ((with_reducible refine Frm.put ?_ _ ?_); rotate_left; (first | (focus (left; simp; done)) | (focus (right; simp; done)) | (focus (right; simp; omega)))) | (with_reducible refine Frm.drew ?_) | (with_reducible refine Frm.drewN ?_ _)))))).mono ?_; rintro e w2 ⟨v2, rfl, hss2, hF2⟩; have hF12 : Frm [] w w2 := hF1.trans (Frm.trans (by (repeat (first | (with_reducible exact Frm.refl _ _) | assumption | (with_reducible refine Frm.alloc ?_ _) | ((with_reducible refine Frm.setCell ?_ ?_ _); rotate_left; (first | (focus (left; simp; done)) | (focus (right; simp; done)) | (focus (right; simp; omega)))) | ((with_reducible refine Frm.put ?_ _ ?_); rotate_left; (first | (focus (left; simp; done)) | (focus (right; simp; done)) | (focus (right; simp; omega)))) | (with_reducible refine Frm.drew ?_) | (with_reducible refine Frm.drewN ?_ _)))) hF2); have h5 := hF2.blk (k := w1.heap.size) (o := .cells #[.slice a 0 c] 106 (0, 0)) (by simp [go_sem]) (by simp)))
      go_ret3
      rw [HR.out]
      have hs1 := hF12.size
      have hs2 := hF1.size
      have hlt := HD.out.lt
      have hown : SS w.heap.size w2 v2 recs := own_mono hss2 (by rw [World.size_alloc]; omega)
      refine RetOpen.ok (D := D) (F' := F) (recs := recs) (lb := w2.heap.size + 1) (v := v2) (HD.out.frm0 (by (repeat (first | (with_reducible exact Frm.refl _ _) | assumption | (with_reducible refine Frm.alloc ?_ _) | ((with_reducible refine Frm.setCell ?_ ?_ _); rotate_left; (first | (focus (left; simp; done)) | (focus (right; simp; done)) | (focus (right; simp; omega)))) | ((with_reducible refine Frm.put ?_ _ ?_); rotate_left; (first | (focus (left; simp; done)) | (focus (right; simp; done)) | (focus (right; simp; omega)))) | (with_reducible refine Frm.drew ?_) | (with_reducible refine Frm.drewN ?_ _))))) (Frm.nil (by (repeat (first | (with_reducible exact Frm.refl _ _) | assumption | (with_reducible refine Frm.alloc ?_ _) | ((with_reducible refine Frm.setCell ?_ ?_ _); rotate_left; (first | (focus (left; simp; done)) | (focus (right; simp; done)) | (focus (right; simp; omega)))) | ((with_reducible refine Frm.put ?_ _ ?_); rotate_left; (first | (focus (left; simp; done)) | (focus (right; simp; done)) | (focus (right; simp; omega)))) | (with_reducible refine Frm.drew ?_) | (with_reducible refine Frm.drewN ?_ _))))) (fun _ h => .inl h) rfl (by simp [LogAt, go_sem]) (by omega) (fun h => by have := hlt _ h; omega) (own_frm hown (F := []) (by (repeat (first | (with_reducible exact Frm.refl _ _) | assumption | (with_reducible refine Frm.alloc ?_ _) | ((with_reducible refine Frm.setCell ?_ ?_ _); rotate_left; (first | (focus (left; simp; done)) | (focus (right; simp; done)) | (focus (right; simp; omega)))) | ((with_reducible refine Frm.put ?_ _ ?_); rotate_left; (first | (focus (left; simp; done)) | (focus (right; simp; done)) | (focus (right; simp; omega)))) | (with_reducible refine Frm.drew ?_) | (with_reducible refine Frm.drewN ?_ _)))) (fun _ _ h => by cases h)) (fun g hg h => by have := (own_lt hown hg).1; have := hlt _ h; omega)
    | some x =>
      obtain ⟨n, f⟩ := x
      obtain ⟨k, hk⟩ : ∃ k, (segsF D.files).length = k + 1 := by
        cases h : segsF D.files with
        | nil => rw [h] at hs; cases hs
        | cons a l => exact ⟨l.length, rfl⟩
      have hlast : (segsF D.files)[k]? = some (n, f) := by
        rw [List.getLast?_eq_getElem?, hk] at hs
        exact hs
      have hkb : k ≤ 1000 := by have := hg.segs.num; omega
      obtain ⟨r, D2, hacts⟩ : ∃ r D2, runActs [fun D => cutD D f.name en, logSyncD] D = (r, D2) := ⟨_, _, rfl⟩
      have HR := Lib.hid (show openD D = if r = 0 then (0, recs, D2) else (r, [], D2) by simp [openD, hd, hr, hs, hacts])
      have HK := Lib.hid hlast
      have HG := Lib.hid hg
      have HA := Lib.hid hacts
      have hkz : (0 : Int) < (k : Int) + 1 := by omega
      clear hD hd hr hs hg hlast hacts
      go_enter Tryz.func20, Tryz.ntmps20
      go_wp2_with (first | (go_at_call 29; refine hde.mono ?_; rintro e w1 ⟨rfl, rfl⟩) | (go_at_call 57; refine hseg.mono ?_; rintro e w1 ⟨v, rfl, hrow, hF1⟩; obtain ⟨a, c, rfl, hrw⟩ := SG_row hrow; simp only [hk] at *) | (go_at_call 58; refine (hread a c _ (hrw.frm (by (repeat (first | (with_reducible exact Frm.refl _ _) | assumption | (with_reducible refine Frm.alloc ?_ _) | ((with_reducible refine Frm.setCell ?_ ?_ _); rotate_left; (first | (focus (left; simp; done)) | (focus (right; simp; done)) | (focus (right; simp; omega)))) | ((with_reducible refine Frm.put ?_ _ ?_); rotate_left; (first | (focus (left; simp; done)) | (focus (right; simp; done)) | (focus (right; simp; omega)))) | (with_reducible refine Frm.drew ?_) | (with_reducible refine Frm.drewN ?_ _)))))).mono ?_; rintro e w2 ⟨v2, rfl, hss2, hF2⟩; have hF12 : Frm [] w w2 := hF1.trans (Frm.trans (by (repeat (first | (with_reducible exact Frm.refl _ _) | assumption | (with_reducible refine Frm.alloc ?_ _) | ((with_reducible refine Frm.setCell ?_ ?_ _); rotate_left; (first | (focus (left; simp; done)) | (focus (right; simp; done)) | (focus (right; simp; omega)))) | ((with_reducible refine Frm.put ?_ _ ?_); rotate_left; (first | (focus (left; simp; done)) | (focus (right; simp; done)) | (focus (right; simp; omega)))) | (with_reducible refine Frm.drew ?_) | (with_reducible refine Frm.drewN ?_ _)))) hF2); have h5 := hF2.blk (k := w1.heap.size) (o := .cells #[.slice a (k + 1) c] 106 (0, 0)) (by simp [go_sem]) (by simp)))
      have hs1 := hF12.size
      have hs2 := hF1.size
      have hlt := HD.out.lt
      have hr5 := hrw.frm (w' := w2) ((Frm.refl [] w1).alloc _ |>.trans hF2)
      have g1 := lt_of_block h5
      obtain ⟨r1, r2, r3, r4⟩ := old_ne g1
      refine (steps_disk (w2.heap.size + 3) _ #[.func (.func 60) #[] #[.pointer (some ⟨w2.heap.size + 2, 0, none⟩), .pointer (some ⟨w1.heap.size, 0, none⟩), .pointer (some ⟨w2.heap.size, 0, none⟩)], .func (.func 22) #[.pointer (some ⟨w2.heap.size + 1, 0, none⟩)] #[]] 39 (0, 0)
        [(.func (.func 60) #[] #[.pointer (some ⟨w2.heap.size + 2, 0, none⟩), .pointer (some ⟨w1.heap.size, 0, none⟩), .pointer (some ⟨w2.heap.size, 0, none⟩)], fun D => cutD D f.name en), (.func (.func 22) #[.pointer (some ⟨w2.heap.size + 1, 0, none⟩)] #[], logSyncD)]
        (by simp) ?_ DGood b D F _ (HD.out.frm0 (w' := _) (by (repeat (first | (with_reducible exact Frm.refl _ _) | assumption | (with_reducible refine Frm.alloc ?_ _) | ((with_reducible refine Frm.setCell ?_ ?_ _); rotate_left; (first | (focus (left; simp; done)) | (focus (right; simp; done)) | (focus (right; simp; omega)))) | ((with_reducible refine Frm.put ?_ _ ?_); rotate_left; (first | (focus (left; simp; done)) | (focus (right; simp; done)) | (focus (right; simp; omega)))) | (with_reducible refine Frm.drew ?_) | (with_reducible refine Frm.drewN ?_ _))))) HG.out (by simp [go_sem]) (fun h => by have := hlt _ h; omega) ?_).mono ?_
      · intro i x hx
        match i, hx with
        | 0, hx => simp at hx; subst hx; rfl
        | 1, hx => simp at hx; subst hx; rfl
      · have hgr : ∀ g, a = some ⟨g, 0, none⟩ → g ∉ F := fun g hg h => by
          subst hg
          have := (own_lt hrow (g := g) rfl).1
          have := hlt _ h; omega
        intro x hx
        simp only [List.mem_cons, List.not_mem_nil, or_false] at hx
        rcases hx with rfl | rfl
        · refine ⟨fun D h _ => h.cut _ _, _, _, _, rfl, enters_of Tryz.func60 (by kernel_rfl) rfl, ?_⟩
          intro W D' F' hW hD' hn' hg'
          refine Open1_any (w2.heap.size + 2) w1.heap.size w2.heap.size (w2.heap.size + 1) b n f k c (k + 1) en a (segsF D.files) D' F' W (hW.blk (by simp [go_sem]) (fun h => by have := hlt _ h; omega)) (hW.blk (by simp [go_sem]) (fun h => by have := hlt _ h; omega)) (hW.blk (by simp [go_sem, h5, r1, r2, r3, r4]) (fun h => by have := hlt _ h; omega)) (hW.blk (by simp [go_sem]) (fun h => by have := hlt _ h; omega)) rfl hkb ?_ HK.out hD' hg'
          exact (hr5.frm (by (repeat (first | (with_reducible exact Frm.refl _ _) | assumption | (with_reducible refine Frm.alloc ?_ _) | ((with_reducible refine Frm.setCell ?_ ?_ _); rotate_left; (first | (focus (left; simp; done)) | (focus (right; simp; done)) | (focus (right; simp; omega)))) | ((with_reducible refine Frm.put ?_ _ ?_); rotate_left; (first | (focus (left; simp; done)) | (focus (right; simp; done)) | (focus (right; simp; omega)))) | (with_reducible refine Frm.drew ?_) | (with_reducible refine Frm.drewN ?_ _))))).frm' hW hgr
        · refine ⟨fun D h _ => h.logSync, _, _, _, rfl, enters_of Tryz.func22 (by kernel_rfl) rfl, ?_⟩
          intro W D' F' hW hD' hn' hg'
          exact LogSync_any (w2.heap.size + 1) b D' F' W (hW.blk (by simp [go_sem]) (fun h => by have := hlt _ h; omega)) hD' hg'
      · rintro e w4 hq
        rw [show List.map (fun x : Value × (ADisk → Int × ADisk) => x.2) [(.func (.func 60) #[] #[.pointer (some ⟨w2.heap.size + 2, 0, none⟩), .pointer (some ⟨w1.heap.size, 0, none⟩), .pointer (some ⟨w2.heap.size, 0, none⟩)], fun D => cutD D f.name en), (.func (.func 22) #[.pointer (some ⟨w2.heap.size + 1, 0, none⟩)] #[], logSyncD)] = [fun D => cutD D f.name en, logSyncD] from rfl, HA.out] at hq
        obtain ⟨rfl, F2, hd2, hf2, hn2⟩ := hq
        have hl9 := hf2.blk (k := w2.heap.size + 2) (o := .cells #[.pointer (some ⟨w2.heap.size + 1, 0, none⟩)] 41 (0, 0)) (by simp [go_sem]) (fun h => by have := hlt _ h; omega)
        have hl8 := hf2.blk (k := w2.heap.size + 1) (o := .cells #[.pointer (some ⟨b, 0, none⟩)] 111 (0, 0)) (by simp [go_sem]) (fun h => by have := hlt _ h; omega)
        have hz4 := hf2.size
        simp only [World.size_alloc] at hz4 hn2
        have hown : SS w.heap.size w2 v2 recs := own_mono hss2 (by rw [World.size_alloc]; omega)
        have hFa : Frm F w w4 := (Frm.nil (F := F) (by (repeat (first | (with_reducible exact Frm.refl _ _) | assumption | (with_reducible refine Frm.alloc ?_ _) | ((with_reducible refine Frm.setCell ?_ ?_ _); rotate_left; (first | (focus (left; simp; done)) | (focus (right; simp; done)) | (focus (right; simp; omega)))) | ((with_reducible refine Frm.put ?_ _ ?_); rotate_left; (first | (focus (left; simp; done)) | (focus (right; simp; done)) | (focus (right; simp; omega)))) | (with_reducible refine Frm.drew ?_) | (with_reducible refine Frm.drewN ?_ _))))).trans hf2
        have hn4 : ∀ x ∈ F2, x ∈ F ∨ w.heap.size ≤ x := fun x hx => (hn2 x hx).imp id (fun h => by omega)
        have hown4 : SS w.heap.size w4 v2 recs := own_frm (own_frm hown (F := []) (by (repeat (first | (with_reducible exact Frm.refl _ _) | assumption | (with_reducible refine Frm.alloc ?_ _) | ((with_reducible refine Frm.setCell ?_ ?_ _); rotate_left; (first | (focus (left; simp; done)) | (focus (right; simp; done)) | (focus (right; simp; omega)))) | ((with_reducible refine Frm.put ?_ _ ?_); rotate_left; (first | (focus (left; simp; done)) | (focus (right; simp; done)) | (focus (right; simp; omega)))) | (with_reducible refine Frm.drew ?_) | (with_reducible refine Frm.drewN ?_ _)))) (fun _ _ h => by cases h)) hf2 (fun g hg h => by have := (own_lt hown hg).1; have := hlt _ h; omega)
        have hgf : ∀ g, v2.ownBlock = some g → g ∉ F2 := fun g hg h => by
          have h1 := own_lt hown hg
          rcases hn2 g h with h2 | h2
          · have := hlt _ h2; omega
          · omega
        have hlb : w2.heap.size + 1 ∉ F2 := fun h => by
          rcases hn2 _ h with h2 | h2
          · have := hlt _ h2; omega
          · omega
        by_cases hr0 : r = 0
        · subst hr0
          have HR2 := Lib.hid (show openD D = (0, recs, D2) by rw [HR.out, if_pos rfl])
          clear hf2 hz4 hn2 hs1 hs2 hlt r1 r2 r3 r4 g1
          go_wp2
          go_ret3
          rw [HR2.out]
          exact RetOpen.ok hd2 hFa hn4 rfl hl8 (by have := hF12.size; omega) hlb hown4 hgf
        · have hr1 : (r != 0) = true := by simpa using hr0
          have HR2 := Lib.hid (show openD D = (r, [], D2) by rw [HR.out, if_neg hr0])
          have HR3 := Lib.hid hr0
          clear hf2 hz4 hn2 hs1 hs2 hlt r1 r2 r3 r4 g1 hr0
          go_wp2
          go_ret3
          rw [HR2.out]
          exact ⟨F2, hd2, hFa, hn4, .inr ⟨HR3.out, rfl⟩⟩
end Go.Proofs.YtlopfabbjilpnaaGreatDoor
