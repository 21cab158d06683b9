/- Package log: Add. -/
import Derived.Test.YtlopfabbjilpnaaGreatDoorLogH
import Derived.Deep.RegionHeld3
set_option linter.unusedSimpArgs false
set_option linter.unusedVariables false
namespace Go.Proofs.YtlopfabbjilpnaaGreatDoor
open Go.RowKit

theorem SB_frm {F : List Nat} {base : Nat} {w w' : World} {v : Value} {l : Bytes} (h : SB base w v l) (hf : Frm F w w') (hn : ∀ g, v.ownBlock = some g → g ∉ F) : SB base w' v l := own_frm h hf hn
theorem cell_of_blk {w : World} {b i : Nat} {c : Array Value} {T : TypeId} {f : Nat × Nat} {v : Value} (h : w.heap[b]? = some (.cells c T f)) (hv : c[i]? = some v) : w.cell? ⟨b, i, none⟩ = some v := by rw [cell?_heap, h]; exact hv

set_option maxRecDepth 100000 in
set_option maxHeartbeats 2000000 in
/-- Add's second step where the last segment is full: the next one begins. -/
theorem Add1_any (p8 p2 p5 lb b n base : Nat) (c1 c2 c3 v : Value) (r : Bytes) (D : ADisk) (F : List Nat) (w : World)
    (h8 : w.heap[p8]? = some (.cells #[.int .i64 n, c1, c2, c3] 115 (0, 0))) (h2 : w.heap[p2]? = some (.cells #[.pointer (some ⟨lb, 0, none⟩)] 41 (0, 0))) (hl : LogAt w lb b)
    (h5 : w.heap[p5]? = some (.cells #[v] 49 (0, 0))) (hv : SB base w v r) (hr : r.length ≤ 4294967296) (hn : n + 1 < 100)
    (n8 : p8 ∉ F) (n2 : p2 ∉ F) (nl : lb ∉ F) (n5 : p5 ∉ F) (nv : ∀ g, v.ownBlock = some g → g ∉ F) (hD : DiskAt w b D F) (hg : DGood D) :
    Calls Tryz.prog 63 #[.pointer (some ⟨p8, 0, none⟩), .pointer (some ⟨p2, 0, none⟩), .pointer (some ⟨p5, 0, none⟩)] w (DRet w b F (appendD D (segName (n + 1)) r)) := by
  have happ := fun W hW => Append_any b D F (segName (n + 1)) r W hW hg.ok (by have := segName_len (n + 1) hn; omega) (by omega) (by have := hg.num; omega)
  unfold LogAt at hl
  have hS : ∀ W, Frm F w W → W.heap[p8]? = some (.cells #[.int .i64 n, c1, c2, c3] 115 (0, 0)) ∧ W.heap[p2]? = some (.cells #[.pointer (some ⟨lb, 0, none⟩)] 41 (0, 0)) ∧ W.heap[lb]? = some (.cells #[.pointer (some ⟨b, 0, none⟩)] 111 (0, 0)) ∧
      W.heap[p5]? = some (.cells #[v] 49 (0, 0)) ∧ (convert 49 9 v).run Tryz.prog W = .ok (sv r) W := fun W hW =>
    ⟨hW.blk h8 n8, hW.blk h2 n2, hW.blk hl nl, hW.blk h5 n5, conv_SB W (SB_frm hv hW nv)⟩
  have hnn : ((n : Int) == 99999999) = false := int_ne (by omega)
  have hw1 : IntKind.i64.wrap ((n : Int) + 1) = (n : Int) + 1 := i64w (by omega) (by omega)
  have hnm := fun W => name_any (n + 1) hn W
  rw [show (((n + 1 : Nat) : Int)) = (n : Int) + 1 by omega] at hnm
  have HD := Lib.hid hD
  have HS := Lib.hid hS
  have HA := Lib.hid happ
  clear hS happ hD hg hv nv n8 n2 nl n5
  go_enter Tryz.func63, Tryz.ntmps63
  go_wp2
  go_region_held3 (fun W => W.heap[p8]? = some (.cells #[.int .i64 n, c1, c2, c3] 115 (0, 0)) ∧ W.heap[p2]? = some (.cells #[.pointer (some ⟨lb, 0, none⟩)] 41 (0, 0)) ∧ W.heap[lb]? = some (.cells #[.pointer (some ⟨b, 0, none⟩)] 111 (0, 0)) ∧ W.heap[p5]? = some (.cells #[v] 49 (0, 0)) ∧ (convert 49 9 v).run Tryz.prog W = .ok (sv r) W)
    (first | (refine HS.out _ (Frm.trans (Frm.nil (Frm.trans (b := _) ?_ hF3)) hf4); (repeat (first | (with_reducible exact Frm.refl _ _) | assumption | (with_reducible refine Frm.alloc ?_ _) | ((with_reducible refine Frm.setCell ?_ ?_ _); rotate_left; (first | (focus (left; simp; done)) | (focus (right; simp; done)) | (focus (right; simp; omega)))) | ((with_reducible refine Frm.put ?_ _ ?_); rotate_left; (first | (focus (left; simp; done)) | (focus (right; simp; done)) | (focus (right; simp; omega)))) | (with_reducible refine Frm.drew ?_) | (with_reducible refine Frm.drewN ?_ _))); done) | (refine HS.out _ (Frm.nil (Frm.trans (b := _) ?_ hF3)); (repeat (first | (with_reducible exact Frm.refl _ _) | assumption | (with_reducible refine Frm.alloc ?_ _) | ((with_reducible refine Frm.setCell ?_ ?_ _); rotate_left; (first | (focus (left; simp; done)) | (focus (right; simp; done)) | (focus (right; simp; omega)))) | ((with_reducible refine Frm.put ?_ _ ?_); rotate_left; (first | (focus (left; simp; done)) | (focus (right; simp; done)) | (focus (right; simp; omega)))) | (with_reducible refine Frm.drew ?_) | (with_reducible refine Frm.drewN ?_ _))); done) | (refine HS.out _ ?_; (repeat (first | (with_reducible exact Frm.refl _ _) | assumption | (with_reducible refine Frm.alloc ?_ _) | ((with_reducible refine Frm.setCell ?_ ?_ _); rotate_left; (first | (focus (left; simp; done)) | (focus (right; simp; done)) | (focus (right; simp; omega)))) | ((with_reducible refine Frm.put ?_ _ ?_); rotate_left; (first | (focus (left; simp; done)) | (focus (right; simp; done)) | (focus (right; simp; omega)))) | (with_reducible refine Frm.drew ?_) | (with_reducible refine Frm.drewN ?_ _))); done))
    (first | (go_at_call 62; refine (hnm _).mono ?_; rintro e w3 ⟨rfl, hF3⟩) | (go_at_call 26; refine (HA.out _ (HD.out.frm0 (Frm.trans (by (repeat (first | (with_reducible exact Frm.refl _ _) | assumption | (with_reducible refine Frm.alloc ?_ _) | ((with_reducible refine Frm.setCell ?_ ?_ _); rotate_left; (first | (focus (left; simp; done)) | (focus (right; simp; done)) | (focus (right; simp; omega)))) | ((with_reducible refine Frm.put ?_ _ ?_); rotate_left; (first | (focus (left; simp; done)) | (focus (right; simp; done)) | (focus (right; simp; omega)))) | (with_reducible refine Frm.drew ?_) | (with_reducible refine Frm.drewN ?_ _)))) hF3))).mono ?_; rintro e w4 ⟨rfl, F2, hd2, hf4, hn2⟩))
  go_wp2
  go_ret
  exact DRet.from (w := w) (Frm.trans (b := w.drew) (by (repeat (first | (with_reducible exact Frm.refl _ _) | assumption | (with_reducible refine Frm.alloc ?_ _) | ((with_reducible refine Frm.setCell ?_ ?_ _); rotate_left; (first | (focus (left; simp; done)) | (focus (right; simp; done)) | (focus (right; simp; omega)))) | ((with_reducible refine Frm.put ?_ _ ?_); rotate_left; (first | (focus (left; simp; done)) | (focus (right; simp; done)) | (focus (right; simp; omega)))) | (with_reducible refine Frm.drew ?_) | (with_reducible refine Frm.drewN ?_ _)))) hF3) ⟨rfl, F2, hd2, hf4, hn2⟩

theorem SB_form {base : Nat} {w : World} {v : Value} {l : Bytes} (h : SB base w v l) : ∃ sp sc, v = .slice sp l.length sc := by
  rcases h.2 with ⟨rfl, h0⟩ | ⟨_, _, _, rfl, _⟩
  · exact ⟨none, 0, by rw [h0]⟩
  · exact ⟨_, _, rfl⟩
theorem SB_nil (base : Nat) (w : World) : SB base w (.slice none 0 0) [] := World.ownsRow_nil w _ _ _
set_option maxRecDepth 100000 in
set_option maxHeartbeats 1000000 in
theorem LogAdd_bad (lb b : Nat) (r : Bytes) (D : ADisk) (F : List Nat) (w : World) (hD : DiskAt w b D F) (hb : r.length = 0 ∨ 65536 < r.length) (hr : r.length ≤ 70368740000000) :
    Calls Tryz.prog 21 #[.pointer (some ⟨lb, 0, none⟩), sv r] w (DRet w b F (addD D r)) := by
  have hput := fun W => Put_long _ r W W.heap.size [] (SB_nil _ W) (by simp) hb hr
  have HR := Lib.hid (show addD D r = (6, D) by unfold addD; rw [if_pos hb])
  have HD := Lib.hid hD
  clear hD hb
  go_enter Tryz.func21, Tryz.ntmps21
  go_wp2_with (go_at_call 47; refine (hput _).mono ?_; rintro e w1 ⟨v, rfl, hv, hF1⟩; obtain ⟨sp, sc, rfl⟩ := SB_form hv)
  go_ret
  rw [HR.out]
  have hF : Frm [] w w1 := Frm.trans (by (repeat (first | (with_reducible exact Frm.refl _ _) | assumption | (with_reducible refine Frm.alloc ?_ _) | ((with_reducible refine Frm.setCell ?_ ?_ _); rotate_left; (first | (focus (left; simp; done)) | (focus (right; simp; done)) | (focus (right; simp; omega)))) | ((with_reducible refine Frm.put ?_ _ ?_); rotate_left; (first | (focus (left; simp; done)) | (focus (right; simp; done)) | (focus (right; simp; omega)))) | (with_reducible refine Frm.drew ?_) | (with_reducible refine Frm.drewN ?_ _)))) hF1
  exact DRet.same HD.out (by (repeat (first | (with_reducible exact Frm.refl _ _) | assumption | (with_reducible refine Frm.alloc ?_ _) | ((with_reducible refine Frm.setCell ?_ ?_ _); rotate_left; (first | (focus (left; simp; done)) | (focus (right; simp; done)) | (focus (right; simp; omega)))) | ((with_reducible refine Frm.put ?_ _ ?_); rotate_left; (first | (focus (left; simp; done)) | (focus (right; simp; done)) | (focus (right; simp; omega)))) | (with_reducible refine Frm.drew ?_) | (with_reducible refine Frm.drewN ?_ _)))) rfl

set_option maxRecDepth 100000 in
set_option maxHeartbeats 2000000 in
theorem LogAdd_none (lb b : Nat) (r : Bytes) (D : ADisk) (F : List Nat) (w : World) (hl : LogAt w lb b) (nl : lb ∉ F) (hD : DiskAt w b D F) (hg : DGood D) (h0 : 0 < r.length) (hr : r.length ≤ 65536) (hs : segsF D.files = []) :
    Calls Tryz.prog 21 #[.pointer (some ⟨lb, 0, none⟩), sv r] w (DRet w b F (addD D r)) := by
  have hput := fun W => Put_ok W.heap.size _ [] r W (SB_nil _ W) (by simp) h0 hr
  simp only [List.nil_append] at hput
  have HR := Lib.hid (show addD D r = appendD D (segName 1) (frameB r) by unfold addD; rw [if_neg (by omega), hs]; rfl)
  have hseg := fun W hW => hg.segments (b := b) (F := F) W hW
  rw [hs] at hseg
  have hlen : (frameB r).length ≤ 4294967296 := by
    have := numB_len r.length (by omega)
    simp [frameB, leB_len]; omega
  have happ := fun W hW => Append_any b D F (segName 1) (frameB r) W hW hg.ok (by have := segName_len 1 (by decide); omega) (by omega) (by have := hg.num; omega)
  have hlt := Lib.hid hD.lt
  have HD := Lib.hid hD
  have HA := Lib.hid happ
  have HL := Lib.hid hl
  unfold LogAt at hl
  clear hD hg happ hs
  go_enter Tryz.func21, Tryz.ntmps21
  go_wp2_with (first | (go_at_call 47; refine (hput _).mono ?_; rintro e w1 ⟨v, rfl, hv, hF1⟩; obtain ⟨sp, sc, rfl⟩ := SB_form hv; have hw1 : Frm [] w w1 := Frm.trans (by (repeat (first | (with_reducible exact Frm.refl _ _) | assumption | (with_reducible refine Frm.alloc ?_ _) | ((with_reducible refine Frm.setCell ?_ ?_ _); rotate_left; (first | (focus (left; simp; done)) | (focus (right; simp; done)) | (focus (right; simp; omega)))) | ((with_reducible refine Frm.put ?_ _ ?_); rotate_left; (first | (focus (left; simp; done)) | (focus (right; simp; done)) | (focus (right; simp; omega)))) | (with_reducible refine Frm.drew ?_) | (with_reducible refine Frm.drewN ?_ _)))) hF1; have hl1 := hw1.blk hl (by simp); have h21 := hF1.blk (k := w.heap.size) (o := .cells #[.pointer (some ⟨lb, 0, none⟩)] 41 (0, 0)) (by simp [go_sem]) (by simp)) | (go_at_call 57; refine (hseg _ (HD.out.frm0 (by (repeat (first | (with_reducible exact Frm.refl _ _) | assumption | (with_reducible refine Frm.alloc ?_ _) | ((with_reducible refine Frm.setCell ?_ ?_ _); rotate_left; (first | (focus (left; simp; done)) | (focus (right; simp; done)) | (focus (right; simp; omega)))) | ((with_reducible refine Frm.put ?_ _ ?_); rotate_left; (first | (focus (left; simp; done)) | (focus (right; simp; done)) | (focus (right; simp; omega)))) | (with_reducible refine Frm.drew ?_) | (with_reducible refine Frm.drewN ?_ _)))))).mono ?_; rintro e w2 ⟨v2, rfl, hrow, hF2⟩; obtain ⟨a, c, rfl, hrw⟩ := SG_row hrow))
  have hw2 : Frm [] w w2 := hw1.trans (Frm.trans (by (repeat (first | (with_reducible exact Frm.refl _ _) | assumption | (with_reducible refine Frm.alloc ?_ _) | ((with_reducible refine Frm.setCell ?_ ?_ _); rotate_left; (first | (focus (left; simp; done)) | (focus (right; simp; done)) | (focus (right; simp; omega)))) | ((with_reducible refine Frm.put ?_ _ ?_); rotate_left; (first | (focus (left; simp; done)) | (focus (right; simp; done)) | (focus (right; simp; omega)))) | (with_reducible refine Frm.drew ?_) | (with_reducible refine Frm.drewN ?_ _)))) hF2)
  have hl2 := hw2.blk hl (by simp)
  have h22 := hF2.blk (k := w.heap.size) (o := .cells #[.pointer (some ⟨lb, 0, none⟩)] 41 (0, 0)) (by simp [go_sem, h21]) (by simp)
  have h25 := hF2.blk (k := w1.heap.size) (o := .cells #[.slice sp (frameB r).length sc] 49 (0, 0)) (by simp [go_sem]) (by simp)
  have hv2 : SB w.heap.size w2 (.slice sp (frameB r).length sc) (frameB r) := own_mono (own_frm (own_frm hv (F := []) ((Frm.refl [] w1).alloc _) (fun _ _ h => by cases h)) hF2 (fun _ _ h => by cases h)) (by rw [World.size_alloc]; omega)
  have hz1 := hF1.size
  rw [World.size_alloc] at hz1
  have hS : ∀ W, Frm F w2 W → W.heap[w.heap.size]? = some (.cells #[.pointer (some ⟨lb, 0, none⟩)] 41 (0, 0)) ∧ W.heap[lb]? = some (.cells #[.pointer (some ⟨b, 0, none⟩)] 111 (0, 0)) ∧ W.heap[w1.heap.size]? = some (.cells #[.slice sp (frameB r).length sc] 49 (0, 0)) ∧ (convert 49 9 (.slice sp (frameB r).length sc)).run Tryz.prog W = .ok (sv (frameB r)) W := fun W hW =>
    ⟨hW.blk h22 (fun h => by have := hlt.out _ h; omega), hW.blk hl2 nl, hW.blk h25 (fun h => by have := hlt.out _ h; omega), conv_SB W (own_frm hv2 hW (fun g hg h => by have := (own_lt hv2 hg).1; have := hlt.out _ h; omega))⟩
  have HS := Lib.hid hS
  have HW := Lib.hid hw2
  clear hS hv2 hz1 hlen
  go_region_held3 (fun W => W.heap[w.heap.size]? = some (.cells #[.pointer (some ⟨lb, 0, none⟩)] 41 (0, 0)) ∧ W.heap[lb]? = some (.cells #[.pointer (some ⟨b, 0, none⟩)] 111 (0, 0)) ∧ W.heap[w1.heap.size]? = some (.cells #[.slice sp (frameB r).length sc] 49 (0, 0)) ∧ (convert 49 9 (.slice sp (frameB r).length sc)).run Tryz.prog W = .ok (sv (frameB r)) W)
    (first | (refine HS.out _ (Frm.trans (Frm.nil (Frm.trans (b := _) ?_ hF3)) hf4); (repeat (first | (with_reducible exact Frm.refl _ _) | assumption | (with_reducible refine Frm.alloc ?_ _) | ((with_reducible refine Frm.setCell ?_ ?_ _); rotate_left; (first | (focus (left; simp; done)) | (focus (right; simp; done)) | (focus (right; simp; omega)))) | ((with_reducible refine Frm.put ?_ _ ?_); rotate_left; (first | (focus (left; simp; done)) | (focus (right; simp; done)) | (focus (right; simp; omega)))) | (with_reducible refine Frm.drew ?_) | (with_reducible refine Frm.drewN ?_ _))); done) | (refine HS.out _ (Frm.nil (Frm.trans (b := _) ?_ hF3)); (repeat (first | (with_reducible exact Frm.refl _ _) | assumption | (with_reducible refine Frm.alloc ?_ _) | ((with_reducible refine Frm.setCell ?_ ?_ _); rotate_left; (first | (focus (left; simp; done)) | (focus (right; simp; done)) | (focus (right; simp; omega)))) | ((with_reducible refine Frm.put ?_ _ ?_); rotate_left; (first | (focus (left; simp; done)) | (focus (right; simp; done)) | (focus (right; simp; omega)))) | (with_reducible refine Frm.drew ?_) | (with_reducible refine Frm.drewN ?_ _))); done) | (refine HS.out _ ?_; (repeat (first | (with_reducible exact Frm.refl _ _) | assumption | (with_reducible refine Frm.alloc ?_ _) | ((with_reducible refine Frm.setCell ?_ ?_ _); rotate_left; (first | (focus (left; simp; done)) | (focus (right; simp; done)) | (focus (right; simp; omega)))) | ((with_reducible refine Frm.put ?_ _ ?_); rotate_left; (first | (focus (left; simp; done)) | (focus (right; simp; done)) | (focus (right; simp; omega)))) | (with_reducible refine Frm.drew ?_) | (with_reducible refine Frm.drewN ?_ _))); done))
    (first | (go_at_call 62; refine (name_any 1 (by decide) _).mono ?_; rintro e w3 ⟨rfl, hF3⟩) | (go_at_call 26; refine (HA.out _ (HD.out.frm0 (HW.out.trans (Frm.trans (by (repeat (first | (with_reducible exact Frm.refl _ _) | assumption | (with_reducible refine Frm.alloc ?_ _) | ((with_reducible refine Frm.setCell ?_ ?_ _); rotate_left; (first | (focus (left; simp; done)) | (focus (right; simp; done)) | (focus (right; simp; omega)))) | ((with_reducible refine Frm.put ?_ _ ?_); rotate_left; (first | (focus (left; simp; done)) | (focus (right; simp; done)) | (focus (right; simp; omega)))) | (with_reducible refine Frm.drew ?_) | (with_reducible refine Frm.drewN ?_ _)))) hF3)))).mono ?_; rintro e w4 ⟨rfl, F2, hd2, hf4, hn2⟩))
  go_wp2
  go_ret
  rw [HR.out]
  exact DRet.from (w := w) (HW.out.trans (Frm.trans (b := w2.drew) (by (repeat (first | (with_reducible exact Frm.refl _ _) | assumption | (with_reducible refine Frm.alloc ?_ _) | ((with_reducible refine Frm.setCell ?_ ?_ _); rotate_left; (first | (focus (left; simp; done)) | (focus (right; simp; done)) | (focus (right; simp; omega)))) | ((with_reducible refine Frm.put ?_ _ ?_); rotate_left; (first | (focus (left; simp; done)) | (focus (right; simp; done)) | (focus (right; simp; omega)))) | (with_reducible refine Frm.drew ?_) | (with_reducible refine Frm.drewN ?_ _)))) hF3)) ⟨rfl, F2, hd2, hf4, hn2⟩

theorem segs_last {D : ADisk} {n : Nat} {f : AFile} (hs : (segsF D.files).getLast? = some (n, f)) : ∃ k, (segsF D.files).length = k + 1 ∧ (segsF D.files)[k]? = some (n, f) := by
  obtain ⟨k, hk⟩ : ∃ k, (segsF D.files).length = k + 1 := by
    cases h : segsF D.files with
    | nil => rw [h] at hs; cases hs
    | cons a l => exact ⟨l.length, rfl⟩
  exact ⟨k, hk, by rw [List.getLast?_eq_getElem?, hk] at hs; exact hs⟩
theorem frameB_le (r : Bytes) (h : r.length ≤ 65536) : (frameB r).length ≤ 70000 := by
  have := numB_len r.length (by omega)
  simp [frameB, leB_len]; omega

set_option maxRecDepth 100000 in
set_option maxHeartbeats 2000000 in
theorem LogAdd_last (lb b : Nat) (r : Bytes) (D : ADisk) (F : List Nat) (w : World) (hl : LogAt w lb b) (nl : lb ∉ F) (hD : DiskAt w b D F) (hg : DGood D) (h0 : 0 < r.length) (hr : r.length ≤ 65536) (n : Nat) (f : AFile) (hs : (segsF D.files).getLast? = some (n, f)) (hfl : f.bytes.length < 1024) :
    Calls Tryz.prog 21 #[.pointer (some ⟨lb, 0, none⟩), sv r] w (DRet w b F (addD D r)) := by
  have hput := fun W => Put_ok W.heap.size _ [] r W (SB_nil _ W) (by simp) h0 hr
  simp only [List.nil_append] at hput
  have HR := Lib.hid (show addD D r = appendD D f.name (frameB r) by unfold addD; rw [if_neg (by omega), hs]; exact if_pos hfl)
  have hseg := fun W hW => hg.segments (b := b) (F := F) W hW
  obtain ⟨k, hk, hlast⟩ := segs_last hs
  have hkb : k ≤ 1000 := by have := hg.segs.num; omega
  have hlen := frameB_le r hr
  have hfm : f ∈ D.files := (segsF_mem (List.mem_iff_getElem?.2 ⟨k, hlast⟩)).1
  have happ := fun W hW => Append_any b D F f.name (frameB r) W hW hg.ok (by have := hg.names f hfm; omega) (by omega) (by have := hg.num; omega)
  have hwk : IntKind.i64.wrap (k : Int) = k := i64w (by omega) (by omega)
  have hk0 : (0 : Int) ≤ (k : Int) := by omega
  have hk1 : (k : Int) < (k : Int) + 1 := by omega
  have hk2 : k < k + 1 := by omega
  have hkz : ((k : Int) + 1 == 0) = false := int_ne (by omega)
  have hlt := Lib.hid hD.lt
  have HD := Lib.hid hD
  have HA := Lib.hid happ
  have HL := Lib.hid hl
  have HK := Lib.hid hlast
  unfold LogAt at hl
  clear hD hg happ hs hlast hfm
  go_enter Tryz.func21, Tryz.ntmps21
  go_wp2_with (first | (go_at_call 47; refine (hput _).mono ?_; rintro e w1 ⟨v, rfl, hv, hF1⟩; obtain ⟨sp, sc, rfl⟩ := SB_form hv; have hw1 : Frm [] w w1 := Frm.trans (by (repeat (first | (with_reducible exact Frm.refl _ _) | assumption | (with_reducible refine Frm.alloc ?_ _) | ((with_reducible refine Frm.setCell ?_ ?_ _); rotate_left; (first | (focus (left; simp; done)) | (focus (right; simp; done)) | (focus (right; simp; omega)))) | ((with_reducible refine Frm.put ?_ _ ?_); rotate_left; (first | (focus (left; simp; done)) | (focus (right; simp; done)) | (focus (right; simp; omega)))) | (with_reducible refine Frm.drew ?_) | (with_reducible refine Frm.drewN ?_ _)))) hF1; have hl1 := hw1.blk hl (by simp); have h21 := hF1.blk (k := w.heap.size) (o := .cells #[.pointer (some ⟨lb, 0, none⟩)] 41 (0, 0)) (by simp [go_sem]) (by simp)) | (go_at_call 57; refine (hseg _ (HD.out.frm0 (by (repeat (first | (with_reducible exact Frm.refl _ _) | assumption | (with_reducible refine Frm.alloc ?_ _) | ((with_reducible refine Frm.setCell ?_ ?_ _); rotate_left; (first | (focus (left; simp; done)) | (focus (right; simp; done)) | (focus (right; simp; omega)))) | ((with_reducible refine Frm.put ?_ _ ?_); rotate_left; (first | (focus (left; simp; done)) | (focus (right; simp; done)) | (focus (right; simp; omega)))) | (with_reducible refine Frm.drew ?_) | (with_reducible refine Frm.drewN ?_ _)))))).mono ?_; rintro e w2 ⟨v2, rfl, hrow, hF2⟩; obtain ⟨a, c, rfl, hrw⟩ := SG_row hrow; obtain ⟨g, cur, rfl, hg2, e0, e1, e2, e3⟩ := hrw k (n, f) HK.out; simp only [hk] at *))
  have hw2 : Frm [] w w2 := hw1.trans (Frm.trans (by (repeat (first | (with_reducible exact Frm.refl _ _) | assumption | (with_reducible refine Frm.alloc ?_ _) | ((with_reducible refine Frm.setCell ?_ ?_ _); rotate_left; (first | (focus (left; simp; done)) | (focus (right; simp; done)) | (focus (right; simp; omega)))) | ((with_reducible refine Frm.put ?_ _ ?_); rotate_left; (first | (focus (left; simp; done)) | (focus (right; simp; done)) | (focus (right; simp; omega)))) | (with_reducible refine Frm.drew ?_) | (with_reducible refine Frm.drewN ?_ _)))) hF2)
  have hl2 := hw2.blk hl (by simp)
  have h22 := hF2.blk (k := w.heap.size) (o := .cells #[.pointer (some ⟨lb, 0, none⟩)] 41 (0, 0)) (by simp [go_sem, h21]) (by simp)
  have h25 := hF2.blk (k := w1.heap.size) (o := .cells #[.slice sp (frameB r).length sc] 49 (0, 0)) (by simp [go_sem]) (by simp)
  have hv2 : SB w.heap.size w2 (.slice sp (frameB r).length sc) (frameB r) := own_mono (own_frm (own_frm hv (F := []) ((Frm.refl [] w1).alloc _) (fun _ _ h => by cases h)) hF2 (fun _ _ h => by cases h)) (by rw [World.size_alloc]; omega)
  have hz1 := hF1.size
  rw [World.size_alloc] at hz1
  have hz2 := hw2.size
  refine wp_named fun w3 hw3 => ?_
  have hF3 : Frm [] w2 w3 := by rw [hw3]; (repeat (first | (with_reducible exact Frm.refl _ _) | assumption | (with_reducible refine Frm.alloc ?_ _) | ((with_reducible refine Frm.setCell ?_ ?_ _); rotate_left; (first | (focus (left; simp; done)) | (focus (right; simp; done)) | (focus (right; simp; omega)))) | ((with_reducible refine Frm.put ?_ _ ?_); rotate_left; (first | (focus (left; simp; done)) | (focus (right; simp; done)) | (focus (right; simp; omega)))) | (with_reducible refine Frm.drew ?_) | (with_reducible refine Frm.drewN ?_ _)))
  have h28 : w3.heap[w2.heap.size]? = some (.cells #[.int .i64 n, sv f.name, sv f.bytes, .int .i64 f.synced] 115 (0, 0)) := by rw [hw3]; simp [go_sem]
  have hl3 := hF3.blk hl2 (by simp)
  have h32 := hF3.blk h22 (by simp)
  have h35 := hF3.blk h25 (by simp)
  have hv3 : SB w.heap.size w3 (.slice sp (frameB r).length sc) (frameB r) := own_frm hv2 hF3 (fun _ _ h => by cases h)
  have hw3' : Frm [] w w3 := hw2.trans hF3
  have hS : ∀ W, Frm F w3 W → W.heap[w.heap.size]? = some (.cells #[.pointer (some ⟨lb, 0, none⟩)] 41 (0, 0)) ∧ W.heap[lb]? = some (.cells #[.pointer (some ⟨b, 0, none⟩)] 111 (0, 0)) ∧ W.heap[w1.heap.size]? = some (.cells #[.slice sp (frameB r).length sc] 49 (0, 0)) ∧
      W.heap[w2.heap.size]? = some (.cells #[.int .i64 n, sv f.name, sv f.bytes, .int .i64 f.synced] 115 (0, 0)) ∧ (convert 49 9 (.slice sp (frameB r).length sc)).run Tryz.prog W = .ok (sv (frameB r)) W := fun W hW =>
    ⟨hW.blk h32 (fun h => by have := hlt.out _ h; omega), hW.blk hl3 nl, hW.blk h35 (fun h => by have := hlt.out _ h; omega), hW.blk h28 (fun h => by have := hlt.out _ h; omega), conv_SB W (own_frm hv3 hW (fun g hg h => by have := (own_lt hv3 hg).1; have := hlt.out _ h; omega))⟩
  have HS := Lib.hid hS
  have HW := Lib.hid hw3'
  clear hS hv2 hz1 hlen hw3 hz2 hv3 hg2 e0 e1 e2 e3 hl2 h22 h25
  go_region_held3 (fun W => W.heap[w.heap.size]? = some (.cells #[.pointer (some ⟨lb, 0, none⟩)] 41 (0, 0)) ∧ W.heap[lb]? = some (.cells #[.pointer (some ⟨b, 0, none⟩)] 111 (0, 0)) ∧ W.heap[w1.heap.size]? = some (.cells #[.slice sp (frameB r).length sc] 49 (0, 0)) ∧
      W.heap[w2.heap.size]? = some (.cells #[.int .i64 n, sv f.name, sv f.bytes, .int .i64 f.synced] 115 (0, 0)) ∧ (convert 49 9 (.slice sp (frameB r).length sc)).run Tryz.prog W = .ok (sv (frameB r)) W)
    (first | (refine HS.out _ (Frm.trans (b := _) ?_ hf4); (repeat (first | (with_reducible exact Frm.refl _ _) | assumption | (with_reducible refine Frm.alloc ?_ _) | ((with_reducible refine Frm.setCell ?_ ?_ _); rotate_left; (first | (focus (left; simp; done)) | (focus (right; simp; done)) | (focus (right; simp; omega)))) | ((with_reducible refine Frm.put ?_ _ ?_); rotate_left; (first | (focus (left; simp; done)) | (focus (right; simp; done)) | (focus (right; simp; omega)))) | (with_reducible refine Frm.drew ?_) | (with_reducible refine Frm.drewN ?_ _))); done) | (refine HS.out _ ?_; (repeat (first | (with_reducible exact Frm.refl _ _) | assumption | (with_reducible refine Frm.alloc ?_ _) | ((with_reducible refine Frm.setCell ?_ ?_ _); rotate_left; (first | (focus (left; simp; done)) | (focus (right; simp; done)) | (focus (right; simp; omega)))) | ((with_reducible refine Frm.put ?_ _ ?_); rotate_left; (first | (focus (left; simp; done)) | (focus (right; simp; done)) | (focus (right; simp; omega)))) | (with_reducible refine Frm.drew ?_) | (with_reducible refine Frm.drewN ?_ _))); done))
    ((go_at_call 26; refine (HA.out _ (HD.out.frm0 (HW.out.trans (by (repeat (first | (with_reducible exact Frm.refl _ _) | assumption | (with_reducible refine Frm.alloc ?_ _) | ((with_reducible refine Frm.setCell ?_ ?_ _); rotate_left; (first | (focus (left; simp; done)) | (focus (right; simp; done)) | (focus (right; simp; omega)))) | ((with_reducible refine Frm.put ?_ _ ?_); rotate_left; (first | (focus (left; simp; done)) | (focus (right; simp; done)) | (focus (right; simp; omega)))) | (with_reducible refine Frm.drew ?_) | (with_reducible refine Frm.drewN ?_ _))))))).mono ?_; rintro e w4 ⟨rfl, F2, hd2, hf4, hn2⟩))
  go_wp2
  go_ret
  rw [HR.out]
  exact DRet.from (w := w) (HW.out.trans (b := w3) (c := w3.drew) (by (repeat (first | (with_reducible exact Frm.refl _ _) | assumption | (with_reducible refine Frm.alloc ?_ _) | ((with_reducible refine Frm.setCell ?_ ?_ _); rotate_left; (first | (focus (left; simp; done)) | (focus (right; simp; done)) | (focus (right; simp; omega)))) | ((with_reducible refine Frm.put ?_ _ ?_); rotate_left; (first | (focus (left; simp; done)) | (focus (right; simp; done)) | (focus (right; simp; omega)))) | (with_reducible refine Frm.drew ?_) | (with_reducible refine Frm.drewN ?_ _))))) ⟨rfl, F2, hd2, hf4, hn2⟩
set_option maxRecDepth 100000 in
set_option maxHeartbeats 2000000 in
theorem LogAdd_full (lb b : Nat) (r : Bytes) (D : ADisk) (F : List Nat) (w : World) (hl : LogAt w lb b) (nl : lb ∉ F) (hD : DiskAt w b D F) (hg : DGood D) (h0 : 0 < r.length) (hr : r.length ≤ 65536) (n : Nat) (f : AFile) (hs : (segsF D.files).getLast? = some (n, f)) (hfl : ¬ f.bytes.length < 1024) (hn : n + 1 < 100) :
    Calls Tryz.prog 21 #[.pointer (some ⟨lb, 0, none⟩), sv r] w (DRet w b F (addD D r)) := by
  have hput := fun W => Put_ok W.heap.size _ [] r W (SB_nil _ W) (by simp) h0 hr
  simp only [List.nil_append] at hput
  have HR := Lib.hid (show addD D r = runActs [logSyncD, fun D => appendD D (segName (n + 1)) (frameB r)] D by
    unfold addD; rw [if_neg (by omega), hs]; simp only; rw [if_neg hfl]; congr 3; funext D; rw [if_neg (by omega)])
  have hseg := fun W hW => hg.segments (b := b) (F := F) W hW
  obtain ⟨k, hk, hlast⟩ := segs_last hs
  have hkb : k ≤ 1000 := by have := hg.segs.num; omega
  have hlen := frameB_le r hr
  have hfm : f ∈ D.files := (segsF_mem (List.mem_iff_getElem?.2 ⟨k, hlast⟩)).1
  have hflb := hg.ok.file hfm
  have hwk : IntKind.i64.wrap (k : Int) = k := i64w (by omega) (by omega)
  have hk0 : (0 : Int) ≤ (k : Int) := by omega
  have hk1 : (k : Int) < (k : Int) + 1 := by omega
  have hk2 : k < k + 1 := by omega
  have hkz : ((k : Int) + 1 == 0) = false := int_ne (by omega)
  have hfz : decide ((f.bytes.length : Int) < 1024) = false := dec_no (by omega)
  have hlt := Lib.hid hD.lt
  have HD := Lib.hid hD
  have HG := Lib.hid hg
  have HL := Lib.hid hl
  have HK := Lib.hid hlast
  unfold LogAt at hl
  clear hD hg hs hlast hfm hfl
  go_enter Tryz.func21, Tryz.ntmps21
  go_wp2_with (first | (go_at_call 47; refine (hput _).mono ?_; rintro e w1 ⟨v, rfl, hv, hF1⟩; obtain ⟨sp, sc, rfl⟩ := SB_form hv; have hw1 : Frm [] w w1 := Frm.trans (by (repeat (first | (with_reducible exact Frm.refl _ _) | assumption | (with_reducible refine Frm.alloc ?_ _) | ((with_reducible refine Frm.setCell ?_ ?_ _); rotate_left; (first | (focus (left; simp; done)) | (focus (right; simp; done)) | (focus (right; simp; omega)))) | ((with_reducible refine Frm.put ?_ _ ?_); rotate_left; (first | (focus (left; simp; done)) | (focus (right; simp; done)) | (focus (right; simp; omega)))) | (with_reducible refine Frm.drew ?_) | (with_reducible refine Frm.drewN ?_ _)))) hF1; have hl1 := hw1.blk hl (by simp); have h21 := hF1.blk (k := w.heap.size) (o := .cells #[.pointer (some ⟨lb, 0, none⟩)] 41 (0, 0)) (by simp [go_sem]) (by simp)) | (go_at_call 57; refine (hseg _ (HD.out.frm0 (by (repeat (first | (with_reducible exact Frm.refl _ _) | assumption | (with_reducible refine Frm.alloc ?_ _) | ((with_reducible refine Frm.setCell ?_ ?_ _); rotate_left; (first | (focus (left; simp; done)) | (focus (right; simp; done)) | (focus (right; simp; omega)))) | ((with_reducible refine Frm.put ?_ _ ?_); rotate_left; (first | (focus (left; simp; done)) | (focus (right; simp; done)) | (focus (right; simp; omega)))) | (with_reducible refine Frm.drew ?_) | (with_reducible refine Frm.drewN ?_ _)))))).mono ?_; rintro e w2 ⟨v2, rfl, hrow, hF2⟩; obtain ⟨a, c, rfl, hrw⟩ := SG_row hrow; obtain ⟨g, cur, rfl, hg2, e0, e1, e2, e3⟩ := hrw k (n, f) HK.out; have h22 := hF2.blk (k := w.heap.size) (o := .cells #[.pointer (some ⟨lb, 0, none⟩)] 41 (0, 0)) (by simp [go_sem, h21]) (by simp); simp only [hk] at *))
  have hw2 : Frm [] w w2 := hw1.trans (Frm.trans (by (repeat (first | (with_reducible exact Frm.refl _ _) | assumption | (with_reducible refine Frm.alloc ?_ _) | ((with_reducible refine Frm.setCell ?_ ?_ _); rotate_left; (first | (focus (left; simp; done)) | (focus (right; simp; done)) | (focus (right; simp; omega)))) | ((with_reducible refine Frm.put ?_ _ ?_); rotate_left; (first | (focus (left; simp; done)) | (focus (right; simp; done)) | (focus (right; simp; omega)))) | (with_reducible refine Frm.drew ?_) | (with_reducible refine Frm.drewN ?_ _)))) hF2)
  have hl2 := hw2.blk hl (by simp)
  have h25 := hF2.blk (k := w1.heap.size) (o := .cells #[.slice sp (frameB r).length sc] 49 (0, 0)) (by simp [go_sem]) (by simp)
  have hv2 : SB w.heap.size w2 (.slice sp (frameB r).length sc) (frameB r) := own_mono (own_frm (own_frm hv (F := []) ((Frm.refl [] w1).alloc _) (fun _ _ h => by cases h)) hF2 (fun _ _ h => by cases h)) (by rw [World.size_alloc]; omega)
  have hz1 := hF1.size
  rw [World.size_alloc] at hz1
  have hz2 := hw2.size
  have g1 := lt_of_block h22
  have g2 := lt_of_block h25
  have g3 := lt_of_block hl2
  refine (steps_disk (w2.heap.size + 1) _ #[.func (.func 22) #[.pointer (some ⟨lb, 0, none⟩)] #[], .func (.func 63) #[] #[.pointer (some ⟨w2.heap.size, 0, none⟩), .pointer (some ⟨w.heap.size, 0, none⟩), .pointer (some ⟨w1.heap.size, 0, none⟩)]] 39 (0, 0)
    [(.func (.func 22) #[.pointer (some ⟨lb, 0, none⟩)] #[], logSyncD), (.func (.func 63) #[] #[.pointer (some ⟨w2.heap.size, 0, none⟩), .pointer (some ⟨w.heap.size, 0, none⟩), .pointer (some ⟨w1.heap.size, 0, none⟩)], fun D => appendD D (segName (n + 1)) (frameB r))]
    (by simp) ?_ DGood b D F _ (HD.out.frm0 (w' := _) (by (repeat (first | (with_reducible exact Frm.refl _ _) | assumption | (with_reducible refine Frm.alloc ?_ _) | ((with_reducible refine Frm.setCell ?_ ?_ _); rotate_left; (first | (focus (left; simp; done)) | (focus (right; simp; done)) | (focus (right; simp; omega)))) | ((with_reducible refine Frm.put ?_ _ ?_); rotate_left; (first | (focus (left; simp; done)) | (focus (right; simp; done)) | (focus (right; simp; omega)))) | (with_reducible refine Frm.drew ?_) | (with_reducible refine Frm.drewN ?_ _))))) HG.out (by simp [go_sem]) (fun h => by have := hlt.out _ h; omega) ?_).mono ?_
  · intro i x hx
    match i, hx with
    | 0, hx => simp at hx; subst hx; rfl
    | 1, hx => simp at hx; subst hx; rfl
  · intro x hx
    simp only [List.mem_cons, List.not_mem_nil, or_false] at hx
    rcases hx with rfl | rfl
    · refine ⟨fun D h _ => h.logSync, _, _, _, rfl, enters_of Tryz.func22 (by kernel_rfl) rfl, ?_⟩
      intro W D' F' hW hD' hn' hg'
      exact LogSync_any lb b D' F' W (hW.blk (heap_alloc _ (heap_alloc _ hl2)) nl) hD' hg'
    · refine ⟨fun D h _ => h.append _ _ (fun _ => segName_parse (n + 1) hn (by omega)), _, _, _, rfl, enters_of Tryz.func63 (by kernel_rfl) rfl, ?_⟩
      intro W D' F' hW hD' hn' hg'
      have key : ∀ x, x ∉ F → x < w2.heap.size + 2 → x ∉ F' := fun x h1 h2 h3 => by
        rcases hn' x h3 with h | h
        · exact h1 h
        · simp at h; omega
      refine Add1_any w2.heap.size w.heap.size w1.heap.size lb b n w.heap.size (sv f.name) (sv f.bytes) (.int .i64 f.synced) _ (frameB r) D' F' W (hW.blk (heap_alloc _ (heap_alloc_new _ _)) (fun h => by have := hlt.out _ h; omega)) (hW.blk (heap_alloc _ (heap_alloc _ h22)) (fun h => by have := hlt.out _ h; omega)) (hW.blk (heap_alloc _ (heap_alloc _ hl2)) nl) (hW.blk (heap_alloc _ (heap_alloc _ h25)) (fun h => by have := hlt.out _ h; omega))
        (own_frm (own_frm hv2 (F := []) (((Frm.refl [] w2).alloc _).alloc _) (fun _ _ h => by cases h)) hW (fun g hg h => by have := (own_lt hv2 hg).1; have := hlt.out _ h; omega)) (by omega) hn (key _ (fun h => by have := hlt.out _ h; omega) (by omega)) (key _ (fun h => by have := hlt.out _ h; omega) (by omega)) (key _ nl (by omega)) (key _ (fun h => by have := hlt.out _ h; omega) (by omega)) (fun g hg => key g (fun h => by have := (own_lt hv2 hg).1; have := hlt.out _ h; omega) (by have := (own_lt hv2 hg).2; omega)) hD' hg'
  · rintro e w4 hq
    rw [show List.map (fun x : Value × (ADisk → Int × ADisk) => x.2) [(.func (.func 22) #[.pointer (some ⟨lb, 0, none⟩)] #[], logSyncD), (.func (.func 63) #[] #[.pointer (some ⟨w2.heap.size, 0, none⟩), .pointer (some ⟨w.heap.size, 0, none⟩), .pointer (some ⟨w1.heap.size, 0, none⟩)], fun D => appendD D (segName (n + 1)) (frameB r))] = [logSyncD, fun D => appendD D (segName (n + 1)) (frameB r)] from rfl, ← HR.out] at hq
    have hq2 := DRet.from (w := w) (by (repeat (first | (with_reducible exact Frm.refl _ _) | assumption | (with_reducible refine Frm.alloc ?_ _) | ((with_reducible refine Frm.setCell ?_ ?_ _); rotate_left; (first | (focus (left; simp; done)) | (focus (right; simp; done)) | (focus (right; simp; omega)))) | ((with_reducible refine Frm.put ?_ _ ?_); rotate_left; (first | (focus (left; simp; done)) | (focus (right; simp; done)) | (focus (right; simp; omega)))) | (with_reducible refine Frm.drew ?_) | (with_reducible refine Frm.drewN ?_ _)))) hq
    obtain ⟨rfl, hq3⟩ := hq2
    clear hq
    go_wp2
    go_ret
    exact ⟨rfl, hq3⟩

theorem LogAdd_any (lb b : Nat) (r : Bytes) (D : ADisk) (F : List Nat) (w : World) (hl : LogAt w lb b) (nl : lb ∉ F) (hD : DiskAt w b D F) (hg : DGood D) (hr : r.length ≤ 70368740000000) (hn : nextSeg D < 100) :
    Calls Tryz.prog 21 #[.pointer (some ⟨lb, 0, none⟩), sv r] w (DRet w b F (addD D r)) := by
  by_cases hb : r.length = 0 ∨ 65536 < r.length
  · exact LogAdd_bad lb b r D F w hD hb hr
  · cases hs : (segsF D.files).getLast? with
    | none => exact LogAdd_none lb b r D F w hl nl hD hg (by omega) (by omega) (List.getLast?_eq_none_iff.1 hs)
    | some x =>
      obtain ⟨n, f⟩ := x
      have hn' : n + 1 < 100 := by unfold nextSeg at hn; rw [hs] at hn; exact hn
      by_cases hfl : f.bytes.length < 1024
      · exact LogAdd_last lb b r D F w hl nl hD hg (by omega) (by omega) n f hs hfl
      · exact LogAdd_full lb b r D F w hl nl hD hg (by omega) (by omega) n f hs hfl hn'
end Go.Proofs.YtlopfabbjilpnaaGreatDoor
