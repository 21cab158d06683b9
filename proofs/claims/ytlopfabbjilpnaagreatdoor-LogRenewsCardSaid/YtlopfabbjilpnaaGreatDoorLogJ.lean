/- Package log: Renew. -/
import Derived.Test.YtlopfabbjilpnaaGreatDoorLogI
set_option linter.unusedSimpArgs false
set_option linter.unusedVariables false
namespace Go.Proofs.YtlopfabbjilpnaaGreatDoor
open Go.RowKit

/-- A slice of texts that can be read. -/
def StrRow (w : World) (a : Option Addr) (l : List Bytes) : Prop := ∀ (i : Nat) (x : Bytes), l[i]? = some x → ∃ g o cur T fz, a = some ⟨g, o, none⟩ ∧ w.heap[g]? = some (.cells cur T fz) ∧ cur[o + i]? = some (sv x)
theorem StrRow.frm {w w' : World} {a : Option Addr} {l : List Bytes} (h : StrRow w a l) (hf : Frm [] w w') : StrRow w' a l := fun i x hx => by
  obtain ⟨g, o, cur, T, fz, h1, h2, h3⟩ := h i x hx
  exact ⟨g, o, cur, T, fz, h1, hf.blk h2 (by simp), h3⟩

set_option maxRecDepth 100000 in
set_option maxHeartbeats 2000000 in
/-- Renew's second step: the new segment. -/
theorem Renew1_any (p10 p2 p5 lb b n base : Nat) (v : Value) (r : Bytes) (D : ADisk) (F : List Nat) (w : World)
    (h10 : w.heap[p10]? = some (.cells #[.int .i64 n] 3 (0, 0))) (h2 : w.heap[p2]? = some (.cells #[.pointer (some ⟨lb, 0, none⟩)] 41 (0, 0))) (hl : LogAt w lb b)
    (h5 : w.heap[p5]? = some (.cells #[v] 49 (0, 0))) (hv : SB base w v r) (hr : r.length ≤ 4294967296) (hn : n < 100)
    (n10 : p10 ∉ F) (n2 : p2 ∉ F) (nl : lb ∉ F) (n5 : p5 ∉ F) (nv : ∀ g, v.ownBlock = some g → g ∉ F) (hD : DiskAt w b D F) (hg : DGood D) :
    Calls Tryz.prog 64 #[.pointer (some ⟨p10, 0, none⟩), .pointer (some ⟨p2, 0, none⟩), .pointer (some ⟨p5, 0, none⟩)] w (DRet w b F (appendD D (segName n) r)) := by
  have happ := fun W hW => Append_any b D F (segName n) r W hW hg.ok (by have := segName_len n hn; omega) (by omega) (by have := hg.num; omega)
  unfold LogAt at hl
  have hS : ∀ W, Frm F w W → W.heap[p10]? = some (.cells #[.int .i64 n] 3 (0, 0)) ∧ W.heap[p2]? = some (.cells #[.pointer (some ⟨lb, 0, none⟩)] 41 (0, 0)) ∧ W.heap[lb]? = some (.cells #[.pointer (some ⟨b, 0, none⟩)] 111 (0, 0)) ∧
      W.heap[p5]? = some (.cells #[v] 49 (0, 0)) ∧ (convert 49 9 v).run Tryz.prog W = .ok (sv r) W := fun W hW =>
    ⟨hW.blk h10 n10, hW.blk h2 n2, hW.blk hl nl, hW.blk h5 n5, conv_SB W (SB_frm hv hW nv)⟩
  have hnn : decide ((99999999 : Int) < (n : Int)) = false := dec_no (by omega)
  have hnm := fun W => name_any n hn W
  have HD := Lib.hid hD
  have HS := Lib.hid hS
  have HA := Lib.hid happ
  clear hS happ hD hg hv nv n10 n2 nl n5
  go_enter Tryz.func64, Tryz.ntmps64
  go_wp2
  go_region_held3 (fun W => W.heap[p10]? = some (.cells #[.int .i64 n] 3 (0, 0)) ∧ W.heap[p2]? = some (.cells #[.pointer (some ⟨lb, 0, none⟩)] 41 (0, 0)) ∧ W.heap[lb]? = some (.cells #[.pointer (some ⟨b, 0, none⟩)] 111 (0, 0)) ∧ W.heap[p5]? = some (.cells #[v] 49 (0, 0)) ∧ (convert 49 9 v).run Tryz.prog W = .ok (sv r) W)
    (first | (refine HS.out _ (Frm.trans (Frm.nil (Frm.trans (b := _) ?_ hF3)) hf4); (repeat (first | (with_reducible exact Frm.refl _ _) | assumption | (with_reducible refine Frm.alloc ?_ _) | ((with_reducible refine Frm.setCell ?_ ?_ _); rotate_left; (first | (focus (left; simp; done)) | (focus (right; simp; done)) | (focus (right; simp; omega)))) | ((with_reducible refine Frm.put ?_ _ ?_); rotate_left; (first | (focus (left; simp; done)) | (focus (right; simp; done)) | (focus (right; simp; omega)))) | (with_reducible refine Frm.drew ?_) | (with_reducible refine Frm.drewN ?_ _))); done) | (refine HS.out _ (Frm.nil (Frm.trans (b := _) ?_ hF3)); (repeat (first | (with_reducible exact Frm.refl _ _) | assumption | (with_reducible refine Frm.alloc ?_ _) | ((with_reducible refine Frm.setCell ?_ ?_ _); rotate_left; (first | (focus (left; simp; done)) | (focus (right; simp; done)) | (focus (right; simp; omega)))) | ((with_reducible refine Frm.put ?_ _ ?_); rotate_left; (first | (focus (left; simp; done)) | (focus (right; simp; done)) | (focus (right; simp; omega)))) | (with_reducible refine Frm.drew ?_) | (with_reducible refine Frm.drewN ?_ _))); done) | (refine HS.out _ ?_; (repeat (first | (with_reducible exact Frm.refl _ _) | assumption | (with_reducible refine Frm.alloc ?_ _) | ((with_reducible refine Frm.setCell ?_ ?_ _); rotate_left; (first | (focus (left; simp; done)) | (focus (right; simp; done)) | (focus (right; simp; omega)))) | ((with_reducible refine Frm.put ?_ _ ?_); rotate_left; (first | (focus (left; simp; done)) | (focus (right; simp; done)) | (focus (right; simp; omega)))) | (with_reducible refine Frm.drew ?_) | (with_reducible refine Frm.drewN ?_ _))); done))
    (first | (go_at_call 62; refine (hnm _).mono ?_; rintro e w3 ⟨rfl, hF3⟩) | (go_at_call 26; refine (HA.out _ (HD.out.frm0 (Frm.trans (by (repeat (first | (with_reducible exact Frm.refl _ _) | assumption | (with_reducible refine Frm.alloc ?_ _) | ((with_reducible refine Frm.setCell ?_ ?_ _); rotate_left; (first | (focus (left; simp; done)) | (focus (right; simp; done)) | (focus (right; simp; omega)))) | ((with_reducible refine Frm.put ?_ _ ?_); rotate_left; (first | (focus (left; simp; done)) | (focus (right; simp; done)) | (focus (right; simp; omega)))) | (with_reducible refine Frm.drew ?_) | (with_reducible refine Frm.drewN ?_ _)))) hF3))).mono ?_; rintro e w4 ⟨rfl, F2, hd2, hf4, hn2⟩))
  go_wp2
  go_ret
  exact DRet.from (w := w) (Frm.trans (b := w.drew) (by (repeat (first | (with_reducible exact Frm.refl _ _) | assumption | (with_reducible refine Frm.alloc ?_ _) | ((with_reducible refine Frm.setCell ?_ ?_ _); rotate_left; (first | (focus (left; simp; done)) | (focus (right; simp; done)) | (focus (right; simp; omega)))) | ((with_reducible refine Frm.put ?_ _ ?_); rotate_left; (first | (focus (left; simp; done)) | (focus (right; simp; done)) | (focus (right; simp; omega)))) | (with_reducible refine Frm.drew ?_) | (with_reducible refine Frm.drewN ?_ _)))) hF3) ⟨rfl, F2, hd2, hf4, hn2⟩

theorem frames_snoc (l : List Bytes) (r : Bytes) : frames (l ++ [r]) = frames l ++ frameB r := by simp [frames]
theorem frames_le : ∀ (l : List Bytes), (∀ r ∈ l, r.length ≤ 65536) → (frames l).length ≤ 70000 * l.length
  | [], _ => Nat.le_refl _
  | r :: l, h => by
    have h1 := frameB_le r (h r (by simp))
    have h2 := frames_le l (fun x hx => h x (by simp [hx]))
    rw [frames_cons, List.length_append, List.length_cons]; omega

theorem runActs_good : ∀ (l : List (ADisk → Int × ADisk)), (∀ a ∈ l, ∀ D, DGood D → DGood (a D).2) → ∀ D, DGood D → DGood (runActs l D).2
  | [], _, _, h => h
  | a :: l, ha, D, h => by
    unfold runActs
    split
    · exact ha a (by simp) D h
    · exact runActs_good l (fun x hx => ha x (by simp [hx])) _ (ha a (by simp) D h)
set_option maxRecDepth 100000 in
set_option maxHeartbeats 2000000 in
theorem LogRenew_any (lb b : Nat) (a0 : Option Addr) (c0 : Nat) (l : List Bytes) (D : ADisk) (F : List Nat) (w : World) (hl : LogAt w lb b) (nl : lb ∉ F) (hD : DiskAt w b D F) (hg : DGood D) (hrow : StrRow w a0 l) (hll : l.length ≤ 1000) (hr : ∀ r ∈ l, r.length ≤ 70368740000000) (hn : nextSeg D < 100) :
    Calls Tryz.prog 23 #[.pointer (some ⟨lb, 0, none⟩), .slice a0 l.length c0] w (DRet w b F (renewD D l)) := by
  have hseg := fun W hW => hg.segments (b := b) (F := F) W hW
  have hlt := Lib.hid hD.lt
  have HD := Lib.hid hD
  have HG := Lib.hid hg
  have HL := Lib.hid hl
  unfold LogAt at hl
  clear hD hg
  go_enter Tryz.func23, Tryz.ntmps23
  go_wp2
  go_loopw [7, 8, 19] (fun _ _ p wr => ∃ (i : Nat) (sp : Option Addr) (sc : Nat), p = .int .i64 i ∧ i ≤ l.length ∧ (∀ r ∈ l.take i, RecOk r) ∧ SB w.heap.size wr (.slice sp (frames (l.take i)).length sc) (frames (l.take i)) ∧ Frm [] w wr ∧
      wr.heap[w.heap.size]? = some (.cells #[.pointer (some ⟨lb, 0, none⟩)] 41 (0, 0)) ∧ wr.heap[w.heap.size + 1]? = some (.cells #[.slice sp (frames (l.take i)).length sc] 49 (0, 0)) ∧ (∀ g, sp = some ⟨g, 0, none⟩ → g ≠ w.heap.size + 1))
    (fun _ _ p _ => l.length - (intOf p).toNat)
  case atStart => exact ⟨0, none, 0, rfl, Nat.zero_le _, by simp, SB_nil _ _, by (repeat (first | (with_reducible exact Frm.refl _ _) | assumption | (with_reducible refine Frm.alloc ?_ _) | ((with_reducible refine Frm.setCell ?_ ?_ _); rotate_left; (first | (focus (left; simp; done)) | (focus (right; simp; done)) | (focus (right; simp; omega)))) | ((with_reducible refine Frm.put ?_ _ ?_); rotate_left; (first | (focus (left; simp; done)) | (focus (right; simp; done)) | (focus (right; simp; omega)))) | (with_reducible refine Frm.drew ?_) | (with_reducible refine Frm.drewN ?_ _))), by simp [go_sem], by simp [go_sem, frames_nil], by simp⟩
  case round =>
    obtain ⟨i, sp, sc, rfl, hi, hok, hsb, hFr, h2, h5, hne⟩ := hrel
    by_cases hil : i < l.length
    · obtain ⟨x, hx⟩ : ∃ x, l[i]? = some x := ⟨_, List.getElem?_eq_getElem hil⟩
      obtain ⟨g, o, cur, T, fz, rfl, hg2, hcur⟩ := hrow i x hx
      have hg3 := hFr.blk hg2 (by simp)
      have hxm : x ∈ l := List.mem_iff_getElem?.2 ⟨i, hx⟩
      have htk : l.take (i + 1) = l.take i ++ [x] := by rw [List.take_add_one, hx]; rfl
      have hfl : (frames (l.take i)).length ≤ 70000000 := by
        have := frames_le (l.take i) (fun r hr => (hok r hr).2)
        have : (l.take i).length ≤ 1000 := by rw [List.length_take]; omega
        omega
      by_cases hb : x.length = 0 ∨ 65536 < x.length
      · have hput := Put_long _ x wr w.heap.size _ hsb (by omega) hb (hr x hxm)
        have HR := Lib.hid (show renewD D l = (6, D) by
          unfold renewD; rw [if_pos]
          refine List.any_eq_true.2 ⟨x, hxm, ?_⟩
          rcases hb with h | h
          · simp [h]
          · simp [h])
        clear hrow hr hok hx hb hg2
        go_wp2_with (go_at_call 47; refine hput.mono ?_; rintro e w1 ⟨v, rfl, hv, hF1⟩; obtain ⟨sp1, sc1, rfl⟩ := SB_form hv; have h51 := hF1.blk h5 (by simp); have hw1 : Frm [] w w1 := hFr.trans hF1)
        go_ret
        rw [HR.out]
        exact DRet.same HD.out (by (repeat (first | (with_reducible exact Frm.refl _ _) | assumption | (with_reducible refine Frm.alloc ?_ _) | ((with_reducible refine Frm.setCell ?_ ?_ _); rotate_left; (first | (focus (left; simp; done)) | (focus (right; simp; done)) | (focus (right; simp; omega)))) | ((with_reducible refine Frm.put ?_ _ ?_); rotate_left; (first | (focus (left; simp; done)) | (focus (right; simp; done)) | (focus (right; simp; omega)))) | (with_reducible refine Frm.drew ?_) | (with_reducible refine Frm.drewN ?_ _)))) rfl
      · have hput := Put_ok w.heap.size _ _ x wr hsb (by omega) (by omega) (by omega)
        have HTK := Lib.hid htk
        have hFS := Lib.hid hFr.size
        have HX := Lib.hid (show RecOk x from ⟨by omega, by omega⟩)
        have HOK := Lib.hid hok
        clear hrow hr hok hx hb hg2 hseg htk
        go_wp2_with (go_at_call 47; refine hput.mono ?_; rintro e w1 ⟨v, rfl, hv, hF1⟩; obtain ⟨sp1, sc1, rfl⟩ := SB_form hv; have h51 := hF1.blk h5 (by simp); have h21 := hF1.blk h2 (by simp); have hw1 : Frm [] w w1 := hFr.trans hF1)
        go_roundw
        case rel =>
          have hne1 : ∀ g, sp1 = some ⟨g, 0, none⟩ → g ≠ w.heap.size + 1 := fun g hg => by
            have h1 := (own_lt hv (g := g) (by rw [hg]; rfl)).1
            have := lt_of_block h5
            omega
          have e1 : frames (l.take (i + 1)) = frames (l.take i) ++ frameB x := by rw [HTK.out, frames_snoc]
          refine ⟨i + 1, sp1, sc1, by go_num, hil, ?_, ?_, by (repeat (first | (with_reducible exact Frm.refl _ _) | assumption | (with_reducible refine Frm.alloc ?_ _) | ((with_reducible refine Frm.setCell ?_ ?_ _); rotate_left; (first | (focus (left; simp; done)) | (focus (right; simp; done)) | (focus (right; simp; omega)))) | ((with_reducible refine Frm.put ?_ _ ?_); rotate_left; (first | (focus (left; simp; done)) | (focus (right; simp; done)) | (focus (right; simp; omega)))) | (with_reducible refine Frm.drew ?_) | (with_reducible refine Frm.drewN ?_ _))), ?_, ?_, hne1⟩
          · rw [HTK.out]
            intro r hr
            rcases List.mem_append.1 hr with h | h
            · exact HOK.out r h
            · simp at h; subst h; exact HX.out
          · rw [e1]
            refine own_frm (own_mono hv hFS.out) ((Frm.refl [w.heap.size + 1] w1).setCell (.inl (by simp)) _) (fun g hg => ?_)
            have h1 := (own_lt hv hg).1
            have := lt_of_block h5
            simp; omega
          · simp [go_sem, h21]
          · rw [e1]
            simp [go_sem, h51]
        case measure => simp only [intOf]; omega
    · obtain rfl : i = l.length := by omega
      rw [List.take_length] at hok hsb h5
      have hlen : (frames l).length ≤ 70000000 := by
        have := frames_le l (fun r hr => (hok r hr).2)
        omega
      have hnb : l.any (fun r => r.length == 0 || decide (65536 < r.length)) = false := by
        rw [List.any_eq_false]
        intro x hx
        have := hok x hx
        unfold RecOk at this
        simp only [Bool.or_eq_true, beq_iff_eq, decide_eq_true_eq]; omega
      obtain ⟨nx, hnx⟩ : ∃ nx, nx = nextSeg D := ⟨_, rfl⟩
      obtain ⟨A1, hA1⟩ : ∃ A : List (ADisk → Int × ADisk), A = [logSyncD, fun D' => appendD D' (segName nx) (frames l), logSyncD] := ⟨_, rfl⟩
      obtain ⟨A2, hA2⟩ : ∃ A : List (ADisk → Int × ADisk), A = (segsF D.files).map fun x D' => removeD D' x.2.name := ⟨_, rfl⟩
      have HR := Lib.hid (show renewD D l = runActs (A1 ++ A2) D by
        unfold renewD; rw [hnb, if_neg (by simp), hA1, hA2, hnx]
        congr 5; funext D'; rw [if_neg (by omega)])
      rw [← hnx] at hn
      have HN := Lib.hid hnx
      have HA1 := Lib.hid hA1
      have HA2 := Lib.hid hA2
      have hFS := hFr.size
      have hl1 := hFr.blk hl (by simp)
      have hsegs := hseg wr (HD.out.frm0 hFr)
      clear hrow hr hok hnb hseg hnx hA1 hA2
      cases hs : (segsF D.files).getLast? with
      | none =>
        have hnx1 : nx = 1 := by have := HN.out; unfold nextSeg at this; rw [hs] at this; exact this
        rw [List.getLast?_eq_none_iff] at hs
        rw [hs] at hsegs
        clear HN
        subst hnx1
        go_wp2_with (go_at_call 57; refine hsegs.mono ?_; rintro e w2 ⟨v2, rfl, hrow, hF2⟩; obtain ⟨a, c, rfl, hrw⟩ := SG_row hrow; have h22 := hF2.blk h2 (by simp))
        have hw2 : Frm [] w w2 := hFr.trans hF2
        have hl2 := hw2.blk hl (by simp)
        have h25 := hF2.blk h5 (by simp)
        have hsb2 : SB w.heap.size w2 (.slice sp (frames l).length sc) (frames l) := own_frm hsb hF2 (fun _ _ h => by cases h)
        have g1 := lt_of_block h22
        have g2 := lt_of_block h25
        have g3 := lt_of_block hl2
        have hgr : ∀ g, a = some ⟨g, 0, none⟩ → w.heap.size ≤ g ∧ g < w2.heap.size := fun g hg => by
          subst hg
          have := own_lt hrow (g := g) rfl; omega
        refine (steps_disk (w2.heap.size + 1) _ #[.func (.func 22) #[.pointer (some ⟨lb, 0, none⟩)] #[], .func (.func 64) #[] #[.pointer (some ⟨w2.heap.size, 0, none⟩), .pointer (some ⟨w.heap.size, 0, none⟩), .pointer (some ⟨w.heap.size + 1, 0, none⟩)], .func (.func 22) #[.pointer (some ⟨lb, 0, none⟩)] #[]] 39 (0, 0)
          [(.func (.func 22) #[.pointer (some ⟨lb, 0, none⟩)] #[], logSyncD), (.func (.func 64) #[] #[.pointer (some ⟨w2.heap.size, 0, none⟩), .pointer (some ⟨w.heap.size, 0, none⟩), .pointer (some ⟨w.heap.size + 1, 0, none⟩)], fun D' => appendD D' (segName 1) (frames l)), (.func (.func 22) #[.pointer (some ⟨lb, 0, none⟩)] #[], logSyncD)]
          (show (3 : Nat) ≤ 100 by decide) ?_ DGood b D F _ (HD.out.frm0 (w' := _) (by (repeat (first | (with_reducible exact Frm.refl _ _) | assumption | (with_reducible refine Frm.alloc ?_ _) | ((with_reducible refine Frm.setCell ?_ ?_ _); rotate_left; (first | (focus (left; simp; done)) | (focus (right; simp; done)) | (focus (right; simp; omega)))) | ((with_reducible refine Frm.put ?_ _ ?_); rotate_left; (first | (focus (left; simp; done)) | (focus (right; simp; done)) | (focus (right; simp; omega)))) | (with_reducible refine Frm.drew ?_) | (with_reducible refine Frm.drewN ?_ _))))) HG.out (by simp [go_sem]) (fun h => by have := hlt.out _ h; omega) ?_).mono ?_
        · intro i x hx
          match i, hx with
          | 0, hx => simp at hx; subst hx; rfl
          | 1, hx => simp at hx; subst hx; rfl
          | 2, hx => simp at hx; subst hx; rfl
        · have hsync : ActV (.func (.func 22) #[.pointer (some ⟨lb, 0, none⟩)] #[]) logSyncD DGood b F ((w2.alloc (.cells #[.int .i64 1] 3)).alloc (.cells #[.func (.func 22) #[.pointer (some ⟨lb, 0, none⟩)] #[], .func (.func 64) #[] #[.pointer (some ⟨w2.heap.size, 0, none⟩), .pointer (some ⟨w.heap.size, 0, none⟩), .pointer (some ⟨w.heap.size + 1, 0, none⟩)], .func (.func 22) #[.pointer (some ⟨lb, 0, none⟩)] #[]] 39)) := by
            refine ⟨fun D h _ => h.logSync, _, _, _, rfl, enters_of Tryz.func22 (by kernel_rfl) rfl, ?_⟩
            intro W D' F' hW hD' hn' hg'
            exact LogSync_any lb b D' F' W (hW.blk (heap_alloc _ (heap_alloc _ hl2)) nl) hD' hg'
          intro x hx
          simp only [List.mem_cons, List.not_mem_nil, or_false] at hx
          rcases hx with rfl | rfl | rfl
          · exact hsync
          · refine ⟨fun D h _ => h.append _ _ (fun _ => segName_parse 1 hn (by omega)), _, _, _, rfl, enters_of Tryz.func64 (by kernel_rfl) rfl, ?_⟩
            intro W D' F' hW hD' hn' hg'
            have key : ∀ x, x ∉ F → x < w2.heap.size + 2 → x ∉ F' := fun x h1 h2 h3 => by
              rcases hn' x h3 with h | h
              · exact h1 h
              · simp at h; omega
            refine Renew1_any w2.heap.size w.heap.size (w.heap.size + 1) lb b 1 w.heap.size _ (frames l) D' F' W (hW.blk (heap_alloc _ (heap_alloc_new _ _)) (fun h => by have := hlt.out _ h; omega)) (hW.blk (heap_alloc _ (heap_alloc _ h22)) (fun h => by have := hlt.out _ h; omega)) (hW.blk (heap_alloc _ (heap_alloc _ hl2)) nl) (hW.blk (heap_alloc _ (heap_alloc _ h25)) (fun h => by have := hlt.out _ h; omega))
              (own_frm (own_frm hsb2 (F := []) (((Frm.refl [] w2).alloc _).alloc _) (fun _ _ h => by cases h)) hW (fun g hg h => by have := (own_lt hsb2 hg).1; have := hlt.out _ h; omega)) (by omega) hn (key _ (fun h => by have := hlt.out _ h; omega) (by omega)) (key _ (fun h => by have := hlt.out _ h; omega) (by omega)) (key _ nl (by omega)) (key _ (fun h => by have := hlt.out _ h; omega) (by omega)) (fun g hg => key g (fun h => by have := (own_lt hsb2 hg).1; have := hlt.out _ h; omega) (by have := (own_lt hsb2 hg).2; omega)) hD' hg'
          · exact hsync
        · rintro e w4 hq
          rw [show List.map (fun x : Value × (ADisk → Int × ADisk) => x.2) [(.func (.func 22) #[.pointer (some ⟨lb, 0, none⟩)] #[], logSyncD), (.func (.func 64) #[] #[.pointer (some ⟨w2.heap.size, 0, none⟩), .pointer (some ⟨w.heap.size, 0, none⟩), .pointer (some ⟨w.heap.size + 1, 0, none⟩)], fun D' => appendD D' (segName 1) (frames l)), (.func (.func 22) #[.pointer (some ⟨lb, 0, none⟩)] #[], logSyncD)] = A1 from HA1.out.symm] at hq
          obtain ⟨rfl, F1, hd1, hf1, hn1⟩ := hq
          have hg1 : DGood (runActs A1 D).2 := by
            rw [HA1.out]
            refine runActs_good _ ?_ D HG.out
            intro a ha D' hD'
            simp only [List.mem_cons, List.not_mem_nil, or_false] at ha
            rcases ha with rfl | rfl | rfl
            · exact hD'.logSync
            · exact hD'.append _ _ (fun _ => segName_parse 1 hn (by omega))
            · exact hD'.logSync
          have hF4 : Frm F w w4 := (Frm.nil (F := F) (by (repeat (first | (with_reducible exact Frm.refl _ _) | assumption | (with_reducible refine Frm.alloc ?_ _) | ((with_reducible refine Frm.setCell ?_ ?_ _); rotate_left; (first | (focus (left; simp; done)) | (focus (right; simp; done)) | (focus (right; simp; omega)))) | ((with_reducible refine Frm.put ?_ _ ?_); rotate_left; (first | (focus (left; simp; done)) | (focus (right; simp; done)) | (focus (right; simp; omega)))) | (with_reducible refine Frm.drew ?_) | (with_reducible refine Frm.drewN ?_ _))))).trans hf1
          have hn4 : ∀ y ∈ F1, y ∈ F ∨ w.heap.size ≤ y := fun y hy => (hn1 y hy).imp id (fun h => by simp only [World.size_alloc] at h; omega)
          by_cases hr1 : (runActs A1 D).1 = 0
          · have hcont := Lib.hid (show runActs (A1 ++ A2) D = runActs A2 (runActs A1 D).2 by rw [runActs_append, if_neg (by simpa using hr1)])
            obtain ⟨D1, hD1⟩ : ∃ D1, D1 = (runActs A1 D).2 := ⟨_, rfl⟩
            rw [← hD1] at hd1 hg1 hcont
            have hl4 := hf1.blk (heap_alloc _ (heap_alloc _ hl2)) nl
            have h42 := hf1.blk (heap_alloc _ (heap_alloc _ h22)) (fun h => by have := hlt.out _ h; omega)
            have hz4 := hf1.size
            simp only [World.size_alloc] at hz4
            have hrw4 := (hrw.frm (w' := _) (((Frm.refl [] w2).alloc _).alloc _)).frm' hf1 (fun g hg h => by have := (hgr g hg).1; have := hlt.out _ h; omega)
            have key : ∀ x, x ∉ F → x < w2.heap.size + 2 → x ∉ F1 := fun x h1 h2 h3 => by
              rcases hn1 x h3 with h | h
              · exact h1 h
              · simp at h; omega
            have k1 := key _ nl (by omega)
            have k2 := key w.heap.size (fun h => by have := hlt.out _ h; omega) (by omega)
            have k3 : ∀ g, a = some ⟨g, 0, none⟩ → g ∉ F1 := fun g hg => key g (fun h => by have := (hgr g hg).1; have := hlt.out _ h; omega) (by have := (hgr g hg).2; omega)
            have k4 : ∀ y ∈ F1, y < w4.heap.size := hd1.lt
            have hlen2 : A2.length = 0 := by rw [HA2.out, List.length_map]; rw [hs]; rfl
            have HF := Lib.hid hF4
            have HN4 := Lib.hid hn4
            have HD1 := Lib.hid hd1
            have HG1 := Lib.hid hg1
            have HR1 := Lib.hid hr1
            clear hf1 hn1 key hF4 hn4 hd1 hg1 hD1
            go_wp2
            go_loopw [13, 14, 61] (fun _ _ p wr => ∃ (i : Nat) (Di : ADisk) (Fi : List Nat), p = .int .i64 i ∧ i ≤ 0 ∧ runActs A2 D1 = runActs (A2.drop i) Di ∧ DGood Di ∧ DiskAt wr b Di Fi ∧ Frm F1 w4 wr ∧ ∀ y ∈ Fi, y ∈ F1 ∨ w4.heap.size ≤ y)
              (fun _ _ p _ => 0 - (intOf p).toNat)
            case atStart => exact ⟨0, D1, F1, rfl, Nat.zero_le _, rfl, HG1.out, HD1.out, Frm.refl _ _, fun _ h => .inl h⟩
            case round =>
              obtain ⟨i, Di, Fi, rfl, hi, hrun, hgi, hdi, hfi, hni⟩ := hrel
              have HR2 := Lib.hid hrun
              have HDi := Lib.hid hdi
              have HNi := Lib.hid hni
              have h72 := hfi.blk h42 k2
              have h7l := hfi.blk hl4 k1
              have hrw7 := hrw4.frm' hfi k3
              by_cases hil : i < 0
              · exact absurd hil (Nat.not_lt_zero _)
              · obtain rfl : i = 0 := by omega
                rw [List.drop_of_length_le (by omega)] at hrun
                have HR3 := Lib.hid hrun
                clear hrun hdi hni hrw7 hrw4 hrw
                go_wp2
                go_ret
                rw [HR.out, hcont.out, HR3.out]
                exact ⟨rfl, Fi, HDi.out, HF.out.trans' hfi HN4.out, fun y hy => by
                  rcases HNi.out y hy with h | h
                  · exact HN4.out y h
                  · exact .inr (by omega)⟩
          · have hne : ((runActs A1 D).1 != 0) = true := by simpa using hr1
            have hstop := Lib.hid (show runActs (A1 ++ A2) D = runActs A1 D by rw [runActs_append, if_pos (by simpa using hr1)])
            clear hr1 hf1 hn1
            go_wp2
            go_ret
            rw [HR.out, hstop.out]
            exact ⟨rfl, F1, hd1, hF4, hn4⟩
      | some x =>
        obtain ⟨n, f⟩ := x
        have hnx1 : nx = n + 1 := by have := HN.out; unfold nextSeg at this; rw [hs] at this; exact this
        obtain ⟨k, hk, hlast⟩ := segs_last hs
        have hkb : k ≤ 1000 := by have := HG.out.segs.num; omega
        have HK := Lib.hid hlast
        have hwk : IntKind.i64.wrap (k : Int) = k := i64w (by omega) (by omega)
        have hk0 : (0 : Int) ≤ (k : Int) := by omega
        have hk1 : (k : Int) < (k : Int) + 1 := by omega
        have hk2 : k < k + 1 := by omega
        have hkz : (0 : Int) < (k : Int) + 1 := by omega
        clear HN hs hlast
        subst hnx1
        go_wp2_with (go_at_call 57; refine hsegs.mono ?_; rintro e w2 ⟨v2, rfl, hrow, hF2⟩; obtain ⟨a, c, rfl, hrw⟩ := SG_row hrow; obtain ⟨gg, ccur, rfl, hgg2, ee0, ee1, ee2, ee3⟩ := hrw k (n, f) HK.out; simp only [hk] at hrw hrow; have h22 := hF2.blk h2 (by simp))
        have hw2 : Frm [] w w2 := hFr.trans hF2
        have hl2 := hw2.blk hl (by simp)
        have h25 := hF2.blk h5 (by simp)
        have hsb2 : SB w.heap.size w2 (.slice sp (frames l).length sc) (frames l) := own_frm hsb hF2 (fun _ _ h => by cases h)
        have g1 := lt_of_block h22
        have g2 := lt_of_block h25
        have g3 := lt_of_block hl2
        have hgr : ∀ g, (some ⟨gg, 0, none⟩ : Option Addr) = some ⟨g, 0, none⟩ → w.heap.size ≤ g ∧ g < w2.heap.size := fun g hg => by
          obtain rfl : gg = g := by simpa using hg
          have := own_lt hrow (g := gg) rfl; omega
        refine (steps_disk (w2.heap.size + 1) _ #[.func (.func 22) #[.pointer (some ⟨lb, 0, none⟩)] #[], .func (.func 64) #[] #[.pointer (some ⟨w2.heap.size, 0, none⟩), .pointer (some ⟨w.heap.size, 0, none⟩), .pointer (some ⟨w.heap.size + 1, 0, none⟩)], .func (.func 22) #[.pointer (some ⟨lb, 0, none⟩)] #[]] 39 (0, 0)
          [(.func (.func 22) #[.pointer (some ⟨lb, 0, none⟩)] #[], logSyncD), (.func (.func 64) #[] #[.pointer (some ⟨w2.heap.size, 0, none⟩), .pointer (some ⟨w.heap.size, 0, none⟩), .pointer (some ⟨w.heap.size + 1, 0, none⟩)], fun D' => appendD D' (segName (n + 1)) (frames l)), (.func (.func 22) #[.pointer (some ⟨lb, 0, none⟩)] #[], logSyncD)]
          (show (3 : Nat) ≤ 100 by decide) ?_ DGood b D F _ (HD.out.frm0 (w' := _) (by (repeat (first | (with_reducible exact Frm.refl _ _) | assumption | (with_reducible refine Frm.alloc ?_ _) | ((with_reducible refine Frm.setCell ?_ ?_ _); rotate_left; (first | (focus (left; simp; done)) | (focus (right; simp; done)) | (focus (right; simp; omega)))) | ((with_reducible refine Frm.put ?_ _ ?_); rotate_left; (first | (focus (left; simp; done)) | (focus (right; simp; done)) | (focus (right; simp; omega)))) | (with_reducible refine Frm.drew ?_) | (with_reducible refine Frm.drewN ?_ _))))) HG.out (by simp [go_sem]) (fun h => by have := hlt.out _ h; omega) ?_).mono ?_
        · intro i x hx
          match i, hx with
          | 0, hx => simp at hx; subst hx; rfl
          | 1, hx => simp at hx; subst hx; rfl
          | 2, hx => simp at hx; subst hx; rfl
        · have hsync : ActV (.func (.func 22) #[.pointer (some ⟨lb, 0, none⟩)] #[]) logSyncD DGood b F ((w2.alloc (.cells #[.int .i64 ((n : Int) + 1)] 3)).alloc (.cells #[.func (.func 22) #[.pointer (some ⟨lb, 0, none⟩)] #[], .func (.func 64) #[] #[.pointer (some ⟨w2.heap.size, 0, none⟩), .pointer (some ⟨w.heap.size, 0, none⟩), .pointer (some ⟨w.heap.size + 1, 0, none⟩)], .func (.func 22) #[.pointer (some ⟨lb, 0, none⟩)] #[]] 39)) := by
            refine ⟨fun D h _ => h.logSync, _, _, _, rfl, enters_of Tryz.func22 (by kernel_rfl) rfl, ?_⟩
            intro W D' F' hW hD' hn' hg'
            exact LogSync_any lb b D' F' W (hW.blk (heap_alloc _ (heap_alloc _ hl2)) nl) hD' hg'
          intro x hx
          simp only [List.mem_cons, List.not_mem_nil, or_false] at hx
          rcases hx with rfl | rfl | rfl
          · exact hsync
          · refine ⟨fun D h _ => h.append _ _ (fun _ => segName_parse (n + 1) hn (by omega)), _, _, _, rfl, enters_of Tryz.func64 (by kernel_rfl) rfl, ?_⟩
            intro W D' F' hW hD' hn' hg'
            have key : ∀ x, x ∉ F → x < w2.heap.size + 2 → x ∉ F' := fun x h1 h2 h3 => by
              rcases hn' x h3 with h | h
              · exact h1 h
              · simp at h; omega
            refine Renew1_any w2.heap.size w.heap.size (w.heap.size + 1) lb b (n + 1) w.heap.size _ (frames l) D' F' W (hW.blk (heap_alloc _ (heap_alloc_new _ _)) (fun h => by have := hlt.out _ h; omega)) (hW.blk (heap_alloc _ (heap_alloc _ h22)) (fun h => by have := hlt.out _ h; omega)) (hW.blk (heap_alloc _ (heap_alloc _ hl2)) nl) (hW.blk (heap_alloc _ (heap_alloc _ h25)) (fun h => by have := hlt.out _ h; omega))
              (own_frm (own_frm hsb2 (F := []) (((Frm.refl [] w2).alloc _).alloc _) (fun _ _ h => by cases h)) hW (fun g hg h => by have := (own_lt hsb2 hg).1; have := hlt.out _ h; omega)) (by omega) hn (key _ (fun h => by have := hlt.out _ h; omega) (by omega)) (key _ (fun h => by have := hlt.out _ h; omega) (by omega)) (key _ nl (by omega)) (key _ (fun h => by have := hlt.out _ h; omega) (by omega)) (fun g hg => key g (fun h => by have := (own_lt hsb2 hg).1; have := hlt.out _ h; omega) (by have := (own_lt hsb2 hg).2; omega)) hD' hg'
          · exact hsync
        · rintro e w4 hq
          rw [show List.map (fun x : Value × (ADisk → Int × ADisk) => x.2) [(.func (.func 22) #[.pointer (some ⟨lb, 0, none⟩)] #[], logSyncD), (.func (.func 64) #[] #[.pointer (some ⟨w2.heap.size, 0, none⟩), .pointer (some ⟨w.heap.size, 0, none⟩), .pointer (some ⟨w.heap.size + 1, 0, none⟩)], fun D' => appendD D' (segName (n + 1)) (frames l)), (.func (.func 22) #[.pointer (some ⟨lb, 0, none⟩)] #[], logSyncD)] = A1 from HA1.out.symm] at hq
          obtain ⟨rfl, F1, hd1, hf1, hn1⟩ := hq
          have hg1 : DGood (runActs A1 D).2 := by
            rw [HA1.out]
            refine runActs_good _ ?_ D HG.out
            intro a ha D' hD'
            simp only [List.mem_cons, List.not_mem_nil, or_false] at ha
            rcases ha with rfl | rfl | rfl
            · exact hD'.logSync
            · exact hD'.append _ _ (fun _ => segName_parse (n + 1) hn (by omega))
            · exact hD'.logSync
          have hF4 : Frm F w w4 := (Frm.nil (F := F) (by (repeat (first | (with_reducible exact Frm.refl _ _) | assumption | (with_reducible refine Frm.alloc ?_ _) | ((with_reducible refine Frm.setCell ?_ ?_ _); rotate_left; (first | (focus (left; simp; done)) | (focus (right; simp; done)) | (focus (right; simp; omega)))) | ((with_reducible refine Frm.put ?_ _ ?_); rotate_left; (first | (focus (left; simp; done)) | (focus (right; simp; done)) | (focus (right; simp; omega)))) | (with_reducible refine Frm.drew ?_) | (with_reducible refine Frm.drewN ?_ _))))).trans hf1
          have hn4 : ∀ y ∈ F1, y ∈ F ∨ w.heap.size ≤ y := fun y hy => (hn1 y hy).imp id (fun h => by simp only [World.size_alloc] at h; omega)
          by_cases hr1 : (runActs A1 D).1 = 0
          · have hcont := Lib.hid (show runActs (A1 ++ A2) D = runActs A2 (runActs A1 D).2 by rw [runActs_append, if_neg (by simpa using hr1)])
            obtain ⟨D1, hD1⟩ : ∃ D1, D1 = (runActs A1 D).2 := ⟨_, rfl⟩
            rw [← hD1] at hd1 hg1 hcont
            have hl4 := hf1.blk (heap_alloc _ (heap_alloc _ hl2)) nl
            have h42 := hf1.blk (heap_alloc _ (heap_alloc _ h22)) (fun h => by have := hlt.out _ h; omega)
            have hz4 := hf1.size
            simp only [World.size_alloc] at hz4
            have hrw4 := (hrw.frm (w' := _) (((Frm.refl [] w2).alloc _).alloc _)).frm' hf1 (fun g hg h => by have := (hgr g hg).1; have := hlt.out _ h; omega)
            have key : ∀ x, x ∉ F → x < w2.heap.size + 2 → x ∉ F1 := fun x h1 h2 h3 => by
              rcases hn1 x h3 with h | h
              · exact h1 h
              · simp at h; omega
            have k1 := key _ nl (by omega)
            have k2 := key w.heap.size (fun h => by have := hlt.out _ h; omega) (by omega)
            have k3 : ∀ g, (some ⟨gg, 0, none⟩ : Option Addr) = some ⟨g, 0, none⟩ → g ∉ F1 := fun g hg => key g (fun h => by have := (hgr g hg).1; have := hlt.out _ h; omega) (by have := (hgr g hg).2; omega)
            have k4 : ∀ y ∈ F1, y < w4.heap.size := hd1.lt
            have hlen2 : A2.length = (k + 1) := by rw [HA2.out, List.length_map]; exact hk
            have HF := Lib.hid hF4
            have HN4 := Lib.hid hn4
            have HD1 := Lib.hid hd1
            have HG1 := Lib.hid hg1
            have HR1 := Lib.hid hr1
            clear hf1 hn1 key hF4 hn4 hd1 hg1 hD1
            go_wp2
            go_loopw [13, 14, 61] (fun _ _ p wr => ∃ (i : Nat) (Di : ADisk) (Fi : List Nat), p = .int .i64 i ∧ i ≤ (k + 1) ∧ runActs A2 D1 = runActs (A2.drop i) Di ∧ DGood Di ∧ DiskAt wr b Di Fi ∧ Frm F1 w4 wr ∧ ∀ y ∈ Fi, y ∈ F1 ∨ w4.heap.size ≤ y)
              (fun _ _ p _ => (k + 1) - (intOf p).toNat)
            case atStart => exact ⟨0, D1, F1, rfl, Nat.zero_le _, rfl, HG1.out, HD1.out, Frm.refl _ _, fun _ h => .inl h⟩
            case round =>
              obtain ⟨i, Di, Fi, rfl, hi, hrun, hgi, hdi, hfi, hni⟩ := hrel
              have HR2 := Lib.hid hrun
              have HDi := Lib.hid hdi
              have HNi := Lib.hid hni
              have h72 := hfi.blk h42 k2
              have h7l := hfi.blk hl4 k1
              have hrw7 := hrw4.frm' hfi k3
              by_cases hil : i < (k + 1)
              · obtain ⟨⟨n', f'⟩, hx⟩ : ∃ x, (segsF D.files)[i]? = some x := ⟨_, List.getElem?_eq_getElem (by have := congrArg List.length HA2.out; rw [List.length_map, hlen2] at this; omega)⟩
                obtain ⟨g, cur, hga, hg2, e0, e1, e2, e3⟩ := hrw7 i (n', f') hx
                obtain rfl : gg = g := by simpa using hga
                clear hga
                have hst := runActs_step A2 i (fun D' => removeD D' f'.name) Di (by rw [HA2.out, List.getElem?_map, hx]; rfl)
                have HST := Lib.hid hst
                have hrm := fun W hW => Remove_any b Di Fi f'.name W hW hgi.ok
                have hgn := hgi.remove f'.name
                clear hrun hdi hni hst hx hrw7 hrw4 hrw
                obtain ⟨r1, r2, r3, r4⟩ := old_ne (lt_of_block h72)
                obtain ⟨r5, r6, r7, r8⟩ := old_ne (lt_of_block h7l)
                have hIL := Lib.hid hil
                have hgi2 := Lib.hid hgn
                clear hgi hgn k4
                go_wp2
                refine wp_named fun w5 hw5 => ?_
                have hF5 : Frm [] wr w5 := by rw [hw5]; (repeat (first | (with_reducible exact Frm.refl _ _) | assumption | (with_reducible refine Frm.alloc ?_ _) | ((with_reducible refine Frm.setCell ?_ ?_ _); rotate_left; (first | (focus (left; simp; done)) | (focus (right; simp; done)) | (focus (right; simp; omega)))) | ((with_reducible refine Frm.put ?_ _ ?_); rotate_left; (first | (focus (left; simp; done)) | (focus (right; simp; done)) | (focus (right; simp; omega)))) | (with_reducible refine Frm.drew ?_) | (with_reducible refine Frm.drewN ?_ _)))
                have h5p : w5.heap[wr.heap.size]? = some (.cells #[.int .i64 n', sv f'.name, sv f'.bytes, .int .i64 f'.synced] 115 (0, 0)) := by rw [hw5]; simp [go_sem]
                have h5l := hF5.blk h7l (by simp)
                have h52 := hF5.blk h72 (by simp)
                have hd5 := HDi.out.frm0 hF5.drew
                clear hw5 h7l h72 hg2 e0 e1 e2 e3
                by_cases hq1 : (removeD Di f'.name).1 = 0
                · have HQ := Lib.hid hq1
                  have HST2 := Lib.hid (show runActs (A2.drop i) Di = runActs (A2.drop (i + 1)) (removeD Di f'.name).2 by rw [HST.out, if_neg (by simpa using hq1)])
                  go_still_tail 7, (by kernel_rfl)
                  change wpList _ _ _ _ _ w5.drew
                  go_wp2_with (go_at_call 27; refine (hrm w5.drew hd5).mono ?_; rintro e w6 ⟨rfl, F6, hd6, hf6, hn6⟩; rw [HQ.out])
                  go_roundw
                  case rel =>
                    have hFa : Frm Fi wr w6 := (hF5.drew.nil).trans hf6
                    refine ⟨i + 1, _, F6, by go_num, hIL.out, by rw [HR2.out, HST2.out], hgi2.out, hd6, hfi.trans' hFa HNi.out, fun y hy => ?_⟩
                    rcases hn6 y hy with h | h
                    · exact HNi.out y h
                    · have := hF5.size; have := hfi.size; exact .inr (by simp only [size_drew] at h; omega)
                  case measure => have := hIL.out; simp only [intOf]; omega
                · have HST2 := Lib.hid (show runActs (A2.drop i) Di = removeD Di f'.name by rw [HST.out, if_pos (by simpa using hq1)])
                  obtain ⟨q1, D6, hq⟩ : ∃ q1 D6, removeD Di f'.name = (q1, D6) := ⟨_, _, rfl⟩
                  rw [hq] at hrm hq1
                  simp only at hq1
                  have hq2 : (q1 != 0) = true := by simpa using hq1
                  have HQ := Lib.hid hq
                  clear hq hq1
                  go_still_tail 7, (by kernel_rfl)
                  change wpList _ _ _ _ _ w5.drew
                  go_wp2_with (go_at_call 27; refine (hrm w5.drew hd5).mono ?_; rintro e w6 ⟨rfl, F6, hd6, hf6, hn6⟩)
                  go_ret
                  have hFa : Frm Fi wr w6 := (hF5.drew.nil).trans hf6
                  rw [HR.out, hcont.out, HR2.out, HST2.out, HQ.out]
                  refine ⟨rfl, F6, hd6, HF.out.trans' (hfi.trans' hFa HNi.out) HN4.out, fun y hy => ?_⟩
                  have hs5 := hF5.size
                  have hsi := hfi.size
                  have hs4 := HF.out.size
                  simp only [size_drew] at hn6
                  rcases hn6 y hy with h | h
                  · rcases HNi.out y h with h | h
                    · exact HN4.out y h
                    · exact .inr (by omega)
                  · exact .inr (by omega)
              · obtain rfl : i = (k + 1) := by omega
                rw [List.drop_of_length_le (by omega)] at hrun
                have HR3 := Lib.hid hrun
                clear hrun hdi hni hrw7 hrw4 hrw
                go_wp2
                go_ret
                rw [HR.out, hcont.out, HR3.out]
                exact ⟨rfl, Fi, HDi.out, HF.out.trans' hfi HN4.out, fun y hy => by
                  rcases HNi.out y hy with h | h
                  · exact HN4.out y h
                  · exact .inr (by omega)⟩
          · have hne : ((runActs A1 D).1 != 0) = true := by simpa using hr1
            have hstop := Lib.hid (show runActs (A1 ++ A2) D = runActs A1 D by rw [runActs_append, if_pos (by simpa using hr1)])
            clear hr1 hf1 hn1
            go_wp2
            go_ret
            rw [HR.out, hstop.out]
            exact ⟨rfl, F1, hd1, hF4, hn4⟩

end Go.Proofs.YtlopfabbjilpnaaGreatDoor
