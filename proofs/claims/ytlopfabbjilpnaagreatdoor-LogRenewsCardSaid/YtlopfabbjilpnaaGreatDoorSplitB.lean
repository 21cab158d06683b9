/- Package frame: Split. -/
import Derived.Test.YtlopfabbjilpnaaGreatDoorSplit
import Derived.BigQuiet
import Derived.Deep.QuietTactic
set_option linter.unusedSimpArgs false
set_option linter.unusedVariables false
namespace Go.Proofs.YtlopfabbjilpnaaGreatDoor
open Go.RowKit
attribute [local go_sem] Oper.semAt_some

theorem elS : El Tryz.prog 42 9 1 16 (.string ⟨#[]⟩) := El.mk' Tryz.underlying42 (by kernel_rfl) rfl (by decide)
abbrev sv (l : Bytes) : Value := .string (ba l)
/-- A slice of texts of the call's own. -/
def SS (base : Nat) (w : World) (v : Value) (l : List Bytes) : Prop := w.ownsRow base 9 1 v l.length (l.map sv)
theorem SS_snoc {base : Nat} {w : World} {v : Value} {l : List Bytes} {c : Bytes} (h : w.ownsRow base 9 1 v (l.length + 1) (l.map sv ++ #[sv c].toList)) : SS base w v (l ++ [c]) := by
  unfold SS; simpa using h

theorem frames_any (s : Bytes) (be bw : Nat) (w : World) :
    Calls Tryz.prog 126 #[.string (ba s), .func (.func 127) #[] #[.pointer (some ⟨be, 0, none⟩), .pointer (some ⟨bw, 0, none⟩)]] w fun en w' =>
      en = .returned (.func (.func 148) #[] #[.pointer (some ⟨w.heap.size, 0, none⟩), .pointer (some ⟨w.heap.size + 1, 0, none⟩)]) ∧
      w' = (w.alloc (.cells #[.string (ba s)] 9)).alloc (.cells #[.func (.func 127) #[] #[.pointer (some ⟨be, 0, none⟩), .pointer (some ⟨bw, 0, none⟩)]] 193) := by
  go_enter Tryz.func126, Tryz.ntmps126
  go_wp2
  go_ret
  exact ⟨rfl, rfl⟩

def splitF (s : Bytes) : List Bytes × Nat × Int := ((framesF s.length s 0).1.map (·.2), (framesF s.length s 0).2)
theorem framesF_len : ∀ (f : Nat) (r : Bytes) (k : Nat), (framesF f r k).1.length ≤ f
  | 0, _, _ => Nat.le_refl _
  | f + 1, r, k => by
    unfold framesF
    split
    · simp
    · split
      · simp
      · have := framesF_len f (r.drop (takeF r).2.1) (k + (takeF r).2.1)
        simp; omega

def RetSplit (w : World) (r : List Bytes × Nat × Int) (en : Ending) (w' : World) : Prop := ∃ v, en = .returned (.tuple #[v, .int .i64 r.2.1, .int .i64 r.2.2]) ∧ SS w.heap.size w' v r.1 ∧ Frm [] w w'

set_option maxRecDepth 100000 in
set_option maxHeartbeats 1000000 in
theorem Split_any (s : Bytes) (w : World) (hs : s.length ≤ 4398046511104) :
    Calls Tryz.prog 94 #[.string (ba s)] w (RetSplit w (splitF s)) := by
  refine (callsIn_wide (n := 0)).1 ?_
  (refine callsIn_of_wp_marks Tryz.func94 rfl trivial ?_ rfl; simp only [Tryz.ntmps94, List.size_toArray, List.length_cons, List.length_nil, Nat.reduceAdd, Nat.reduceSub, Array.replicate_succ, Array.replicate_zero, List.push_toArray, List.append_toArray, List.nil_append, List.cons_append])
  gi_wp2_with (first | (refine ⟨trivial, rfl, ?_⟩; gi_at_call 126; refine (callsIn_wide.2 (frames_any s _ _ _)).mono ?_; rintro e w5 ⟨rfl, rfl⟩))
  refine wpIn_named fun W5 hW5 => ?_
  have b0 : W5.heap[w.heap.size]? = some (.cells #[.slice none 0 0] 42 (0, 0)) := by rw [hW5]; simp [go_sem]
  have b1 : W5.heap[w.heap.size + 1]? = some (.cells #[.int .i64 0] 3 (0, 0)) := by rw [hW5]; simp [go_sem]
  have b2 : W5.heap[w.heap.size + 2]? = some (.cells #[.int .i64 0] 30 (0, 0)) := by rw [hW5]; simp [go_sem]
  have b3 : W5.heap[w.heap.size + 3]? = some (.cells #[.string (ba s)] 9 (0, 0)) := by rw [hW5]; simp [go_sem]
  have b4 : W5.heap[w.heap.size + 4]? = some (.cells #[.func (.func 127) #[] #[.pointer (some ⟨w.heap.size + 1, 0, none⟩), .pointer (some ⟨w.heap.size + 2, 0, none⟩)]] 193 (0, 0)) := by rw [hW5]; simp [go_sem]
  have hz : W5.heap.size = w.heap.size + 5 := by rw [hW5]; simp [go_sem]
  have hF : Frm [] w W5 := by
    rw [hW5]
    (repeat (first | (with_reducible exact Frm.refl _ _) | assumption | (with_reducible refine Frm.alloc ?_ _) | ((with_reducible refine Frm.setCell ?_ ?_ _); rotate_left; (first | (focus (left; simp; done)) | (focus (right; simp; done)) | (focus (right; simp; omega)))) | ((with_reducible refine Frm.put ?_ _ ?_); rotate_left; (first | (focus (left; simp; done)) | (focus (right; simp; done)) | (focus (right; simp; omega)))) | (with_reducible refine Frm.drew ?_) | (with_reducible refine Frm.drewN ?_ _)))
  clear hW5
  refine wp_range (w0 := W5) (gf := 148) (lb := #[.pointer (some ⟨w.heap.size + 3, 0, none⟩), .pointer (some ⟨w.heap.size + 4, 0, none⟩)]) rfl (enters_of Tryz.func148 (by kernel_rfl) rfl)
    (frames_seq (w.heap.size + 3) (w.heap.size + 4) (w.heap.size + 1) (w.heap.size + 2) s _ _ _ _ _ _ (by omega) W5 b3 b4 b1 b2 (by omega)) (Frm.refl _ _) (fun _ => rfl) (kpL_trans _)
    ?_ ?_
    (fun pre W => (∃ v, W.heap[w.heap.size]? = some (.cells #[v] 42 (0, 0)) ∧ SS (w.heap.size + 7) W v (pre.map (·.2))) ∧ Frm [] w W) (fun _ _ _ => False) ?_ (fun _ _ _ _ _ h => h.elim) ⟨⟨_, b0, World.ownsRow_nil _ _ _ _⟩, hF⟩ ?_ ?_ (fun _ _ _ _ h _ => h.elim)
  · intro W o _ k hk
    exact World.putObj_heap_other (by simp at hk; omega)
  · intro W W' hfin hz'
    exact keepLD_frm hfin.2.2 hz' (by simp; omega) (by simp; omega)
  · rintro pre A B hAB ⟨⟨v, hv, hown⟩, hf⟩
    refine ⟨⟨v, hAB.blk hv (by simp; omega), own_frm hown hAB (fun g hg => ?_)⟩, hf.trans' hAB (by simp; omega)⟩
    have := (own_lt hown hg).1
    simp; omega
  · rintro pre ⟨k, ins⟩ post W hx ⟨⟨v, hv, hown⟩, hf⟩ hz'
    have hlen : pre.length < s.length := by
      have := framesF_len s.length s 0
      rw [hx] at this
      simp at this; omega
    simp only [encF]
    gi_wp2
    refine ⟨⟨rfl, rfl⟩, fun W₂ hzz hF2 => ?_⟩
    have hz2 : w.heap.size + 6 < W₂.heap.size := by omega
    clear hzz
    have hv2 := hF2.blk hv (by simp; omega)
    have hown2 := own_frm hown hF2 (fun g hg => by have := (own_lt hown hg).1; simp; omega)
    unfold SS at hown2
    rw [List.length_map] at hown2
    gi_wp2_with ((with_reducible refine wpListIn_at (o := ⟨some 18, _, _, _, _, _⟩) ?_); refine wpListIn_app1 elS rfl (.tmp 15) (.tmp 17) rfl (w.heap.size + 7) _ _ _ _ _ hown2 rfl rfl rfl (by simp [Value.oneCell']) (by omega) (by unfold maxLen; omega) (by omega) ?_; intro v4 W4 hv4 hg4 hnn; obtain ⟨g4, c4, rfl⟩ := ownsRow_succ hv4; have hv5 := grown_blk1 hown2 hg4 hv2 (by omega))
    have hG : Frm (w.heap.size :: v.ownBlock.toList) W₂ (W4.setCell ⟨w.heap.size, 0, none⟩ (.slice (some ⟨g4, 0, none⟩) (pre.length + 1) c4)) :=
      ((((Frm.refl _ W₂).alloc _).grown hg4 (fun k hk => .inl (by simp [hk])))).setCell (.inl (by simp)) _
    have hob : ∀ g, v.ownBlock = some g → w.heap.size + 7 ≤ g := fun g hg => (own_lt hown2 hg).1
    have hg4l : w.heap.size + 7 ≤ g4 := (own_lt hv4 rfl).1
    refine ⟨keepLD_frm hG (by omega) ?_ ?_, ?_, ⟨_, heap_setCell _ hv5, ?_⟩, ?_⟩
    · simp only [List.mem_cons, Option.mem_toList, Option.mem_def, not_or]
      exact ⟨by omega, fun h => by have := hob _ h; omega⟩
    · simp only [List.mem_cons, Option.mem_toList, Option.mem_def, not_or]
      exact ⟨by omega, fun h => by have := hob _ h; omega⟩
    · intro x hxm
      have hx1 : x < w.heap.size + 5 ∧ w.heap.size < x := by simp at hxm; omega
      rw [hG.block x (by omega) (by simp only [List.mem_cons, Option.mem_toList, Option.mem_def, not_or]; exact ⟨by omega, fun h => by have := hob _ h; omega⟩), hF2.block x (by omega) (by simp; omega)]
    · rw [List.map_append]
      refine own_frm (F := [w.heap.size]) (SS_snoc (by rw [List.length_map]; exact hv4)) ((Frm.refl _ W4).setCell (.inl (by simp)) _) (fun g hg => ?_)
      obtain rfl : g4 = g := by simpa [Value.ownBlock] using hg
      simp; omega
    · refine (hf.trans' hF2 (by simp; omega)).trans' hG (fun x hxm => .inr ?_)
      simp only [List.mem_cons, Option.mem_toList, Option.mem_def] at hxm
      rcases hxm with rfl | h
      · exact Nat.le_refl _
      · have := hob _ h; omega
  · rintro W2 W' W'' ⟨⟨v, hv, hown⟩, hf⟩ ⟨⟨Te, he⟩, ⟨Tw, hw⟩, hfin⟩ hA hz' hD
    simp only [Exit.inBlock, Exit.then]
    have hv1 := hA.blk (hfin.blk hv (by simp)) (by simp; omega)
    have he1 := hA.blk he (by simp; omega)
    have hw1 := hA.blk hw (by simp; omega)
    gi_wp2
    gi_region
    gi_wp2
    have hsz : W5.heap.size < W''.heap.size := lt_of_block hD
    have hfr : Frm [] w (W''.drew.putObj W5.heap.size (.deferred none)) :=
      (((hf.trans' hfin (by simp)).trans' hA (by simp; omega)).drew).trans' (frm_putObj _ _ _) (by simp; omega)
    refine leave_one (D := W5.heap.size) rfl hD (by simp [results, Tryz.results94, go_sem]; exact ⟨rfl, rfl⟩) ⟨v, rfl, ?_, hfr⟩
    have hown1 : SS (w.heap.size + 7) W'' v ((framesF s.length s 0).1.map (·.2)) := own_frm (own_frm hown hfin (fun g hg => by have := (own_lt hown hg).1; simp; omega)) hA (fun g hg => by have := (own_lt hown hg).1; simp; omega)
    refine own_mono (own_frm hown1 ((Frm.refl _ W'').drew.trans (frm_putObj _ _ _)) (fun g hg => ?_)) (Nat.le_add_right _ 7)
    have := (own_lt hown hg).1
    simp; omega
end Go.Proofs.YtlopfabbjilpnaaGreatDoor
