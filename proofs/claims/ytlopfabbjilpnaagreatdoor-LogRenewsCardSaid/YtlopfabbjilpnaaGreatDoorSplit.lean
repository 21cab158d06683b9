/- Package frame: the frames of a text, one behind the other. -/
import Derived.Test.YtlopfabbjilpnaaGreatDoorRange
import Derived.Test.YtlopfabbjilpnaaGreatDoorFrameB
set_option linter.unusedSimpArgs false
set_option linter.unusedVariables false
namespace Go.Proofs.YtlopfabbjilpnaaGreatDoor
open Go.RowKit

theorem takeF_ok (s : Bytes) (h : (takeF s).2.2 = 0) : 0 < (takeF s).2.1 ∧ (takeF s).2.1 ≤ s.length := by
  have hl := (belowR_suffix 0 s 65537).length_le
  unfold takeF at h ⊢
  split at h
  · rename_i he; exact absurd h he
  · rename_i he
    rw [if_neg he]
    split at h
    · simp at h
    · rename_i h1
      rw [if_neg h1]
      split at h
      · simp at h
      · rename_i h2
        rw [if_neg h2]
        have hn : (belowR 0 s 65537).1 ≠ 0 := by
          intro h0
          apply he
          unfold takeE
          rw [if_pos h0]
          exact badE_ne _
        simp only
        omega

/-- The frames of the rest of a text, from a place on; where it goes on no further, and why. -/
def framesF : Nat → Bytes → Nat → List (Nat × Bytes) × Nat × Int
  | 0, _, k => ([], k, 0)
  | f + 1, r, k => if r = [] then ([], k, 0) else if (takeF r).2.2 ≠ 0 then ([], k, (takeF r).2.2) else
    ((k, (takeF r).1) :: (framesF f (r.drop (takeF r).2.1) (k + (takeF r).2.1)).1, (framesF f (r.drop (takeF r).2.1) (k + (takeF r).2.1)).2)
def encF (x : Nat × Bytes) : Array Value := #[.int .i64 x.1, .string (ba x.2)]

theorem splitEnd_any (be bw : Nat) (x y : Value) (Te Tw : TypeId) (at' : Nat) (e : Int) (w : World) (h1 : w.heap[be]? = some (.cells #[x] Te (0, 0))) (h2 : w.heap[bw]? = some (.cells #[y] Tw (0, 0))) (hne : be ≠ bw) :
    Calls Tryz.prog 127 #[.int .i64 at', .int .i64 e, .pointer (some ⟨be, 0, none⟩), .pointer (some ⟨bw, 0, none⟩)] w fun en w' => en = .returned (.tuple #[]) ∧
      w'.heap[be]? = some (.cells #[.int .i64 at'] Te (0, 0)) ∧ w'.heap[bw]? = some (.cells #[.int .i64 e] Tw (0, 0)) ∧ Frm [be, bw] w w' := by
  have hne' := hne.symm
  go_enter Tryz.func127, Tryz.ntmps127
  go_wp2
  go_end0
  exact ⟨rfl, heap_setCell_ne _ (heap_setCell _ h1) (by simpa using hne), heap_setCell _ (heap_setCell_ne _ h2 (by simpa using hne.symm)), ((Frm.refl _ _).setCell (by simp) _).setCell (by simp) _⟩

/-- These blocks are as they were. -/
def KpL (K : List Nat) (W W' : World) : Prop := ∀ k ∈ K, W'.heap[k]? = W.heap[k]?
theorem kpL_trans (K : List Nat) (A B C : World) (h : KpL K A B) (k : KpL K B C) : KpL K A C := fun i hi => (k i hi).trans (h i hi)

def FinS (be bw : Nat) (s : Bytes) (W W' : World) : Prop :=
  (∃ T, W'.heap[be]? = some (.cells #[.int .i64 (framesF s.length s 0).2.1] T (0, 0))) ∧ (∃ T, W'.heap[bw]? = some (.cells #[.int .i64 (framesF s.length s 0).2.2] T (0, 0))) ∧ Frm [be, bw] W W'

theorem framesF_fuel : ∀ (f g : Nat) (r : Bytes) (k : Nat), r.length ≤ f → r.length ≤ g → framesF f r k = framesF g r k
  | 0, g, r, k, h, _ => by
    obtain rfl : r = [] := List.eq_nil_of_length_eq_zero (by omega)
    cases g <;> rfl
  | f + 1, 0, r, k, _, h => by
    obtain rfl : r = [] := List.eq_nil_of_length_eq_zero (by omega)
    rfl
  | f + 1, g + 1, r, k, hf, hg => by
    unfold framesF
    split
    · rfl
    · split
      · rfl
      · rename_i h1 h2
        have := takeF_ok r (by simpa using h2)
        rw [framesF_fuel f g _ _ (by simp; omega) (by simp; omega)]
/-- One frame. -/
theorem framesF_step (s : Bytes) (k : Nat) (hk : k < s.length) (h : (takeF (s.drop k)).2.2 = 0) :
    framesF (s.length - k) (s.drop k) k = ((k, (takeF (s.drop k)).1) :: (framesF (s.length - (k + (takeF (s.drop k)).2.1)) (s.drop (k + (takeF (s.drop k)).2.1)) (k + (takeF (s.drop k)).2.1)).1, (framesF (s.length - (k + (takeF (s.drop k)).2.1)) (s.drop (k + (takeF (s.drop k)).2.1)) (k + (takeF (s.drop k)).2.1)).2) := by
  have h1 := takeF_ok _ h
  rw [List.length_drop] at h1
  obtain ⟨m, hm⟩ : ∃ m, s.length - k = m + 1 := ⟨s.length - k - 1, by omega⟩
  have hne : s.drop k ≠ [] := fun e => by have := congrArg List.length e; simp at this; omega
  rw [hm, framesF, if_neg hne, if_neg (by simpa using h), List.drop_drop]
  rw [framesF_fuel m (s.length - (k + (takeF (s.drop k)).2.1)) _ _ (by simp; omega) (by simp)]
theorem framesF_stop (s : Bytes) (k : Nat) (hk : k < s.length) (h : (takeF (s.drop k)).2.2 ≠ 0) : framesF (s.length - k) (s.drop k) k = ([], k, (takeF (s.drop k)).2.2) := by
  obtain ⟨m, hm⟩ : ∃ m, s.length - k = m + 1 := ⟨s.length - k - 1, by omega⟩
  have hne : s.drop k ≠ [] := fun e => by have := congrArg List.length e; simp at this; omega
  rw [hm, framesF, if_neg hne, if_pos h]
theorem framesF_end (s : Bytes) : framesF (s.length - s.length) (s.drop s.length) s.length = ([], s.length, 0) := by simp [framesF]

set_option maxRecDepth 100000 in
set_option maxHeartbeats 1000000 in
theorem frames_seq (bs bf be bw : Nat) (s : Bytes) (x y : Value) (Ts Tf Te Tw : TypeId) (hl : s.length ≤ 4611686018427380000) (w0 : World)
    (hs : w0.heap[bs]? = some (.cells #[.string (ba s)] Ts (0, 0))) (hf : w0.heap[bf]? = some (.cells #[.func (.func 127) #[] #[.pointer (some ⟨be, 0, none⟩), .pointer (some ⟨bw, 0, none⟩)]] Tf (0, 0)))
    (he : w0.heap[be]? = some (.cells #[x] Te (0, 0))) (hw : w0.heap[bw]? = some (.cells #[y] Tw (0, 0))) (hne : be ≠ bw) :
    Seq Tryz.prog 148 #[.pointer (some ⟨bs, 0, none⟩), .pointer (some ⟨bf, 0, none⟩)] encF (framesF s.length s 0).1 (KpL [bs, bf, be, bw]) (FinS be bw s) w0 := by
  intro l J Jx W hW hJ hY h0
  have hs1 := hW.blk hs (by simp)
  have hf1 := hW.blk hf (by simp)
  have he1 := hW.blk he (by simp)
  have hw1 := hW.blk hw (by simp)
  refine (callsIn_wide (n := 0)).1 ?_
  (refine callsIn_of_wp Tryz.func148 rfl trivial ?_ rfl; simp only [Tryz.ntmps148, List.size_toArray, List.length_cons, List.length_nil, Nat.reduceAdd, Nat.reduceSub, Array.replicate_succ, Array.replicate_zero, List.push_toArray, List.append_toArray, List.nil_append, List.cons_append])
  gi_wp2
  gi_loopw [4] (fun p wr => ∃ (pre : List (Nat × Bytes)) (k : Nat), p = .int .i64 k ∧ k ≤ s.length ∧ framesF s.length s 0 = (pre ++ (framesF (s.length - k) (s.drop k) k).1, (framesF (s.length - k) (s.drop k) k).2) ∧ J pre wr ∧
      wr.heap[bs]? = some (.cells #[.string (ba s)] Ts (0, 0)) ∧ wr.heap[bf]? = some (.cells #[.func (.func 127) #[] #[.pointer (some ⟨be, 0, none⟩), .pointer (some ⟨bw, 0, none⟩)]] Tf (0, 0)) ∧
      wr.heap[be]? = some (.cells #[x] Te (0, 0)) ∧ wr.heap[bw]? = some (.cells #[y] Tw (0, 0)))
    (fun p _ => s.length - (intOf p).toNat)
  case atStart => exact ⟨[], 0, rfl, Nat.zero_le _, by simp, h0, hs1, hf1, he1, hw1⟩
  case round =>
    obtain ⟨pre, k, rfl, hk, hx, hJs, hs2, hf2, he2, hw2⟩ := hrel
    have hld : (s.drop k).length ≤ 4611686018427380000 := by simp; omega
    by_cases hkl : k < s.length
    · obtain ⟨ins, m, e3, hT⟩ : ∃ i m e, takeF (s.drop k) = (i, m, e) := ⟨_, _, _, rfl⟩
      have hta := fun W => Take_any (s.drop k) W hld
      rw [hT] at hta
      by_cases he3 : e3 = 0
      · subst he3
        have hok := takeF_ok (s.drop k) (by rw [hT])
        have hst := framesF_step s k hkl (by rw [hT])
        rw [hT] at hok hst
        rw [List.length_drop] at hok
        simp only at hok hst
        have hm1 : k + m ≤ s.length := by omega
        have hm2 : 0 < m := hok.1
        have hST := Lib.hid hst
        have hX := Lib.hid hx
        have hYl := fun W1 (hJ1 : J pre W1) => hY pre (k, ins) (framesF (s.length - (k + m)) (s.drop (k + m)) (k + m)).1 W1 (by rw [hX.out, hST.out]) hJ1
        clear hT hst hx hok
        gi_wp2_with (refine ⟨trivial, rfl, ?_⟩; gi_at_call 80; refine (callsIn_wide.2 (hta _)).mono ?_; rintro e w3 ⟨rfl, hF3⟩; have hs3 := hF3.blk hs2 (by simp); have hf3 := hF3.blk hf2 (by simp); have he4 := hF3.blk he2 (by simp); have hw3 := hF3.blk hw2 (by simp); obtain ⟨fn, tmps, assign, body, hy, hR⟩ := hYl w3 (hJ _ _ _ hF3 hJs); simp only [encF] at hy)
        refine ⟨rfl, hR.mono ?_⟩
        rintro e W3 (⟨rfl, hJ3, hk3⟩ | ⟨rfl, hJx3⟩)
        · have hs5 := (hk3 bs (by simp)).trans hs3
          have hf5 := (hk3 bf (by simp)).trans hf3
          have he5 := (hk3 be (by simp)).trans he4
          have hw5 := (hk3 bw (by simp)).trans hw3
          gi_wp2
          go_roundw
          case rel => exact ⟨pre ++ [(k, ins)], k + m, by go_num, hm1, by rw [hX.out, hST.out, List.append_assoc]; rfl, hJ3, hs5, hf5, he5, hw5⟩
          case measure => simp only [intOf]; omega
        · gi_wp2
          refine bodyPost_ret (results_none rfl _ _ _) rfl ?_
          refine ⟨⟨_, rfl⟩, .inr ⟨pre ++ [(k, ins)], ?_, hJx3⟩⟩
          rw [hX.out, hST.out]
          exact ⟨(framesF (s.length - (k + m)) (s.drop (k + m)) (k + m)).1, by simp⟩
      · have hst := framesF_stop s k hkl (by rw [hT]; exact he3)
        rw [hT] at hst
        have hST := Lib.hid hst
        have hX := Lib.hid hx
        have he3' : (e3 != 0) = true := by simpa using he3
        clear hT hst hx
        gi_wp2_with (first | (refine ⟨trivial, rfl, ?_⟩; gi_at_call 80; refine (callsIn_wide.2 (hta _)).mono ?_; rintro e w3 ⟨rfl, hF3⟩; have hs3 := hF3.blk hs2 (by simp); have hf3 := hF3.blk hf2 (by simp); have he4 := hF3.blk he2 (by simp); have hw3 := hF3.blk hw2 (by simp)) | (refine ⟨trivial, rfl, ?_⟩; gi_at_call 127; refine (callsIn_wide.2 (splitEnd_any be bw x y Te Tw k e3 _ he4 hw3 hne)).mono ?_; rintro e w4 ⟨rfl, hq1, hq2, hF4⟩))
        refine bodyPost_ret (results_none rfl _ _ _) rfl ?_
        refine ⟨⟨_, rfl⟩, .inl ⟨w3, ?_, ⟨Te, ?_⟩, ⟨Tw, ?_⟩, hF4⟩⟩
        · rw [hX.out, hST.out, List.append_nil]; exact hJ _ _ _ hF3 hJs
        · rw [hX.out, hST.out]; exact hq1
        · rw [hX.out, hST.out]; exact hq2
    · obtain rfl : k = s.length := by omega
      have hX := Lib.hid hx
      clear hx
      gi_wp2_with (first | (refine ⟨trivial, rfl, ?_⟩; gi_at_call 127; refine (callsIn_wide.2 (splitEnd_any be bw x y Te Tw s.length 0 _ he2 hw2 hne)).mono ?_; rintro e w4 ⟨rfl, hq1, hq2, hF4⟩))
      go_end0
      refine ⟨⟨_, rfl⟩, .inl ⟨wr, ?_, ⟨Te, ?_⟩, ⟨Tw, ?_⟩, hF4⟩⟩
      · rw [hX.out, framesF_end, List.append_nil]; exact hJs
      · rw [hX.out, framesF_end]; exact hq1
      · rw [hX.out, framesF_end]; exact hq2
end Go.Proofs.YtlopfabbjilpnaaGreatDoor
