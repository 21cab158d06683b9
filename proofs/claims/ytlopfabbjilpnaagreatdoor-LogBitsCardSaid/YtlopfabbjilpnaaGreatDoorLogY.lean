/- A bit turned in what is synced, as plain data. -/
import Derived.Test.YtlopfabbjilpnaaGreatDoorLogX
import Derived.Test.YtlopfabbjilpnaaGreatDoorDiskN
set_option linter.unusedSimpArgs false
set_option linter.unusedVariables false
namespace Go.Proofs.YtlopfabbjilpnaaGreatDoor

theorem turnB_at {l : Bytes} {i : Nat} (k : Nat) (h : i < l.length) : ∃ a c b, l = a ++ c :: b ∧ a.length = i ∧ turnB l i k = a ++ turnC c k :: b := by
  refine ⟨l.take i, l[i], l.drop (i + 1), ?_, ?_, ?_⟩
  · rw [List.getElem_cons_drop, List.take_append_drop]
  · rw [List.length_take]; omega
  · unfold turnB
    rw [List.getD_eq_getElem?_getD, List.getElem?_eq_getElem h, Option.getD_some]
    exact List.set_eq_take_append_cons_drop ▸ by rw [if_pos h]
theorem turnB_len (l : Bytes) (i k : Nat) : (turnB l i k).length = l.length := by unfold turnB; rw [List.length_set]
theorem turnB_right (a b : Bytes) (i k : Nat) : turnB (a ++ b) (a.length + i) k = a ++ turnB b i k := by
  unfold turnB
  rw [List.set_append_right _ _ (by omega), List.getD_eq_getElem?_getD, List.getElem?_append_right (by omega), Nat.add_sub_cancel_left, List.getD_eq_getElem?_getD]
theorem turnB_left (a b : Bytes) (i k : Nat) (h : i < a.length) : turnB (a ++ b) i k = turnB a i k ++ b := by
  unfold turnB
  rw [List.set_append_left _ _ h, List.getD_eq_getElem?_getD, List.getElem?_append_left h, List.getD_eq_getElem?_getD]
theorem numB_1 {n : Nat} (h : n ≤ 200) : (numB n).length = 1 := by unfold numB; rw [if_pos (by omega)]; rfl
theorem frameB_len {r : Bytes} (h : r.length ≤ 200) : (frameB r).length = 9 + r.length := by simp [frameB, leB_len, numB_1 h]; omega
theorem takeF_bit (r x : Bytes) (h : RecOk r) (h2 : r.length ≤ 200) (q k : Nat) (hq : q < 8 + r.length) (hk : k < 8) : takeF (turnB (frameB r) (1 + q) k ++ x) = ([], 0, 5) := by
  have h1 := numB_1 h2
  have hl8 : (leB (crc r)).length = 8 := leB_len _
  have e : turnB (frameB r) (1 + q) k = numB r.length ++ turnB (leB (crc r) ++ r) q k := by
    rw [frameB, List.append_assoc, ← h1, turnB_right]
  by_cases h8 : q < 8
  · obtain ⟨a, c, b, e1, e2, e3⟩ := turnB_at k (l := leB (crc r)) (i := q) (by omega)
    rw [e, turnB_left _ _ _ _ (by omega), ← List.append_assoc]
    refine takeF_turned r x _ r h (by rw [turnB_len, hl8]) rfl (.inr ⟨fun h => ?_, rfl⟩)
    rw [e3, e1] at h
    have := List.append_cancel_left h
    injection this with hc
    exact (turnC_nat c k hk).2.2 hc
  · obtain ⟨j, rfl⟩ : ∃ j, q = 8 + j := ⟨q - 8, by omega⟩
    obtain ⟨a, c, b, e1, e2, e3⟩ := turnB_at k (l := r) (i := j) (by omega)
    rw [e, ← hl8, turnB_right, ← List.append_assoc]
    refine takeF_turned r x _ _ h hl8 (turnB_len _ _ _) (.inl ⟨rfl, a, b, c, turnC c k, e1, e3, fun h => (turnC_nat c k hk).2.2 h.symm⟩)

theorem flatten_split {α : Type} : ∀ (css : List (List α)) (l1 : List α) (r : α) (l2 : List α), css.flatten = l1 ++ r :: l2 → ∃ css1 a b css2, css = css1 ++ (a ++ r :: b) :: css2 ∧ l1 = css1.flatten ++ a
  | [], l1, r, l2, h => by simp at h
  | c :: css, l1, r, l2, h => by
    rw [List.flatten_cons] at h
    rcases List.append_eq_append_iff.1 h with ⟨x, h1, h2⟩ | ⟨x, h1, h2⟩
    · obtain ⟨css1, a, b, css2, e1, e2⟩ := flatten_split css x r l2 h2
      exact ⟨c :: css1, a, b, css2, by rw [e1]; rfl, by rw [h1, e2, List.flatten_cons, List.append_assoc]⟩
    · cases x with
      | nil =>
        obtain ⟨css1, a, b, css2, e1, e2⟩ := flatten_split css [] r l2 (by simpa using h2.symm)
        exact ⟨c :: css1, a, b, css2, by rw [e1]; rfl, by rw [List.flatten_cons, List.append_assoc, ← e2, List.append_nil]; simpa using h1.symm⟩
      | cons y x =>
        simp only [List.cons_append, List.cons.injEq] at h2
        obtain ⟨rfl, h2⟩ := h2
        exact ⟨[], l1, x, css, by rw [h1]; rfl, rfl⟩
theorem sumB_segs : ∀ (k : Nat) (css : List (List Bytes)), sumB (segFiles k (css.map fullC)) = (frames css.flatten).length
  | _, [] => rfl
  | k, c :: css => by
    rw [List.map_cons, segFiles, sumB_cons, sumB_segs (k + 1) css, List.flatten_cons, frames_append, List.length_append]; rfl
/-- Whole segments, all synced. -/
theorem LogT.full {D : ADisk} {k : Nat} {l : List Bytes} (h : LogT D k l l.length []) : ∃ css : List (List Bytes), D.files = segFiles k (css.map fullC) ∧ l = css.flatten ∧ 0 < k ∧ k + css.length ≤ 100 ∧ ∀ c ∈ css, ∀ r ∈ c, RecOk r := by
  obtain ⟨cs, c, j, hL, rfl, h3, hj, ht, hcs⟩ := h
  obtain rfl : j = c.length := by rw [List.length_append] at h3; omega
  refine ⟨cs ++ [c], ?_, by simp, hL.k0, by have := hL.k1; simp; omega, fun x hx => ?_⟩
  · rw [hL.files, List.map_append, List.append_nil, List.take_length]; rfl
  · rcases List.mem_append.1 hx with h | h
    · exact (hcs x h).2
    · simp at h; subst h; exact ht.1
theorem crash_segs : ∀ (left : Option Nat) (k : Nat) (css : List (List Bytes)), crashL left (segFiles k (css.map fullC)) = segFiles k (css.map fullC)
  | _, _, [] => rfl
  | left, k, c :: css => by
    rw [List.map_cons, segFiles, crashL, crash_segs]
    congr 1
    simp [crashF, fullC, List.take_of_length_le]
/-- A bit turned behind a length: the log is halted. -/
theorem bits_plain {D : ADisk} {k : Nat} {l : List Bytes} (h : LogT D k l l.length []) (h200 : ∀ r ∈ l, r.length ≤ 200) {l1 l2 : List Bytes} {r : Bytes} (hl : l = l1 ++ r :: l2) (q kk : Nat) (hq : q < 8 + r.length) (hk8 : kk < 8) :
    (crashed D 0).files = D.files ∧ ∃ A f0 B i, D.files = A ++ f0 :: B ∧ (frames l1).length + (1 + q) = sumB A + i ∧ i < f0.bytes.length ∧ ∀ D2 : ADisk, D2.files = A ++ { f0 with bytes := turnB f0.bytes i kk } :: B → D2.dead = false → openD D2 = (10, [], D2) := by
  obtain ⟨css, hf, rfl, hk0, hk1, hok⟩ := h.full
  refine ⟨by show crashL _ D.files = _; rw [hf, crash_segs], ?_⟩
  obtain ⟨css1, a, b, css2, rfl, rfl⟩ := flatten_split css l1 r l2 hl
  have hr := hok (a ++ r :: b) (by simp) r (by simp)
  have hr2 : r.length ≤ 200 := h200 r (by simp)
  have ha : ∀ x ∈ a, RecOk x := fun x hx => hok (a ++ r :: b) (by simp) x (by simp [hx])
  have hfr : frames (a ++ r :: b) = frames a ++ (frameB r ++ frames b) := by rw [frames_append, frames_cons]
  have hlen : (frames (a ++ r :: b)).length = (frames a).length + ((frameB r).length + (frames b).length) := by rw [hfr]; simp
  have h9 := frameB_len hr2
  have hturn : turnB (frames (a ++ r :: b)) ((frames a).length + (1 + q)) kk = frames a ++ (turnB (frameB r) (1 + q) kk ++ frames b) := by
    rw [hfr, turnB_right, turnB_left _ _ _ _ (by omega)]
  refine ⟨segFiles k (css1.map fullC), ⟨segName (k + css1.length), frames (a ++ r :: b), (frames (a ++ r :: b)).length⟩, segFiles (k + css1.length + 1) (css2.map fullC), (frames a).length + (1 + q), ?_, ?_, ?_, fun D2 h2 hd => ?_⟩
  · rw [hf, List.map_append, segFiles_append, List.length_map, List.map_cons, segFiles]; rfl
  · rw [sumB_segs, frames_append, List.length_append]; omega
  · show _ < (frames (a ++ r :: b)).length
    omega
  · simp only [List.length_append, List.length_cons] at hk1
    have hsegs : segsF D2.files = numbered k (css1.map fullC) ++ (k + css1.length, ⟨segName (k + css1.length), turnB (frames (a ++ r :: b)) ((frames a).length + (1 + q)) kk, (frames (a ++ r :: b)).length⟩) :: numbered (k + css1.length + 1) (css2.map fullC) := by
      have e : D2.files = segFiles k (css1.map fullC ++ (turnB (frames (a ++ r :: b)) ((frames a).length + (1 + q)) kk, (frames (a ++ r :: b)).length) :: css2.map fullC) := by
        rw [h2, segFiles_append, List.length_map, segFiles]
      rw [e, segsF_segFiles _ _ hk0 (by simp; omega), numbered_append, List.length_map, numbered]
    have hsp : (splitF (turnB (frames (a ++ r :: b)) ((frames a).length + (1 + q)) kk)).2.2 = 5 := by
      have ht := takeF_bit r (frames b) hr hr2 q kk hq hk8
      have hne : turnB (frameB r) (1 + q) kk ++ frames b ≠ [] := fun e => by
        have := congrArg List.length e
        rw [List.length_append, turnB_len, h9] at this
        simp at this
      rw [hturn, splitF_app a _ ha, splitF_stop _ hne (by rw [ht]; decide), ht]
    have hnone : ∀ (prev : Option Nat) (recs : List Bytes) (e : Nat) (rest : List (Nat × AFile)), readGo prev recs e ((k + css1.length, ⟨segName (k + css1.length), turnB (frames (a ++ r :: b)) ((frames a).length + (1 + q)) kk, (frames (a ++ r :: b)).length⟩) :: rest) = none := by
      intro prev recs e rest
      rw [readGo_cons]
      split
      · rfl
      · rw [if_pos]
        left
        simp only
        rw [List.take_of_length_le (by rw [turnB_len]; exact Nat.le_refl _), hsp]; decide
    have hread : readF (segsF D2.files) = none := by
      unfold readF
      rw [hsegs, readGo_full css1 k none [] 0 _ (fun c hc => hok c (by simp [hc])) (.inl rfl) hk0]
      split
      · exact hnone _ _ _ _
      · exact hnone _ _ _ _
    unfold openD
    rw [if_neg (by simp [hd]), hread]
end Go.Proofs.YtlopfabbjilpnaaGreatDoor
