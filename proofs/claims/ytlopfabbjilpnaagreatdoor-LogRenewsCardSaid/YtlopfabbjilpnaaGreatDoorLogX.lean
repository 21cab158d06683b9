/- What was synced is told, as plain data. -/
import Derived.Test.YtlopfabbjilpnaaGreatDoorLogU
set_option linter.unusedSimpArgs false
set_option linter.unusedVariables false
namespace Go.Proofs.YtlopfabbjilpnaaGreatDoor

theorem frames_le' (B : Nat) (hB : B ≤ 65536) : ∀ (l : List Bytes), (∀ r ∈ l, r.length ≤ B) → (frames l).length ≤ (B + 17) * l.length
  | [], _ => Nat.le_refl _
  | r :: l, h => by
    have h1 := h r (by simp)
    have h2 := frames_le' B hB l (fun x hx => h x (by simp [hx]))
    have h3 := numB_len r.length (by omega)
    have h4 : (frameB r).length ≤ B + 17 := by simp [frameB, leB_len]; omega
    rw [frames_cons, List.length_append, List.length_cons, Nat.mul_succ]; omega
theorem frameB_le' (B : Nat) (hB : B ≤ 65536) (r : Bytes) (h : r.length ≤ B) : (frameB r).length ≤ B + 17 := by
  have h3 := numB_len r.length (by omega)
  simp [frameB, leB_len]; omega

theorem LogD.of {D D' : ADisk} {k : Nat} {cs : List (List Bytes)} {last : Bytes × Nat} (h : LogD D k cs last) (hf : D'.files = D.files) : LogD D' k cs last := ⟨hf.trans h.files, h.k0, h.k1⟩
theorem LogT.of {D D' : ADisk} {k : Nat} {recs : List Bytes} {s : Nat} {p : Bytes} (h : LogT D k recs s p) (hf : D'.files = D.files) : LogT D' k recs s p := by
  obtain ⟨cs, c, j, hL, h⟩ := h
  exact ⟨cs, c, j, hL.of hf, h⟩
theorem LogSt.of {D D' : ADisk} {k : Nat} {recs : List Bytes} {s : Nat} (h : LogSt D k recs s) (hf : D'.files = D.files) : LogSt D' k recs s := by
  rcases h with ⟨h0, h⟩ | h
  · exact .inl ⟨hf.trans h0, h⟩
  · exact .inr (h.of hf)
/-- Behind the power's having gone: two times told, one record more. -/
theorem lasts_tail {D : ADisk} {recs : List Bytes} {s : Nat} {p : Bytes} (h : (D.files = [] ∧ recs = []) ∨ LogT D 1 recs s p) (hd : D.dead = false) (hfu : D.fuse = -1) (hroom : 1000 ≤ D.room) (hlen : recs.length ≤ 61) (hg : DGood D) :
    ∃ D4 D5 D6 D7 D8, openD D = (0, recs, D4) ∧ openD D4 = (0, recs, D5) ∧ addD D5 [109, 111, 114, 101] = (0, D6) ∧ logSyncD D6 = (0, D7) ∧ openD D7 = (0, recs ++ [[109, 111, 114, 101]], D8) ∧
      D4.dead = false ∧ D7.dead = false ∧ nextSeg D5 < 100 ∧ DGood D4 ∧ DGood D5 ∧ DGood D6 ∧ DGood D7 := by
  obtain ⟨D4, h1, h2, h3, h4, h5⟩ : ∃ D4, openD D = (0, recs, D4) ∧ LogSt D4 1 recs recs.length ∧ D.room ≤ D4.room ∧ D4.fuse = -1 ∧ D4.dead = false := by
    rcases h with ⟨h0, rfl⟩ | h
    · exact ⟨D, openD_none h0 hd, .inl ⟨h0, rfl, rfl, rfl⟩, Nat.le_refl _, hfu, hd⟩
    · obtain ⟨D', a1, a2, a3, a4, a5⟩ := h.open hd
      exact ⟨D', a1, .inr a2, by omega, by rw [a4, hfu], a5⟩
  obtain ⟨D5, b1, b2, b3, b4, b5⟩ := h2.open h5
  have hfl := frameB_le' 4 (by decide) [109, 111, 114, 101] (by decide)
  rcases b2.add [109, 111, 114, 101] b5 ⟨by decide, by decide⟩ (by omega) (by omega) (by omega) with ⟨D6, s6, c1, c2, _, _, _, c6, c7, _⟩ | ⟨_, _, _, _, _, _, _, hne, _⟩
  · obtain ⟨D7, d1, d2, d3, d4, d5⟩ := c2.sync c6
    obtain ⟨D8, e1, _⟩ := d2.open d5
    have hn := b2.next
    have g4 : DGood D4 := by have := hg.open; rwa [h1] at this
    have g5 : DGood D5 := by have := g4.open; rwa [b1] at this
    have g6 : DGood D6 := by have := g5.add [109, 111, 114, 101] (by omega); rwa [c1] at this
    have g7 : DGood D7 := by have := g6.logSync; rwa [d1] at this
    exact ⟨D4, D5, D6, D7, D8, h1, b1, c1, d1, e1, h5, d5, by omega, g4, g5, g6, g7⟩
  · exact absurd (by rw [b4, h4]) hne
theorem DGood.crashed {D : ADisk} (h : DGood D) (keep : Int) : DGood (crashed D keep) := by
  have hm := h.mass
  have hs := crashL_sum (keepO keep) D.files
  refine DGood.mk' ?_ (by simp [Go.Proofs.YtlopfabbjilpnaaGreatDoor.crashed]) (by simp [Go.Proofs.YtlopfabbjilpnaaGreatDoor.crashed]) ?_ (by show (crashL (keepO keep) D.files).length ≤ 1000; rw [crashL_len]; exact h.num) ?_
  · unfold ADisk.mass at hm ⊢
    show D.room + (sumB D.files - sumB (crashL (keepO keep) D.files)) + sumB (crashL (keepO keep) D.files) ≤ _
    omega
  · have key : ∀ (left : Option Nat) (l : List AFile), (∀ f ∈ l, FGood f) → ∀ f ∈ crashL left l, FGood f := by
      intro left l
      induction l generalizing left with
      | nil => intro _ f hf; cases hf
      | cons g l ih =>
        intro hl f hf
        rcases List.mem_cons.1 hf with rfl | hf
        · have hg := hl g (by simp)
          have := crashF_len left g hg.syn
          exact ⟨hg.name, by show g.synced ≤ _; omega, hg.seg⟩
        · exact ih _ (fun x hx => hl x (by simp [hx])) f hf
    exact key _ _ (fun f hf => h.fgood hf)
  · show Sorted (crashL (keepO keep) D.files)
    have hn := crashL_names (keepO keep) D.files
    have hs := h.sort
    unfold Sorted at hs ⊢
    have e1 : (D.files.map (·.name)).Pairwise (· < ·) := by rw [List.pairwise_map]; exact hs
    rw [← hn, List.pairwise_map] at e1
    exact e1
theorem DGood.crash {D : ADisk} (h : DGood D) (keep : Int) : DGood (crashD D keep).2 := by
  unfold crashD
  split
  · exact h
  · exact h.crashed keep
end Go.Proofs.YtlopfabbjilpnaaGreatDoor
