/- A range over a function whose iterator makes rows of its own: what the loop's body may turn are the blocks G, and what it made itself. -/
import Derived.Test.YtlopfabbjilpnaaGreatDoorRange
set_option linter.unusedSimpArgs false
set_option linter.unusedVariables false
namespace Go.Proofs.YtlopfabbjilpnaaGreatDoor
open Go.RowKit

/-- All blocks below a line are as they were, but G. -/
def KpG (G : List Nat) (K0 : World → World → Prop) (z : Nat) (A B : World) : Prop := (∀ k, k < z → k ∉ G → B.heap[k]? = A.heap[k]?) ∧ K0 A B
theorem KpG.blk {G : List Nat} {K0 : World → World → Prop} {z : Nat} {A B : World} (h : KpG G K0 z A B) {k : Nat} {o : Obj} (hb : A.heap[k]? = some o) (hz : k < z) (hk : k ∉ G) : B.heap[k]? = some o := (h.1 k hz hk).trans hb
theorem KpG.of_frm {G F : List Nat} {K0 : World → World → Prop} {z : Nat} {A B : World} (h : Frm F A B) (hz : z ≤ A.heap.size) (hF : ∀ x ∈ F, x ∈ G ∨ z ≤ x) (h0 : K0 A B) : KpG G K0 z A B :=
  ⟨fun k hk hn => h.block k (by omega) (fun hm => by rcases hF k hm with h1 | h1; exact hn h1; omega), h0⟩
def SeqZ {α : Type} (P : Program) (gf : FuncId) (lb : Array Value) (encs : α → Array Value) (xs : List α) (G : List Nat) (K0 : World → World → Prop) (Fin : World → World → Prop) (w0 : World) : Prop :=
  ∀ (l : Nat) (J : Nat → List α → World → Prop) (Jx : List α → World → Prop) (W : World), Frm [] w0 W → (∀ x ∈ G, x < W.heap.size) → (∀ z pre A B, Frm [] A B → J z pre A → J z pre B) →
    (∀ z pre x post W1, W.heap.size ≤ z → z ≤ W1.heap.size → xs = pre ++ x :: post → J z pre W1 → YieldAt Fence.wide 0 P l (encs x) W1 fun e W' =>
      (e = .returned (.bool true) ∧ J z (pre ++ [x]) W' ∧ KpG G K0 z W1 W' ∧ z ≤ W'.heap.size) ∨ (e = .returned (.bool false) ∧ Jx (pre ++ [x]) W')) →
    (∀ z A, Frm [] W A → W.heap.size ≤ z → z ≤ A.heap.size → J z [] A) →
    Calls P gf (#[.func (.yield l) #[] #[]] ++ lb) W fun e W' => (∃ v, e = .returned v) ∧ ((∃ z W2, W.heap.size ≤ z ∧ J z xs W2 ∧ Fin W2 W') ∨ (∃ pre, pre <+: xs ∧ Jx pre W'))

theorem wp_rangeZ {α : Type} {P : Program} {g : Operand} {ps : Array Tmp} {assign body : Code} {Q : Exit → Act → World → Prop} {a : Act} {w : World}
    {gf : Nat} {lb : Array Value} (hg : a.eval g = .func (.func gf) #[] lb) (eg : ∀ args w, (callFunc gf args).run P w = .ok (.enter gf args) w)
    {encs : α → Array Value} {xs : List α} {G : List Nat} {K0 Fin : World → World → Prop} {w0 : World} (hseq : SeqZ P gf lb encs xs G K0 Fin w0) (hw0 : Frm [] w0 w) (hps : ∀ x, (encs x).size = ps.size)
    (hG : w.heap.size + 1 ∈ G) (hGl : ∀ x ∈ G, x < w.heap.size + 2) (hKt : ∀ A B C, K0 A B → K0 B C → K0 A C) (hKl : ∀ W o, w.heap.size + 1 < W.heap.size → K0 W (W.putObj (w.heap.size + 1) o))
    (hFin : ∀ W W', Fin W W' → w.heap.size + 1 < W.heap.size → KeepLD w.heap.size W W')
    (I : Nat → List α → World → Prop) (Ix : Code → List α → World → Prop)
    (hI : ∀ z pre A B, Frm [w.heap.size + 1] A B → I z pre A → I z pre B) (hIx : ∀ c pre A B, Frm [w.heap.size + 1] A B → Ix c pre A → Ix c pre B) (h0 : ∀ z W, Frm [] w W → w.heap.size + 2 ≤ z → z ≤ W.heap.size → I z [] W)
    (hround : ∀ z pre x post W, w.heap.size + 2 ≤ z → z ≤ W.heap.size → xs = pre ++ x :: post → I z pre W →
      assign.wpIn (Fence.wide.inRound (w.heap.size + 1)) 0 P (Exit.then (fun a₁ W₁ => KeepLD w.heap.size W W₁ ∧ ∀ W₂, W₂.heap.size = W₁.heap.size → Frm [w.heap.size + 1] W₁ W₂ → body.wpIn (Fence.wide.inRound (w.heap.size + 1)) 0 P (roundP w.heap.size (KpG G K0 z) (fun p V => I z p V ∧ z ≤ V.heap.size) Ix (pre ++ [x]) W W₂) a₁ W₂) (fun _ _ _ => False))
        { tmps := (ps.zip (encs x)).foldl (fun t (p, v) => t.setIfInBounds p v) a.tmps, defers := [] } W)
    (hdone : ∀ z W2 W' W'', w.heap.size + 2 ≤ z → I z xs W2 → Fin W2 W' → Frm [w.heap.size + 1] W' W'' → w.heap.size + 1 < W2.heap.size → W''.heap[w.heap.size]? = some (.deferred (some [])) →
      Q .normal { a with defers := { target := .collected w.heap.size, args := #[] } :: a.defers } W'')
    (hstop : ∀ c pre W'', pre <+: xs → Ix c pre W'' → W''.heap[w.heap.size]? = some (.deferred (some [])) →
      c.wpIn Fence.wide 0 P Q { a with defers := { target := .collected w.heap.size, args := #[] } :: a.defers } W'') :
    (Code.rangeFunc g ps assign body).wpIn Fence.wide 0 P Q a w := by
  refine wpIn_rangeFunc ?_
  intro fn hfn
  obtain ⟨rec, hrec⟩ : ∃ rec : LoopState → Option Code → Loop, rec = fun st pe => { state := st, pending := pe, fn, tmps := a.tmps, params := ps, assign, body, defers := w.heap.size } := ⟨_, rfl⟩
  obtain ⟨W1, hW1⟩ : ∃ W1, (w.alloc (.deferred (some []))).alloc (.loop (rec .ready none)) = W1 := ⟨_, rfl⟩
  have hL1 : W1.heap[w.heap.size + 1]? = some (.loop (rec .ready none)) := by
    rw [← hW1]; have := World.alloc_heap_new (w.alloc (.deferred (some []))) (.loop (rec .ready none)); rwa [World.size_alloc] at this
  have hK1 : W1.heap[w.heap.size]? = some (.deferred (some [])) := by
    rw [← hW1]; exact (Below.heap_alloc _ _ _ (by simp)).trans (World.alloc_heap_new w _)
  have hF1 : Frm [] w W1 := by rw [← hW1]; exact ((Frm.refl _ w).alloc _).alloc _
  have hz1 : W1.heap.size = w.heap.size + 2 := by rw [← hW1]; simp
  refine ⟨w.heap.size + 1, [{ target := .collected w.heap.size, args := #[] }], W1, { target := .fn (.func gf) lb, args := #[.func (.yield (w.heap.size + 1)) #[] #[]] }, W1, gf,
    #[.func (.yield (w.heap.size + 1)) #[] #[]] ++ lb, W1, ?_, ?_, ?_, ?_, (fun h => by simp [Fence.wide] at h), ?_⟩
  · rw [← hW1, hrec]; exact run_enterLoop_outer _ _ _ _ _
  · simp only [resolve, hg]
    simp [go_sem]
  · intro f' _; trivial
  · simp [invoke, go_sem, eg]
  · refine callsIn_wide.2 ((hseq (w.heap.size + 1)
      (fun z pre W => (w.heap.size + 2 ≤ z ∧ I z pre W) ∧ w.heap.size + 1 < W.heap.size ∧ W.heap[w.heap.size + 1]? = some (.loop (rec .ready none)) ∧ W.heap[w.heap.size]? = some (.deferred (some [])))
      (fun pre W => ∃ c, Ix c pre W ∧ W.heap[w.heap.size + 1]? = some (.loop (rec .done (some c))) ∧ W.heap[w.heap.size]? = some (.deferred (some [])))
      W1 (hw0.trans hF1) (by rw [hz1]; exact hGl) (fun z pre A B hAB hs => ⟨⟨hs.1.1, hI _ _ _ _ hAB.nil hs.1.2⟩, Nat.lt_of_lt_of_le hs.2.1 hAB.size, hAB.blk hs.2.2.1 (by simp), hAB.blk hs.2.2.2 (by simp)⟩) ?_ (fun z A hA h1 h2 => ⟨⟨by omega, h0 z A (hF1.trans hA) (by omega) h2⟩, Nat.lt_of_lt_of_le (lt_of_block hL1) hA.size, hA.blk hL1 (by simp), hA.blk hK1 (by simp)⟩)).mono ?_)
    · rintro z pre x post W hz hzW hx ⟨⟨_, hi⟩, hsz, hl, hk⟩
      have hy := run_yield (P := P) (args := encs x) hl (by rw [hrec]; exact hps x)
      rw [hrec] at hy
      refine ⟨fn, _, assign, body, hy, roundIn_of_wpIn hfn (wpIn_mono (hround z pre x post W (by omega) hzW hx hi) ?_)⟩
      rintro e a₁ W₁ he
      cases e with
      | normal =>
        obtain ⟨hkeep, hbody⟩ := he
        have hl1 : W₁.heap[w.heap.size + 1]? = some (.loop (rec .ready none)) := hkeep.2.trans hl
        have hk1 : W₁.heap[w.heap.size]? = some (.deferred (some [])) := hkeep.1.trans hk
        have hlt : w.heap.size + 1 < W₁.heap.size := lt_of_block hl1
        refine ⟨_, run_beginRound hl1 (by rw [hrec]), ?_⟩
        have hl2 : (W₁.putObj (w.heap.size + 1) (.loop { rec .ready none with state := .busy })).heap[w.heap.size + 1]? = some (.loop { rec .ready none with state := .busy }) := World.putObj_heap_same hlt
        have hk2 : (W₁.putObj (w.heap.size + 1) (.loop { rec .ready none with state := .busy })).heap[w.heap.size]? = some (.deferred (some [])) := (World.putObj_heap_other (by omega)).trans hk1
        refine wpIn_mono (hbody _ (by simp [World.putObj]) (frm_putObj _ _ _)) ?_
        have fin : ∀ (jump : Option Code) (W3 : World), KeepLD w.heap.size (W₁.putObj (w.heap.size + 1) (.loop { rec .ready none with state := .busy })) W3 →
            (Instr.endRound (w.heap.size + 1) jump).run P W3 = .ok (.bool jump.isNone) (W3.putObj (w.heap.size + 1) (.loop (rec (if jump.isNone then .ready else .done) jump))) ∧
            w.heap.size + 1 < W3.heap.size ∧
            (W3.putObj (w.heap.size + 1) (.loop (rec (if jump.isNone then .ready else .done) jump))).heap[w.heap.size + 1]? = some (.loop (rec (if jump.isNone then .ready else .done) jump)) ∧
            (W3.putObj (w.heap.size + 1) (.loop (rec (if jump.isNone then .ready else .done) jump))).heap[w.heap.size]? = some (.deferred (some [])) := fun jump W3 hk3 => by
          have hl3 := hk3.2.trans hl2
          have hr := run_endRound (P := P) jump hl3
          rw [hrec] at hr ⊢
          have hlt3 := lt_of_block hl3
          exact ⟨hr, hlt3, World.putObj_heap_same hlt3, (World.putObj_heap_other (by omega)).trans (hk3.1.trans hk2)⟩
        rintro e a3 W3 hp
        cases e with
        | normal =>
          obtain ⟨hr, hlt3, hl4, hk4⟩ := fin none W3 hp.1
          exact ⟨_, _, hr, .inl ⟨rfl, ⟨⟨by omega, hI _ _ _ _ (frm_putObj _ _ _) hp.2.2.1⟩, by simpa [World.putObj] using hlt3, hl4, hk4⟩,
            ⟨fun k hkz hkG => (World.putObj_heap_other (fun e => hkG (by rw [e]; exact hG))).trans (hp.2.1.1 k hkz hkG), hKt _ _ _ hp.2.1.2 (hKl _ _ hlt3)⟩, by simpa [World.putObj] using hp.2.2.2⟩⟩
        | ret =>
          obtain ⟨hr, hlt3, hl4, hk4⟩ := fin (some .ret) W3 hp.1
          exact ⟨_, _, hr, .inr ⟨rfl, .ret, hIx _ _ _ _ (frm_putObj _ _ _) hp.2, hl4, hk4⟩⟩
        | exit id =>
          obtain ⟨hr, hlt3, hl4, hk4⟩ := fin (some (.exit id)) W3 hp.1
          exact ⟨_, _, hr, .inr ⟨rfl, .exit id, hIx _ _ _ _ (frm_putObj _ _ _) hp.2, hl4, hk4⟩⟩
        | goto t =>
          obtain ⟨hr, hlt3, hl4, hk4⟩ := fin (some (.goto t)) W3 hp.1
          exact ⟨_, _, hr, .inr ⟨rfl, .goto t, hIx _ _ _ _ (frm_putObj _ _ _) hp.2, hl4, hk4⟩⟩
        | panic ch => exact hp.elim
        | outgrown => exact hp.elim
      | _ => exact he.elim
    · rintro e W2 ⟨⟨v, rfl⟩, (⟨z, W3, hz, ⟨⟨_, hi⟩, hsz, hl, hk⟩, hfin⟩ | ⟨pre, hSp, c, hi, hl, hk⟩)⟩
      · have hkf := hFin _ _ hfin hsz
        have hl2 := hkf.2.trans hl
        have hk2 := hkf.1.trans hk
        refine ⟨none, _, by have := run_endLoop (P := P) hl2 (by rw [hrec]; simp); rw [hrec] at this; exact this, ?_⟩
        exact hdone z _ _ _ (by omega) hi hfin (frm_putObj _ _ _) hsz ((World.putObj_heap_other (by omega)).trans hk2)
      · refine ⟨some c, _, by have := run_endLoop (P := P) hl (by rw [hrec]; simp); rw [hrec] at this; exact this, ?_⟩
        exact hstop c pre _ hSp (hIx _ _ _ _ (frm_putObj _ _ _) hi) ((World.putObj_heap_other (by omega)).trans hk)

end Go.Proofs.YtlopfabbjilpnaaGreatDoor
