/- A range over a function: the law for the caller (what the iterator leaves at its end may be its own doing), the way out of a function that held such a loop. -/
import Derived.RangeFuncNested
import Derived.RangeFuncBound
import Derived.RangeFuncCalls
import Derived.RangeFuncLeaves
import Derived.Shelf.Abstract
import Derived.Shelf.RegionOpen
import Derived.WalkKit
import Derived.OwnWalkIn
import Derived.TacticsInMore
import Derived.LoopNIn
import Derived.LoopIn
import Derived.Test.YtlopfabbjilpnaaGreatDoorSl
set_option linter.unusedSimpArgs false
set_option linter.unusedVariables false
namespace Go.Proofs.YtlopfabbjilpnaaGreatDoor
open Go.RowKit

/-- What an iterator's value does: it tells the elements of xs, one by one; behind the last one 'Fin' becomes of the world; where a round says 'no more' it stops there. -/
def Seq {α : Type} (P : Program) (gf : FuncId) (lb : Array Value) (encs : α → Array Value) (xs : List α) (Kp Fin : World → World → Prop) (w0 : World) : Prop :=
  ∀ (l : Nat) (J Jx : List α → World → Prop) (W : World), Frm [] w0 W → (∀ pre A B, Frm [] A B → J pre A → J pre B) →
    (∀ pre x post W1, xs = pre ++ x :: post → J pre W1 → YieldAt Fence.wide 0 P l (encs x) W1 fun e W' =>
      (e = .returned (.bool true) ∧ J (pre ++ [x]) W' ∧ Kp W1 W') ∨ (e = .returned (.bool false) ∧ Jx (pre ++ [x]) W')) →
    J [] W →
    Calls P gf (#[.func (.yield l) #[] #[]] ++ lb) W fun e W' => (∃ v, e = .returned v) ∧ ((∃ W2, J xs W2 ∧ Fin W2 W') ∨ (∃ pre, pre <+: xs ∧ Jx pre W'))

/-- The loop's own two blocks are as they were. -/
def KeepLD (s : Nat) (W W' : World) : Prop := W'.heap[s]? = W.heap[s]? ∧ W'.heap[s + 1]? = W.heap[s + 1]?
theorem keepLD_frm {s : Nat} {F : List Nat} {W W' : World} (h : Frm F W W') (hs : s + 1 < W.heap.size) (h1 : s ∉ F) (h2 : s + 1 ∉ F) : KeepLD s W W' := ⟨h.block s (by omega) h1, h.block (s + 1) hs h2⟩

/-- How the body of a round may be left. W: the world in which the round began; W₂: that in which its body began. -/
def roundP {α : Type} (s : Nat) (Kp : World → World → Prop) (I : List α → World → Prop) (Ix : Code → List α → World → Prop) (xs : List α) (W W₂ : World) : Exit → Act → World → Prop
  | .normal, _, W' => KeepLD s W₂ W' ∧ Kp W W' ∧ I xs W'
  | .ret, _, W' => KeepLD s W₂ W' ∧ Ix .ret xs W'
  | .exit id, _, W' => KeepLD s W₂ W' ∧ Ix (.exit id) xs W'
  | .goto t, _, W' => KeepLD s W₂ W' ∧ Ix (.goto t) xs W'
  | .panic _, _, _ => False
  | .outgrown, _, _ => False

theorem frm_putObj (W : World) (l : Nat) (o : Obj) : Frm [l] W (W.putObj l o) :=
  ⟨rfl, rfl, rfl, by simp [World.putObj], fun k _ hn => World.putObj_heap_other (by simpa using hn)⟩

theorem wp_range {α : Type} {P : Program} {g : Operand} {ps : Array Tmp} {assign body : Code} {Q : Exit → Act → World → Prop} {a : Act} {w : World}
    {gf : Nat} {lb : Array Value} (hg : a.eval g = .func (.func gf) #[] lb) (eg : ∀ args w, (callFunc gf args).run P w = .ok (.enter gf args) w)
    {encs : α → Array Value} {xs : List α} {Kp Fin : World → World → Prop} {w0 : World} (hseq : Seq P gf lb encs xs Kp Fin w0) (hw0 : Frm [] w0 w) (hps : ∀ x, (encs x).size = ps.size)
    (hKt : ∀ A B C, Kp A B → Kp B C → Kp A C) (hKl : ∀ W o, w.heap.size + 1 < W.heap.size → Kp W (W.putObj (w.heap.size + 1) o))
    (hFin : ∀ W W', Fin W W' → w.heap.size + 1 < W.heap.size → KeepLD w.heap.size W W')
    (I : List α → World → Prop) (Ix : Code → List α → World → Prop)
    (hI : ∀ pre A B, Frm [w.heap.size + 1] A B → I pre A → I pre B) (hIx : ∀ c pre A B, Frm [w.heap.size + 1] A B → Ix c pre A → Ix c pre B) (h0 : I [] w)
    (hround : ∀ pre x post W, xs = pre ++ x :: post → I pre W → w.heap.size + 1 < W.heap.size →
      assign.wpIn (Fence.wide.inRound (w.heap.size + 1)) 0 P (Exit.then (fun a₁ W₁ => KeepLD w.heap.size W W₁ ∧ ∀ W₂, W₂.heap.size = W₁.heap.size → Frm [w.heap.size + 1] W₁ W₂ → body.wpIn (Fence.wide.inRound (w.heap.size + 1)) 0 P (roundP w.heap.size Kp I Ix (pre ++ [x]) W W₂) a₁ W₂) (fun _ _ _ => False))
        { tmps := (ps.zip (encs x)).foldl (fun t (p, v) => t.setIfInBounds p v) a.tmps, defers := [] } W)
    (hdone : ∀ W2 W' W'', I xs W2 → Fin W2 W' → Frm [w.heap.size + 1] W' W'' → w.heap.size + 1 < W2.heap.size → W''.heap[w.heap.size]? = some (.deferred (some [])) →
      Q .normal { a with defers := { target := .collected w.heap.size, args := #[] } :: a.defers } W'')
    (hstop : ∀ c pre W'', pre <+: xs → Ix c pre W'' → W''.heap[w.heap.size]? = some (.deferred (some [])) →
      c.wpIn Fence.wide 0 P Q { a with defers := { target := .collected w.heap.size, args := #[] } :: a.defers } W'') :
    (Code.rangeFunc g ps assign body).wpIn Fence.wide 0 P Q a w := by
  refine wpIn_rangeFunc ?_
  intro fn hfn
  obtain ⟨rec, hrec⟩ : ∃ rec : LoopState → Option Code → Loop, rec = fun st pe => { state := st, pending := pe, fn, tmps := a.tmps, params := ps, assign, body, defers := w.heap.size } := ⟨_, rfl⟩
  obtain ⟨W1, hW1⟩ : ∃ W1, (w.alloc (.deferred (some []))).alloc (.loop (rec .ready none)) = W1 := ⟨_, rfl⟩
  have hL1 : W1.heap[w.heap.size + 1]? = some (.loop (rec .ready none)) := by
    rw [← hW1]; have := World.alloc_heap_new (w.alloc (.deferred (some []))) (.loop (rec .ready none)); rwa [World.size_alloc] at this
  have hK1 : W1.heap[w.heap.size]? = some (.deferred (some [])) := by
    rw [← hW1]; exact (Below.heap_alloc _ _ _ (by simp)).trans (World.alloc_heap_new w _)
  have hF1 : Frm [] w W1 := by rw [← hW1]; exact ((Frm.refl _ w).alloc _).alloc _
  have hI1 : I [] W1 := hI _ _ _ hF1.nil h0
  refine ⟨w.heap.size + 1, [{ target := .collected w.heap.size, args := #[] }], W1, { target := .fn (.func gf) lb, args := #[.func (.yield (w.heap.size + 1)) #[] #[]] }, W1, gf,
    #[.func (.yield (w.heap.size + 1)) #[] #[]] ++ lb, W1, ?_, ?_, ?_, ?_, (fun h => by simp [Fence.wide] at h), ?_⟩
  · rw [← hW1, hrec]; exact run_enterLoop_outer _ _ _ _ _
  · simp only [resolve, hg]
    simp [go_sem]
  · intro f' _; trivial
  · simp [invoke, go_sem, eg]
  · refine callsIn_wide.2 ((hseq (w.heap.size + 1)
      (fun pre W => I pre W ∧ w.heap.size + 1 < W.heap.size ∧ W.heap[w.heap.size + 1]? = some (.loop (rec .ready none)) ∧ W.heap[w.heap.size]? = some (.deferred (some [])))
      (fun pre W => ∃ c, Ix c pre W ∧ W.heap[w.heap.size + 1]? = some (.loop (rec .done (some c))) ∧ W.heap[w.heap.size]? = some (.deferred (some [])))
      W1 (hw0.trans hF1) (fun pre A B hAB hs => ⟨hI _ _ _ hAB.nil hs.1, Nat.lt_of_lt_of_le hs.2.1 hAB.size, hAB.blk hs.2.2.1 (by simp), hAB.blk hs.2.2.2 (by simp)⟩) ?_ ⟨hI1, lt_of_block hL1, hL1, hK1⟩).mono ?_)
    · rintro pre x post W hx ⟨hi, hsz, hl, hk⟩
      have hy := run_yield (P := P) (args := encs x) hl (by rw [hrec]; exact hps x)
      rw [hrec] at hy
      refine ⟨fn, _, assign, body, hy, roundIn_of_wpIn hfn (wpIn_mono (hround pre x post W hx hi hsz) ?_)⟩
      rintro e a₁ W₁ he
      cases e with
      | normal =>
        obtain ⟨hkeep, hbody⟩ := he
        have hl1 : W₁.heap[w.heap.size + 1]? = some (.loop (rec .ready none)) := hkeep.2.trans hl
        have hk1 : W₁.heap[w.heap.size]? = some (.deferred (some [])) := hkeep.1.trans hk
        have hlt : w.heap.size + 1 < W₁.heap.size := lt_of_block hl1
        refine ⟨_, run_beginRound hl1 (by rw [hrec]), ?_⟩
        have hl2 : (W₁.putObj (w.heap.size + 1) (.loop { rec .ready none with state := .busy })).heap[w.heap.size + 1]? = some (.loop { rec .ready none with state := .busy }) := World.putObj_heap_same hlt
        have hk2 : (W₁.putObj (w.heap.size + 1) (.loop { rec .ready none with state := .busy })).heap[w.heap.size]? = some (.deferred (some [])) := (World.putObj_heap_other (by omega)).trans hk1
        refine wpIn_mono (hbody _ (by simp [World.putObj]) (frm_putObj _ _ _)) ?_
        have fin : ∀ (jump : Option Code) (W3 : World), KeepLD w.heap.size (W₁.putObj (w.heap.size + 1) (.loop { rec .ready none with state := .busy })) W3 →
            (Instr.endRound (w.heap.size + 1) jump).run P W3 = .ok (.bool jump.isNone) (W3.putObj (w.heap.size + 1) (.loop (rec (if jump.isNone then .ready else .done) jump))) ∧
            w.heap.size + 1 < W3.heap.size ∧
            (W3.putObj (w.heap.size + 1) (.loop (rec (if jump.isNone then .ready else .done) jump))).heap[w.heap.size + 1]? = some (.loop (rec (if jump.isNone then .ready else .done) jump)) ∧
            (W3.putObj (w.heap.size + 1) (.loop (rec (if jump.isNone then .ready else .done) jump))).heap[w.heap.size]? = some (.deferred (some [])) := fun jump W3 hk3 => by
          have hl3 := hk3.2.trans hl2
          have hr := run_endRound (P := P) jump hl3
          rw [hrec] at hr ⊢
          have hlt3 := lt_of_block hl3
          exact ⟨hr, hlt3, World.putObj_heap_same hlt3, (World.putObj_heap_other (by omega)).trans (hk3.1.trans hk2)⟩
        rintro e a3 W3 hp
        cases e with
        | normal =>
          obtain ⟨hr, hlt3, hl4, hk4⟩ := fin none W3 hp.1
          exact ⟨_, _, hr, .inl ⟨rfl, ⟨hI _ _ _ (frm_putObj _ _ _) hp.2.2, by simpa [World.putObj] using hlt3, hl4, hk4⟩, hKt _ _ _ hp.2.1 (hKl _ _ hlt3)⟩⟩
        | ret =>
          obtain ⟨hr, hlt3, hl4, hk4⟩ := fin (some .ret) W3 hp.1
          exact ⟨_, _, hr, .inr ⟨rfl, .ret, hIx _ _ _ _ (frm_putObj _ _ _) hp.2, hl4, hk4⟩⟩
        | exit id =>
          obtain ⟨hr, hlt3, hl4, hk4⟩ := fin (some (.exit id)) W3 hp.1
          exact ⟨_, _, hr, .inr ⟨rfl, .exit id, hIx _ _ _ _ (frm_putObj _ _ _) hp.2, hl4, hk4⟩⟩
        | goto t =>
          obtain ⟨hr, hlt3, hl4, hk4⟩ := fin (some (.goto t)) W3 hp.1
          exact ⟨_, _, hr, .inr ⟨rfl, .goto t, hIx _ _ _ _ (frm_putObj _ _ _) hp.2, hl4, hk4⟩⟩
        | panic ch => exact hp.elim
        | outgrown => exact hp.elim
      | _ => exact he.elim
    · rintro e W2 ⟨⟨v, rfl⟩, (⟨W3, ⟨hi, hsz, hl, hk⟩, hfin⟩ | ⟨pre, hSp, c, hi, hl, hk⟩)⟩
      · have hkf := hFin _ _ hfin hsz
        have hl2 := hkf.2.trans hl
        have hk2 := hkf.1.trans hk
        refine ⟨none, _, by have := run_endLoop (P := P) hl2 (by rw [hrec]; simp); rw [hrec] at this; exact this, ?_⟩
        exact hdone _ _ _ hi hfin (frm_putObj _ _ _) hsz ((World.putObj_heap_other (by omega)).trans hk2)
      · refine ⟨some c, _, by have := run_endLoop (P := P) hl (by rw [hrec]; simp); rw [hrec] at this; exact this, ?_⟩
        exact hstop c pre _ hSp (hIx _ _ _ _ (frm_putObj _ _ _) hi) ((World.putObj_heap_other (by omega)).trans hk)

/-- Here stands the operation that writes this slot. -/
theorem wpListIn_at {F : Fence} {n : Nat} {P : Program} {ops : Array Oper} {Q : Exit → Act → World → Prop} {o : Oper} {rest : List Oper} {a : Act} {w : World} (h : wpListIn F n P ops Q (o :: rest) a w) : wpListIn F n P ops Q (o :: rest) a w := h

section
variable {P : Program} {t e : TypeId} {size bytes : Nat} {z : Value}
theorem wpListIn_app (E : El P t e size bytes z) {F : Fence} {nn : Nat} {ops : Array Oper} {rest : List Oper} {o : Oper} {a : Act} {Q : Exit → Act → World → Prop} {w : World} (hgd : o.guard = none) (s x : Operand) (tx : TypeId)
    (ho : o.op = .call { callee := .builtin .append, args := #[s, x], argTypes := #[t, tx] })
    (base : Nat) (v : Value) (n : Nat) (xs : List Value) (hown : w.ownsRow base e size v n xs) (hs : a.eval s = v)
    (xv : Value) (m : Nat) (news : List Value) (hx : a.eval x = xv) (hsrc : Src P size tx xv m news w)
    (h63 : n + m ≤ maxLen) (hbytes : (n + m) * bytes ≤ 140737488355328) (hbase : base ≤ w.heap.size)
    (h : ∀ v' w', w'.ownsRow base e size v' (n + m) (xs ++ news) → w.grownBy w' v.ownBlock → (v' = .slice none 0 0 ↔ v = .slice none 0 0 ∧ m = 0) → wpListIn F nn P ops Q rest (a.put o.dst v') w') : wpListIn F nn P ops Q (o :: rest) a w := by
  refine wpListIn_plain hgd fun K hK' => ?_
  obtain ⟨v', w', hrun, r1, r2, r3⟩ := run_app E base tx o.type v n xs w hown xv m news hsrc h63 hbytes hbase
  unfold Oper.wpIn
  refine ⟨?_, ?_⟩
  · simp [Oper.about, ho, resolve, Target.leads, Sem.run_pure]
  · rw [Oper.semAt_plain F _ _ (by rw [ho]; intro c hc'; cases hc')]
    simp [execOp, ho, resolve, invoke, builtin, hs, hx, hrun, Result.andThen]
    exact hK' _ _ (h v' w' r1 r2 r3)
theorem wpListIn_app1 (E : El P t e size bytes z) {F : Fence} {nn : Nat} {ops : Array Oper} {rest : List Oper} {o : Oper} {a : Act} {Q : Exit → Act → World → Prop} {w : World} (hgd : o.guard = none) (s x : Operand)
    (ho : o.op = .call { callee := .builtin .append, args := #[s, x], argTypes := #[t, t] })
    (base : Nat) (v : Value) (n : Nat) (xs : List Value) (news : Array Value) (T : TypeId) (hown : w.ownsRow base e size v n xs) (hs : a.eval s = v)
    (hx : a.eval x = .slice (some ⟨w.heap.size, 0, none⟩) 1 1) (hl : news.size = size) (h1 : ∀ u ∈ news.toList, u.oneCell' = true)
    (hbytes : (n + 1) * bytes ≤ 140737488355328) (h63 : n + 1 ≤ maxLen) (hbase : base ≤ w.heap.size)
    (h : ∀ v' w', w'.ownsRow base e size v' (n + 1) (xs ++ news.toList) → (w.alloc (.cells news T)).grownBy w' v.ownBlock → v' ≠ .slice none 0 0 → wpListIn F nn P ops Q rest (a.put o.dst v') w') : wpListIn F nn P ops Q (o :: rest) a (w.alloc (.cells news T)) := by
  refine wpListIn_app E hgd s x t ho base v n xs (hown.alloc _) hs _ 1 news.toList hx (Src.ofSlice (e' := e) _ E.ht ⟨w.heap.size, 0, none⟩ 1 1 news.toList (by simp [hl]) (fun j u hu => ?_) h1) h63 hbytes (by simp; omega) (fun v' w' h2 h3 h4 => h v' w' h2 h3 (fun hv => by have := h4.1 hv; simp at this))
  have := heap_alloc_new w (.cells news T)
  simp only [World.cell?, Addr.add_lit, this, Nat.zero_add, Option.isSome_none, Bool.false_eq_true, if_false]
  simpa using hu
end

/-- The world that stands here, under a name. -/
theorem wpIn_named {F : Fence} {n : Nat} {P : Program} {c : Code} {Q : Exit → Act → World → Prop} {a : Act} {w : World} (h : ∀ W, W = w → c.wpIn F n P Q a W) : c.wpIn F n P Q a w := h w rfl
theorem wp_named {P : Program} {c : Code} {Q : Exit → Act → World → Prop} {a : Act} {w : World} (h : ∀ W, W = w → c.wp P Q a W) : c.wp P Q a w := h w rfl

/-- The way out of a function that held one such loop. -/
theorem leave_one {P : Program} {fn : Func} {R : Ending → World → Prop} {a : Act} {W : World} {D : Nat} {v : Value}
    (hd : a.defers = [{ target := .collected D, args := #[] }]) (hD : W.heap[D]? = some (.deferred (some [])))
    (hr : (results fn a.tmps).run P (W.putObj D (.deferred none)) = .ok v (W.putObj D (.deferred none))) (hR : R (.returned v) (W.putObj D (.deferred none))) :
    bodyPostM Fence.wide 0 P fn R .ret a W := by
  show LeavesInM Fence.wide 0 P fn a.tmps R a.defers .returning W
  rw [hd]
  exact ⟨by simp, .inl ⟨_, _, rfl, run_takeDeferred hD, ⟨_, hr, hR⟩⟩⟩
theorem leave_one_end {P : Program} {fn : Func} {R : Ending → World → Prop} {a : Act} {W : World} {D : Nat} {v : Value}
    (hd : a.defers = [{ target := .collected D, args := #[] }]) (hD : W.heap[D]? = some (.deferred (some [])))
    (hr : (results fn a.tmps).run P (W.putObj D (.deferred none)) = .ok v (W.putObj D (.deferred none))) (hR : R (.returned v) (W.putObj D (.deferred none))) :
    bodyPostM Fence.wide 0 P fn R .normal a W := leave_one hd hD hr hR
end Go.Proofs.YtlopfabbjilpnaaGreatDoor
