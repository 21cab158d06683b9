/- Package log: steps over a disk; Open. -/
import Derived.Test.YtlopfabbjilpnaaGreatDoorLogF
import Derived.Test.YtlopfabbjilpnaaGreatDoorFrameP
import Derived.Laws.BytesArg
set_option linter.unusedSimpArgs false
set_option linter.unusedVariables false
namespace Go.Proofs.YtlopfabbjilpnaaGreatDoor
open Go.RowKit

/-- Acts on a disk, one behind the other, up to the first one that errs. -/
def runActs : List (ADisk → Int × ADisk) → ADisk → Int × ADisk
  | [], D => (0, D)
  | a :: l, D => if (a D).1 ≠ 0 then a D else runActs l (a D).2

structure ActV (v : Value) (act : ADisk → Int × ADisk) (G : ADisk → Prop) (b : Nat) (F : List Nat) (w : World) : Prop where
  good : ∀ D, G D → (act D).1 = 0 → G (act D).2
  call : ∃ g fr en, v = .func (.func g) fr en ∧ (∀ args w, (callFunc g args).run Tryz.prog w = .ok (.enter g args) w) ∧
    ∀ W D F', Frm F w W → DiskAt W b D F' → (∀ y ∈ F', y ∈ F ∨ w.heap.size ≤ y) → G D → Calls Tryz.prog g (fr ++ en) W (DRet W b F' (act D))

theorem runActs_step (acts : List (ADisk → Int × ADisk)) (i : Nat) (a : ADisk → Int × ADisk) (D : ADisk) (h : acts[i]? = some a) : runActs (acts.drop i) D = if (a D).1 ≠ 0 then a D else runActs (acts.drop (i + 1)) (a D).2 := by
  obtain ⟨h1, h2⟩ := List.getElem?_eq_some_iff.1 h
  rw [← List.getElem_cons_drop h1, h2]
  rfl

theorem steps_disk (g c : Nat) (cur : Array Value) (T : TypeId) (fz : Nat × Nat) (acts : List (Value × (ADisk → Int × ADisk))) (hn : acts.length ≤ 100) (hcur : ∀ (i : Nat) (x : Value × (ADisk → Int × ADisk)), acts[i]? = some x → cur[i]? = some x.1)
    (G : ADisk → Prop) (b : Nat) (D : ADisk) (F : List Nat) (w : World) (hD : DiskAt w b D F) (hG : G D) (hg : w.heap[g]? = some (.cells cur T fz)) (hgF : g ∉ F)
    (hact : ∀ x ∈ acts, ActV x.1 x.2 G b F w) :
    Calls Tryz.prog 59 #[.slice (some ⟨g, 0, none⟩) acts.length c] w (DRet w b F (runActs (acts.map (·.2)) D)) := by
  have hF := hD.lt
  refine (steps_any g c cur T fz acts.length hn
    (fun i W => W.heap[g]? = some (.cells cur T fz) ∧ ∃ Di F', runActs (acts.map (·.2)) D = runActs ((acts.map (·.2)).drop i) Di ∧ G Di ∧ DiskAt W b Di F' ∧ Frm F w W ∧ ∀ y ∈ F', y ∈ F ∨ w.heap.size ≤ y)
    (fun k W => ∃ D2 F', runActs (acts.map (·.2)) D = (k, D2) ∧ DiskAt W b D2 F' ∧ Frm F w W ∧ ∀ y ∈ F', y ∈ F ∨ w.heap.size ≤ y)
    (fun i W h => h.1) ?_ w ⟨hg, D, F, rfl, hG, hD, Frm.refl _ _, fun _ h => .inl h⟩).mono ?_
  · intro i hi
    obtain ⟨x, hx⟩ : ∃ x, acts[i]? = some x := ⟨_, List.getElem?_eq_getElem hi⟩
    obtain ⟨hgood, gf, fr, en, hv, hent, hcall⟩ := hact x (List.mem_iff_getElem?.2 ⟨i, hx⟩)
    refine ⟨x.1, hcur i x hx, gf, fr, en, hv, hent, ?_⟩
    rintro W ⟨hgW, Di, F', hrun, hGi, hDi, hFr, hFl⟩
    refine (hcall W Di F' hFr hDi hFl hGi).mono ?_
    rintro e W' ⟨rfl, F2, hD2, hf2, hl2⟩
    have hFr2 : Frm F w W' := hFr.trans' hf2 hFl
    have hl3 : ∀ y ∈ F2, y ∈ F ∨ w.heap.size ≤ y := fun y hy => by
      rcases hl2 y hy with h | h
      · exact hFl y h
      · exact .inr (Nat.le_trans hFr.size h)
    have hst := runActs_step (acts.map (·.2)) i x.2 Di (by rw [List.getElem?_map, hx]; rfl)
    have hgn : g ∉ F' := fun h => by
      rcases hFl g h with h | h
      · exact hgF h
      · have := lt_of_block hg; omega
    refine ⟨_, rfl, fun hk => ⟨(x.2 Di).2, F2, ?_, hD2, hFr2, hl3⟩, fun hk => ⟨hf2.blk hgW hgn, (x.2 Di).2, F2, ?_, hgood Di hGi hk, hD2, hFr2, hl3⟩⟩
    · rw [hrun, hst, if_pos hk]
    · rw [hrun, hst, if_neg (by simpa using hk)]
  · rintro e W ⟨k, rfl, hbad, hgood⟩
    by_cases hk : k = 0
    · obtain ⟨_, Di, F', hrun, _, hDi, hFr, hFl⟩ := hgood hk
      rw [List.drop_of_length_le (by simp)] at hrun
      rw [hrun]
      exact ⟨by rw [hk]; rfl, F', hDi, hFr, hFl⟩
    · obtain ⟨D2, F', hrun, hDi, hFr, hFl⟩ := hbad hk
      rw [hrun]
      exact ⟨rfl, F', hDi, hFr, hFl⟩

/-- A slice of bytes of the call's own, as a text. -/
theorem conv_SB {base : Nat} {v : Value} {l : Bytes} (w : World) (h : SB base w v l) : (convert 49 9 v).run Tryz.prog w = .ok (sv l) w := by
  rcases h.2 with ⟨rfl, h0⟩ | ⟨g, cap, cur, rfl, _, hg, _, _, _, htake⟩
  · obtain rfl := List.eq_nil_of_length_eq_zero h0
    rw [run_convert_bytes_nil w 49 5 Tryz.underlying49 Tryz.underlying5 0 0 9 Tryz.underlying9]
    show _ = Result.ok (Value.string (ba [])) w
    rw [ba_nil]
    rfl
  · have hc := World.ownsRow.cells h (g := g) rfl
    rw [run_convert_bytes_arg w 49 5 Tryz.underlying49 Tryz.underlying5 g 0 l.length cap (l.map fun x => (x.toNat : Int)) (by simp) (fun i hi => ?_) 9 Tryz.underlying9]
    · show Result.ok (Value.string _) w = Result.ok (Value.string (ba l)) w
      congr 2
      rw [ba_mk]
      unfold strOfNums
      congr 2
      rw [List.map_map]
      conv => rhs; rw [← List.map_id l]
      exact List.map_congr_left (fun x _ => by simp)
    · have := hc i (u8 l[i]) (by simp [hi])
      simpa [Addr.add_lit, hi] using this

/-- What Open makes of a disk. -/
def openD (D : ADisk) : Int × List Bytes × ADisk :=
  if D.dead then (8, [], D) else match readF (segsF D.files) with
  | none => (10, [], D)
  | some r => match (segsF D.files).getLast? with
    | none => (0, r.1, D)
    | some x => if (runActs [fun D => cutD D x.2.name r.2, logSyncD] D).1 = 0 then (0, r.1, (runActs [fun D => cutD D x.2.name r.2, logSyncD] D).2)
      else ((runActs [fun D => cutD D x.2.name r.2, logSyncD] D).1, [], (runActs [fun D => cutD D x.2.name r.2, logSyncD] D).2)

/-- Open's answer: a log on the disk, and its records; or none. -/
def RetOpen (w : World) (b : Nat) (F : List Nat) (r : Int × List Bytes × ADisk) (en : Ending) (w' : World) : Prop :=
  (∃ F', DiskAt w' b r.2.2 F' ∧ Frm F w w' ∧ (∀ x ∈ F', x ∈ F ∨ w.heap.size ≤ x) ∧
    ((r.1 = 0 ∧ ∃ lb v, en = .returned (.tuple #[.pointer (some ⟨lb, 0, none⟩), v, .int .i64 0]) ∧ LogAt w' lb b ∧ w.heap.size ≤ lb ∧ lb ∉ F' ∧ SS w.heap.size w' v r.2.1 ∧ ∀ g, v.ownBlock = some g → g ∉ F') ∨
     (r.1 ≠ 0 ∧ en = .returned (.tuple #[.pointer none, .slice none 0 0, .int .i64 r.1]))))

/-- What Add makes of a disk. -/
def addD (D : ADisk) (r : Bytes) : Int × ADisk :=
  if r.length = 0 ∨ 65536 < r.length then (6, D) else match (segsF D.files).getLast? with
  | none => appendD D (segName 1) (frameB r)
  | some x => if x.2.bytes.length < 1024 then appendD D x.2.name (frameB r)
    else runActs [logSyncD, fun D => if x.1 = 99999999 then (7, D) else appendD D (segName (x.1 + 1)) (frameB r)] D
def nextSeg (D : ADisk) : Nat := match (segsF D.files).getLast? with | none => 1 | some x => x.1 + 1
/-- What Renew makes of a disk. -/
def renewD (D : ADisk) (rs : List Bytes) : Int × ADisk :=
  if rs.any (fun r => r.length == 0 || decide (65536 < r.length)) then (6, D) else
  runActs ([logSyncD, fun D' => if 99999999 < nextSeg D then (7, D') else appendD D' (segName (nextSeg D)) (frames rs), logSyncD] ++ (segsF D.files).map fun x D' => removeD D' x.2.name) D
theorem runActs_append (l m : List (ADisk → Int × ADisk)) : ∀ D, runActs (l ++ m) D = if (runActs l D).1 ≠ 0 then runActs l D else runActs m (runActs l D).2 := by
  induction l with
  | nil => intro D; simp [runActs]
  | cons a l ih =>
    intro D
    simp only [List.cons_append, runActs]
    by_cases h : (a D).1 ≠ 0
    · simp [h]
    · simp only [h, if_false]
      exact ih _
end Go.Proofs.YtlopfabbjilpnaaGreatDoor
