/- Package log: the segments of a disk. -/
import Derived.Test.YtlopfabbjilpnaaGreatDoorLogA
set_option linter.unusedSimpArgs false
set_option linter.unusedVariables false
namespace Go.Proofs.YtlopfabbjilpnaaGreatDoor
open Go.RowKit

def segC (x : Nat × AFile) : List Value := .int .i64 x.1 :: fileC x.2
def segsF (l : List AFile) : List (Nat × AFile) := l.filterMap fun f => (numberF f.name).map fun n => (n, f)
/-- A slice of segments of the call's own. -/
def SG (base : Nat) (w : World) (v : Value) (l : List (Nat × AFile)) : Prop := w.ownsRow base 115 4 v l.length (l.flatMap segC)
theorem SG_snoc {base : Nat} {w : World} {v : Value} {l : List (Nat × AFile)} {x : Nat × AFile} (h : w.ownsRow base 115 4 v (l.length + 1) (l.flatMap segC ++ segC x)) : SG base w v (l ++ [x]) := by
  unfold SG; simpa using h
theorem elG : El Tryz.prog 106 115 4 48 (.agg #[.int .i64 0, .string ⟨#[]⟩, .string ⟨#[]⟩, .int .i64 0]) := El.mk' Tryz.underlying106 (by kernel_rfl) rfl (by decide)

theorem flat_at {f : AFile} : ∀ {l : List AFile} {i : Nat}, l[i]? = some f → (l.flatMap fileC)[i * 3]? = some (sv f.name) ∧ (l.flatMap fileC)[i * 3 + 1]? = some (sv f.bytes) ∧ (l.flatMap fileC)[i * 3 + 2]? = some (.int .i64 f.synced)
  | [], i, h => by simp at h
  | g :: l, 0, h => by
    simp at h; subst h
    simp [fileC]
  | g :: l, i + 1, h => by
    have := flat_at (l := l) (i := i) (by simpa using h)
    simp only [List.flatMap_cons, fileC, List.cons_append, List.nil_append]
    rw [show (i + 1) * 3 = i * 3 + 1 + 1 + 1 by omega]
    simpa using this
/-- A slice of files of the call's own, read. -/
theorem FS_row {base : Nat} {w : World} {v : Value} {l : List AFile} (h : FS base w v l) :
    ∃ a c, v = .slice a l.length c ∧ ∀ (i : Nat) (f : AFile), l[i]? = some f → ∃ g cur, a = some ⟨g, 0, none⟩ ∧ base ≤ g ∧ w.heap[g]? = some (.cells cur 37 (0, 0)) ∧ cur[i * 3]? = some (sv f.name) ∧ cur[i * 3 + 1]? = some (sv f.bytes) ∧ cur[i * 3 + 2]? = some (.int .i64 f.synced) := by
  rcases h.2 with ⟨rfl, h0⟩ | ⟨g, cap, cur, rfl, h1, h2, h3, h4, h5, h6⟩
  · obtain rfl := List.eq_nil_of_length_eq_zero h0
    exact ⟨_, _, rfl, fun i f hf => by simp at hf⟩
  · refine ⟨_, _, rfl, fun i f hf => ⟨g, cur, rfl, h1, h2, ?_⟩⟩
    have hi : i < l.length := (List.getElem?_eq_some_iff.1 hf).1
    have key : ∀ (k : Nat) (u : Value), k < l.length * 3 → (l.flatMap fileC)[k]? = some u → cur[k]? = some u := fun k u hk hu => by
      rw [← h6, List.getElem?_take_of_lt hk, Array.getElem?_toList] at hu
      exact hu
    obtain ⟨a1, a2, a3⟩ := flat_at hf
    exact ⟨key _ _ (by omega) a1, key _ _ (by omega) a2, key _ _ (by omega) a3⟩

def RetSegs (w : World) (l : List (Nat × AFile)) (en : Ending) (w' : World) : Prop := ∃ v, en = .returned v ∧ SG w.heap.size w' v l ∧ Frm [] w w'

/-- Each name that looks like a segment's is one's. -/
def SegOk (l : List AFile) : Prop := ∀ f ∈ l, isSeg f.name = true → ∃ u, Lib.parseUintB 32 (f.name.drop 1) = .ok u

set_option maxRecDepth 100000 in
set_option maxHeartbeats 1000000 in
theorem segments_any (b : Nat) (D : ADisk) (F : List Nat) (w : World) (hD : DiskAt w b D F) (hk : ∀ f ∈ D.files, f.name.length ≤ 24) (hn : D.files.length ≤ 1000) (hs : SegOk D.files) :
    Calls Tryz.prog 57 #[.pointer (some ⟨b, 0, none⟩)] w (RetSegs w (segsF D.files)) := by
  have hfiles := Files_any b D F w hD hk hn
  have hb := lt_of_block hD.own.choose_spec
  clear hD
  go_enter Tryz.func57, Tryz.ntmps57
  go_wp2_with (go_at_call 16; refine hfiles.mono ?_; rintro e w1 ⟨v, rfl, hrow, hF1⟩; obtain ⟨a0, c0, rfl, hrw⟩ := FS_row hrow)
  have hWz := hF1.size
  go_loopw [3, 5, 11] (fun all x5 p wr => ∃ (i : Nat), p = .int .i64 i ∧ i ≤ D.files.length ∧ SG w1.heap.size wr all (segsF (D.files.take i)) ∧ Frm [] w1 wr)
    (fun _ _ p _ => D.files.length - (intOf p).toNat)
  case atStart => exact ⟨0, rfl, Nat.zero_le _, World.ownsRow_nil _ _ _ _, Frm.refl _ _⟩
  case round =>
    obtain ⟨i, rfl, hi, hall, hFr⟩ := hrel
    by_cases hil : i < D.files.length
    · obtain ⟨f, hf⟩ : ∃ f, D.files[i]? = some f := ⟨_, List.getElem?_eq_getElem hil⟩
      obtain ⟨g, cur, rfl, hWg, hg1, e1, e2, e3⟩ := hrw i f hf
      have hg2 := hFr.blk hg1 (by simp)
      have hfm : f ∈ D.files := List.mem_iff_getElem?.2 ⟨i, hf⟩
      have hno := fun W => numberOf_any f.name (hs f hfm) (by have := hk f hfm; omega) W
      have htk : D.files.take (i + 1) = D.files.take i ++ [f] := by rw [List.take_add_one, hf]; rfl
      obtain ⟨g1, g2, g3, g4⟩ := old_ne (lt_of_block hg2)
      have HI := Lib.hid hil
      have HW := Lib.hid hWz
      have HG := Lib.hid hWg
      clear hrw hfiles hs hk hf hil hWz hWg
      cases hnf : numberF f.name with
      | none =>
        rw [hnf] at hno
        simp only [Option.getD_none, Option.isSome_none] at hno
        have hst : segsF (D.files.take (i + 1)) = segsF (D.files.take i) := by rw [htk]; simp [segsF, hnf]
        have HST := Lib.hid hst
        clear hst htk hnf
        go_wp2_with (go_at_call 93; refine (hno _).mono ?_; rintro e w3 ⟨rfl, hF3⟩)
        have hFr3 : Frm [] w1 w3 := hFr.trans (Frm.trans (by (repeat (first | (with_reducible exact Frm.refl _ _) | assumption | (with_reducible refine Frm.alloc ?_ _) | ((with_reducible refine Frm.setCell ?_ ?_ _); rotate_left; (first | (focus (left; simp; done)) | (focus (right; simp; done)) | (focus (right; simp; omega)))) | ((with_reducible refine Frm.put ?_ _ ?_); rotate_left; (first | (focus (left; simp; done)) | (focus (right; simp; done)) | (focus (right; simp; omega)))) | (with_reducible refine Frm.drew ?_) | (with_reducible refine Frm.drewN ?_ _)))) hF3)
        have hall3 : SG w1.heap.size w3 u3 (segsF (D.files.take i)) := own_frm (own_frm hall ((Frm.refl [] wr).alloc _) (fun _ _ h => by cases h)) hF3 (fun _ _ h => by cases h)
        refine ⟨⟨i + 1, by simp, HI.out, by rw [HST.out]; exact hall3, hFr3⟩, ?_⟩
        have := HI.out
        simp only [intOf]; omega
      | some n =>
        rw [hnf] at hno
        simp only [Option.getD_some, Option.isSome_some] at hno
        have hst : segsF (D.files.take (i + 1)) = segsF (D.files.take i) ++ [(n, f)] := by rw [htk]; simp [segsF, hnf]
        have hln : (segsF (D.files.take i)).length ≤ 1000 := by
          refine Nat.le_trans (List.length_filterMap_le _ _) ?_
          rw [List.length_take]; omega
        have HST := Lib.hid hst
        clear hst htk hnf
        go_wp2_with (first | (go_at_call 93; refine (hno _).mono ?_; rintro e w3 ⟨rfl, hF3⟩; have hfv := hF3.blk (k := wr.heap.size) (o := .cells #[sv f.name, sv f.bytes, .int .i64 f.synced] 37 (0, 0)) (by simp [go_sem]) (by simp); have hall3 : SG w1.heap.size w3 u3 (segsF (D.files.take i)) := own_frm (own_frm hall ((Frm.refl [] wr).alloc _) (fun _ _ h => by cases h)) hF3 (fun _ _ h => by cases h)) | ((with_reducible refine wpList_at (o := ⟨some 27, _, _, _, _, _⟩) ?_); refine wpList_app1 elG rfl (.tmp 22) (.tmp 26) rfl w1.heap.size _ _ _ _ _ hall3 rfl rfl rfl (by simp [Value.oneCell']) (by omega) (by unfold maxLen; omega) (Nat.le_trans (hFr.trans ((Frm.refl [] wr).alloc _)).size hF3.size) ?_; intro v4 W4 hv4 hg4 hnn))
        have hFr3 : Frm [] w1 W4 := by
          refine ((hFr.trans (Frm.trans (by (repeat (first | (with_reducible exact Frm.refl _ _) | assumption | (with_reducible refine Frm.alloc ?_ _) | ((with_reducible refine Frm.setCell ?_ ?_ _); rotate_left; (first | (focus (left; simp; done)) | (focus (right; simp; done)) | (focus (right; simp; omega)))) | ((with_reducible refine Frm.put ?_ _ ?_); rotate_left; (first | (focus (left; simp; done)) | (focus (right; simp; done)) | (focus (right; simp; omega)))) | (with_reducible refine Frm.drew ?_) | (with_reducible refine Frm.drewN ?_ _)))) hF3)).alloc _).grown hg4 (fun k hk => .inr (own_lt hall3 hk).1)
        refine ⟨⟨i + 1, by simp, HI.out, by rw [HST.out]; exact SG_snoc hv4, hFr3⟩, ?_⟩
        have := HI.out
        simp only [intOf]; omega
    · obtain rfl : i = D.files.length := by omega
      clear hrw hfiles hs hk
      go_wp2
      go_ret
      rw [List.take_length] at hall
      exact ⟨_, rfl, own_mono hall hWz, hF1.trans hFr⟩
end Go.Proofs.YtlopfabbjilpnaaGreatDoor
