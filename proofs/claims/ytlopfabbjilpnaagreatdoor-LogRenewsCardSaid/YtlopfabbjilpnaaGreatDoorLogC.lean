/- Package log: read: the records of segments. -/
import Derived.Test.YtlopfabbjilpnaaGreatDoorLogB
set_option linter.unusedSimpArgs false
set_option linter.unusedVariables false
namespace Go.Proofs.YtlopfabbjilpnaaGreatDoor
open Go.RowKit

/-- The records of segments behind one with such a number, and of the ones ahead. -/
def readGo (prev : Option Nat) (recs : List Bytes) (e : Nat) : List (Nat × AFile) → Option (List Bytes × Nat)
  | [] => some (recs, e)
  | (n, f) :: rest =>
    if (match prev with | some p => n != p + 1 | none => false) = true then none
    else if (splitF (f.bytes.take f.synced)).2.2 ≠ 0 ∨ (rest ≠ [] ∧ f.synced < f.bytes.length) then none
    else readGo (some n) (recs ++ (splitF f.bytes).1) (splitF f.bytes).2.1 rest
def readF (l : List (Nat × AFile)) : Option (List Bytes × Nat) := readGo none [] 0 l

def RetRead (w : World) (r : Option (List Bytes × Nat)) (en : Ending) (w' : World) : Prop :=
  match r with
  | none => en = .returned (.tuple #[.slice none 0 0, .int .i64 0, .bool false]) ∧ Frm [] w w'
  | some r => ∃ v, en = .returned (.tuple #[v, .int .i64 r.2, .bool true]) ∧ SS w.heap.size w' v r.1 ∧ Frm [] w w'

theorem segC_at {x : Nat × AFile} : ∀ {l : List (Nat × AFile)} {i : Nat}, l[i]? = some x → (l.flatMap segC)[i * 4]? = some (.int .i64 x.1) ∧ (l.flatMap segC)[i * 4 + 1]? = some (sv x.2.name) ∧ (l.flatMap segC)[i * 4 + 2]? = some (sv x.2.bytes) ∧ (l.flatMap segC)[i * 4 + 3]? = some (.int .i64 x.2.synced)
  | [], i, h => by simp at h
  | g :: l, 0, h => by
    simp at h; subst h
    simp [segC, fileC]
  | g :: l, i + 1, h => by
    have := segC_at (l := l) (i := i) (by simpa using h)
    simp only [List.flatMap_cons, segC, fileC, List.cons_append, List.nil_append]
    rw [show (i + 1) * 4 = i * 4 + 1 + 1 + 1 + 1 by omega]
    simpa [segC, fileC] using this
/-- A slice of segments that can be read. -/
def SegRow (w : World) (a : Option Addr) (l : List (Nat × AFile)) : Prop := ∀ (i : Nat) (x : Nat × AFile), l[i]? = some x → ∃ g cur, a = some ⟨g, 0, none⟩ ∧ w.heap[g]? = some (.cells cur 115 (0, 0)) ∧
  cur[i * 4]? = some (.int .i64 x.1) ∧ cur[i * 4 + 1]? = some (sv x.2.name) ∧ cur[i * 4 + 2]? = some (sv x.2.bytes) ∧ cur[i * 4 + 3]? = some (.int .i64 x.2.synced)
theorem SegRow.frm {w w' : World} {a : Option Addr} {l : List (Nat × AFile)} (h : SegRow w a l) (hf : Frm [] w w') : SegRow w' a l := fun i x hx => by
  obtain ⟨g, cur, h1, h2, h3⟩ := h i x hx
  exact ⟨g, cur, h1, hf.blk h2 (by simp), h3⟩
theorem SG_row {base : Nat} {w : World} {v : Value} {l : List (Nat × AFile)} (h : SG base w v l) : ∃ a c, v = .slice a l.length c ∧ SegRow w a l := by
  rcases h.2 with ⟨rfl, h0⟩ | ⟨g, cap, cur, rfl, h1, h2, h3, h4, h5, h6⟩
  · obtain rfl := List.eq_nil_of_length_eq_zero h0
    exact ⟨_, _, rfl, fun i f hf => by simp at hf⟩
  · refine ⟨_, _, rfl, fun i x hx => ⟨g, cur, rfl, h2, ?_⟩⟩
    have hi : i < l.length := (List.getElem?_eq_some_iff.1 hx).1
    have key : ∀ (k : Nat) (u : Value), k < l.length * 4 → (l.flatMap segC)[k]? = some u → cur[k]? = some u := fun k u hk hu => by
      rw [← h6, List.getElem?_take_of_lt hk, Array.getElem?_toList] at hu
      exact hu
    obtain ⟨a1, a2, a3, a4⟩ := segC_at hx
    exact ⟨key _ _ (by omega) a1, key _ _ (by omega) a2, key _ _ (by omega) a3, key _ _ (by omega) a4⟩

/-- Sound segments: no more is synced than there is; not too many bytes in all. -/
structure SegsOk (l : List (Nat × AFile)) : Prop where
  num : l.length ≤ 1000
  syn : ∀ x ∈ l, x.2.synced ≤ x.2.bytes.length
  len : ∀ x ∈ l, x.2.bytes.length ≤ 4294967296
  no : ∀ x ∈ l, x.1 ≤ 4294967296

theorem SS_src {base : Nat} {w : World} {v : Value} {l : List Bytes} (h : SS base w v l) : Src Tryz.prog 1 42 v l.length (l.map sv) w := by
  have h' := h
  rcases h.2 with ⟨rfl, h0⟩ | ⟨g, cap, cur, rfl, _, hg, _⟩
  · obtain rfl := List.eq_nil_of_length_eq_zero h0
    exact Src.ofNil w elS.ht 0
  · exact Src.ofSlice w elS.ht ⟨g, 0, none⟩ _ _ _ (by simp) (World.ownsRow.cells h' (g := g) rfl) (fun u hu => by obtain ⟨_, _, rfl⟩ := List.mem_map.1 hu; rfl)
theorem SS_app {base : Nat} {w : World} {v : Value} {l r : List Bytes} (h : w.ownsRow base 9 1 v (l.length + r.length) (l.map sv ++ r.map sv)) : SS base w v (l ++ r) := by
  unfold SS; simpa using h

set_option maxRecDepth 100000 in
set_option maxHeartbeats 1000000 in
theorem read_any (a : Option Addr) (c : Nat) (l : List (Nat × AFile)) (w : World) (hr : SegRow w a l) (hok : SegsOk l) :
    Calls Tryz.prog 58 #[.slice a l.length c] w (RetRead w (readF l)) := by
  have hn := hok.num
  go_enter Tryz.func58, Tryz.ntmps58
  go_wp2
  go_loopw [5, 6, 7, 8, 9, 10, 11, 12, 15] (fun recs e x7 x8 x9 x10 x11 x12 p wr => ∃ (i : Nat) (rs : List Bytes) (en : Nat), p = .int .i64 i ∧ i ≤ l.length ∧ e = .int .i64 en ∧ rs.length ≤ i * 4294967296 ∧ SS w.heap.size wr recs rs ∧ Frm [] w wr ∧
      readF l = readGo (if i = 0 then none else (l[i - 1]?).map (·.1)) rs en (l.drop i))
    (fun _ _ _ _ _ _ _ _ p _ => l.length - (intOf p).toNat)
  case atStart => exact ⟨0, [], 0, rfl, Nat.zero_le _, rfl, by simp, World.ownsRow_nil _ _ _ _, Frm.refl _ _, rfl⟩
  case round =>
    obtain ⟨i, rs, en, rfl, hi, rfl, hrl, hrecs, hFr, hread⟩ := hrel
    by_cases hil : i < l.length
    · obtain ⟨⟨n, f⟩, hf⟩ : ∃ f, l[i]? = some f := ⟨_, List.getElem?_eq_getElem hil⟩
      have hfm : (n, f) ∈ l := List.mem_iff_getElem?.2 ⟨i, hf⟩
      obtain ⟨g, cur, rfl, hg, e0, e1, e2, e3⟩ := (hr.frm hFr) i (n, f) hf
      have hsy := hok.syn _ hfm
      have hln := hok.len _ hfm
      have hno := hok.no _ hfm
      have hdrop : l.drop i = (n, f) :: l.drop (i + 1) := by
        obtain ⟨h1, h2⟩ := List.getElem?_eq_some_iff.1 hf
        rw [← h2, List.getElem_cons_drop]
      have hsp1 := fun W => Split_any (f.bytes.take f.synced) W (by rw [List.length_take]; simp only at hln; omega)
      have hsp2 := fun W => Split_any f.bytes W (by simp only at hln; omega)
      rw [hdrop] at hread
      cases i with
      | zero =>
        simp only [if_true] at hread
        clear hdrop
        obtain ⟨r1, m1, e1', hsp⟩ : ∃ r m e, splitF (f.bytes.take f.synced) = (r, m, e) := ⟨_, _, _, rfl⟩
        rw [hsp] at hsp1
        by_cases he : e1' = 0
        · subst he
          by_cases hc : 1 < l.length ∧ f.synced < f.bytes.length
          · obtain ⟨hc1, hc2⟩ := hc
            have hR : readF l = none := by rw [hread, readGo, if_neg (by simp), if_pos (.inr ⟨by rw [Ne, List.drop_eq_nil_iff]; omega, hc2⟩)]
            have HR := Lib.hid hR
            have t4 : decide ((0 : Int) < (l.length : Int) - 1) = true := dec_yes (by omega)
            have t4' : (1 : Int) < (l.length : Int) := by omega
            have t5 : decide (f.synced < f.bytes.length) = true := dec_yes hc2
            clear hR hread hsp hsp2 hok hr hrl hc1 hc2
            go_wp2
            go_quiet (fail)
            go_wp2_with (go_at_call 94; refine (hsp1 _).mono ?_; rintro e w3 ⟨v3, rfl, hs3, hF3⟩; have hg3 := hF3.blk (k := wr.heap.size) (o := .cells #[.int .i64 n, sv f.name, sv f.bytes, .int .i64 f.synced] 115 (0, 0)) (by simp [go_sem]; try omega) (by simp); clear hsp1)
            go_ret3
            rw [HR.out]
            exact ⟨rfl, hFr.trans (Frm.trans (by (repeat (first | (with_reducible exact Frm.refl _ _) | assumption | (with_reducible refine Frm.alloc ?_ _) | ((with_reducible refine Frm.setCell ?_ ?_ _); rotate_left; (first | (focus (left; simp; done)) | (focus (right; simp; done)) | (focus (right; simp; omega)))) | ((with_reducible refine Frm.put ?_ _ ?_); rotate_left; (first | (focus (left; simp; done)) | (focus (right; simp; done)) | (focus (right; simp; omega)))) | (with_reducible refine Frm.drew ?_) | (with_reducible refine Frm.drewN ?_ _)))) hF3)⟩
          · by_cases hc1 : 1 < l.length
            · have hc2 : ¬ f.synced < f.bytes.length := fun h => hc ⟨hc1, h⟩
              have t4 : decide ((0 : Int) < (l.length : Int) - 1) = true := dec_yes (by omega)
              have t4' : (1 : Int) < (l.length : Int) := by omega
              have t5 : decide (f.synced < f.bytes.length) = false := dec_no hc2
              have hR : readF l = readGo (some n) (rs ++ (splitF f.bytes).1) (splitF f.bytes).2.1 (l.drop (1)) := by rw [hread, readGo, if_neg (by simp), if_neg (by rw [hsp]; rintro (h | ⟨h1, h2⟩); exact h rfl; exact hc ⟨by rw [Ne, List.drop_eq_nil_iff] at h1; omega, h2⟩)]
              have hl2 : (splitF f.bytes).1.length ≤ 4294967296 := by simp only [splitF, List.length_map]; exact Nat.le_trans (framesF_len _ _ _) hln
              have HR := Lib.hid hR
              clear hR hread hsp hc hc1 hc2
              go_wp2
              go_quiet (fail)
              go_wp2_with (first | (go_at_call 94; refine (hsp1 _).mono ?_; rintro e w3 ⟨v3, rfl, hs3, hF3⟩; have hg3 := hF3.blk (k := wr.heap.size) (o := .cells #[.int .i64 n, sv f.name, sv f.bytes, .int .i64 f.synced] 115 (0, 0)) (by simp [go_sem]; try omega) (by simp); clear hsp1) | (go_at_call 94; refine (hsp2 _).mono ?_; rintro e w4 ⟨v4, rfl, hs4, hF4⟩; have hF34 : Frm [] wr w4 := Frm.trans (Frm.trans (by (repeat (first | (with_reducible exact Frm.refl _ _) | assumption | (with_reducible refine Frm.alloc ?_ _) | ((with_reducible refine Frm.setCell ?_ ?_ _); rotate_left; (first | (focus (left; simp; done)) | (focus (right; simp; done)) | (focus (right; simp; omega)))) | ((with_reducible refine Frm.put ?_ _ ?_); rotate_left; (first | (focus (left; simp; done)) | (focus (right; simp; done)) | (focus (right; simp; omega)))) | (with_reducible refine Frm.drew ?_) | (with_reducible refine Frm.drewN ?_ _)))) hF3) (Frm.trans (by (repeat (first | (with_reducible exact Frm.refl _ _) | assumption | (with_reducible refine Frm.alloc ?_ _) | ((with_reducible refine Frm.setCell ?_ ?_ _); rotate_left; (first | (focus (left; simp; done)) | (focus (right; simp; done)) | (focus (right; simp; omega)))) | ((with_reducible refine Frm.put ?_ _ ?_); rotate_left; (first | (focus (left; simp; done)) | (focus (right; simp; done)) | (focus (right; simp; omega)))) | (with_reducible refine Frm.drew ?_) | (with_reducible refine Frm.drewN ?_ _)))) hF4); have hrec4 : SS w.heap.size w4 u5 rs := own_frm hrecs hF34 (fun _ _ h => by cases h)) | ((with_reducible refine wpList_at (o := ⟨some 75, _, _, _, _, _⟩) ?_); refine wpList_app elS rfl (.tmp 73) (.tmp 74) 42 rfl w.heap.size _ _ _ hrec4 rfl _ _ _ rfl (SS_src hs4) (by unfold maxLen; omega) (by omega) (Nat.le_trans hFr.size hF34.size) ?_; intro v5 w5 hv5 hg5 _))
              have hF5 : Frm [] w w5 := (hFr.trans hF34).grown hg5 (fun k hk => .inr (own_lt hrec4 hk).1)
              refine ⟨⟨1, rs ++ (splitF f.bytes).1, _, by simp, by omega, rfl, by rw [List.length_append]; omega, SS_app hv5, hF5, ?_⟩, by simp only [intOf]; omega⟩
              rw [HR.out, if_neg (by omega)]
              show _ = readGo (Option.map _ l[0]?) _ _ _
              rw [hf]; rfl
            · have t4' : ((1 : Int) < (l.length : Int)) = False := by simp; omega
              have hR : readF l = readGo (some n) (rs ++ (splitF f.bytes).1) (splitF f.bytes).2.1 (l.drop (1)) := by rw [hread, readGo, if_neg (by simp), if_neg (by rw [hsp]; rintro (h | ⟨h1, h2⟩); exact h rfl; exact hc ⟨by rw [Ne, List.drop_eq_nil_iff] at h1; omega, h2⟩)]
              have hl2 : (splitF f.bytes).1.length ≤ 4294967296 := by simp only [splitF, List.length_map]; exact Nat.le_trans (framesF_len _ _ _) hln
              have HR := Lib.hid hR
              clear hR hread hsp hc hc1
              go_wp2
              go_quiet (fail)
              go_wp2_with (first | (go_at_call 94; refine (hsp1 _).mono ?_; rintro e w3 ⟨v3, rfl, hs3, hF3⟩; have hg3 := hF3.blk (k := wr.heap.size) (o := .cells #[.int .i64 n, sv f.name, sv f.bytes, .int .i64 f.synced] 115 (0, 0)) (by simp [go_sem]; try omega) (by simp); clear hsp1) | (go_at_call 94; refine (hsp2 _).mono ?_; rintro e w4 ⟨v4, rfl, hs4, hF4⟩; have hF34 : Frm [] wr w4 := Frm.trans (Frm.trans (by (repeat (first | (with_reducible exact Frm.refl _ _) | assumption | (with_reducible refine Frm.alloc ?_ _) | ((with_reducible refine Frm.setCell ?_ ?_ _); rotate_left; (first | (focus (left; simp; done)) | (focus (right; simp; done)) | (focus (right; simp; omega)))) | ((with_reducible refine Frm.put ?_ _ ?_); rotate_left; (first | (focus (left; simp; done)) | (focus (right; simp; done)) | (focus (right; simp; omega)))) | (with_reducible refine Frm.drew ?_) | (with_reducible refine Frm.drewN ?_ _)))) hF3) (Frm.trans (by (repeat (first | (with_reducible exact Frm.refl _ _) | assumption | (with_reducible refine Frm.alloc ?_ _) | ((with_reducible refine Frm.setCell ?_ ?_ _); rotate_left; (first | (focus (left; simp; done)) | (focus (right; simp; done)) | (focus (right; simp; omega)))) | ((with_reducible refine Frm.put ?_ _ ?_); rotate_left; (first | (focus (left; simp; done)) | (focus (right; simp; done)) | (focus (right; simp; omega)))) | (with_reducible refine Frm.drew ?_) | (with_reducible refine Frm.drewN ?_ _)))) hF4); have hrec4 : SS w.heap.size w4 u5 rs := own_frm hrecs hF34 (fun _ _ h => by cases h)) | ((with_reducible refine wpList_at (o := ⟨some 75, _, _, _, _, _⟩) ?_); refine wpList_app elS rfl (.tmp 73) (.tmp 74) 42 rfl w.heap.size _ _ _ hrec4 rfl _ _ _ rfl (SS_src hs4) (by unfold maxLen; omega) (by omega) (Nat.le_trans hFr.size hF34.size) ?_; intro v5 w5 hv5 hg5 _))
              have hF5 : Frm [] w w5 := (hFr.trans hF34).grown hg5 (fun k hk => .inr (own_lt hrec4 hk).1)
              refine ⟨⟨1, rs ++ (splitF f.bytes).1, _, by simp, by omega, rfl, by rw [List.length_append]; omega, SS_app hv5, hF5, ?_⟩, by simp only [intOf]; omega⟩
              rw [HR.out, if_neg (by omega)]
              show _ = readGo (Option.map _ l[0]?) _ _ _
              rw [hf]; rfl
        · have hR : readF l = none := by rw [hread, readGo, if_neg (by simp), if_pos (.inl (by rw [hsp]; exact he))]
          have HR := Lib.hid hR
          have t3 : (e1' != 0) = true := by simpa using he
          clear hR hread hsp he hsp2 hok hr hrl
          go_wp2
          go_quiet (fail)
          go_wp2_with (go_at_call 94; refine (hsp1 _).mono ?_; rintro e w3 ⟨v3, rfl, hs3, hF3⟩; have hg3 := hF3.blk (k := wr.heap.size) (o := .cells #[.int .i64 n, sv f.name, sv f.bytes, .int .i64 f.synced] 115 (0, 0)) (by simp [go_sem]; try omega) (by simp); clear hsp1)
          go_ret3
          rw [HR.out]
          exact ⟨rfl, hFr.trans (Frm.trans (by (repeat (first | (with_reducible exact Frm.refl _ _) | assumption | (with_reducible refine Frm.alloc ?_ _) | ((with_reducible refine Frm.setCell ?_ ?_ _); rotate_left; (first | (focus (left; simp; done)) | (focus (right; simp; done)) | (focus (right; simp; omega)))) | ((with_reducible refine Frm.put ?_ _ ?_); rotate_left; (first | (focus (left; simp; done)) | (focus (right; simp; done)) | (focus (right; simp; omega)))) | (with_reducible refine Frm.drew ?_) | (with_reducible refine Frm.drewN ?_ _)))) hF3)⟩
      | succ k =>
        obtain ⟨⟨n', f'⟩, hf'⟩ : ∃ x, l[k]? = some x := ⟨_, List.getElem?_eq_getElem (by omega)⟩
        obtain ⟨g', cur', hgg, hg', p0, _⟩ := (hr.frm hFr) k (n', f') hf'
        cases hgg
        have hcc := hg'.symm.trans hg
        cases hcc
        clear hg'
        have hno' := hok.no _ (List.mem_iff_getElem?.2 ⟨k, hf'⟩)
        simp only at hno' p0
        rw [if_neg (by omega), Nat.add_sub_cancel, hf'] at hread
        simp only [Option.map_some] at hread
        have t0 : (0 : Int) < (k : Int) + 1 := by omega
        have hkl : k < l.length := by omega
        by_cases hnum : n = n' + 1
        · have t6 : ((n : Int) != (n' : Int) + 1) = false := by simp; omega
          clear hdrop
          obtain ⟨r1, m1, e1', hsp⟩ : ∃ r m e, splitF (f.bytes.take f.synced) = (r, m, e) := ⟨_, _, _, rfl⟩
          rw [hsp] at hsp1
          by_cases he : e1' = 0
          · subst he
            by_cases hc : k + 1 + 1 < l.length ∧ f.synced < f.bytes.length
            · obtain ⟨hc1, hc2⟩ := hc
              have hR : readF l = none := by rw [hread, readGo, if_neg (by simp [hnum]), if_pos (.inr ⟨by rw [Ne, List.drop_eq_nil_iff]; omega, hc2⟩)]
              have HR := Lib.hid hR
              have t4 : decide ((k : Int) + 1 < (l.length : Int) - 1) = true := dec_yes (by omega)
              have t4' : (k : Int) + 1 + 1 < (l.length : Int) := by omega
              have t5 : decide (f.synced < f.bytes.length) = true := dec_yes hc2
              clear hR hread hsp hsp2 hok hr hrl hc1 hc2
              go_wp2
              go_quiet (fail)
              go_wp2_with (go_at_call 94; refine (hsp1 _).mono ?_; rintro e w3 ⟨v3, rfl, hs3, hF3⟩; have hg3 := hF3.blk (k := wr.heap.size) (o := .cells #[.int .i64 n, sv f.name, sv f.bytes, .int .i64 f.synced] 115 (0, 0)) (by simp [go_sem]; try omega) (by simp); clear hsp1)
              go_ret3
              rw [HR.out]
              exact ⟨rfl, hFr.trans (Frm.trans (by (repeat (first | (with_reducible exact Frm.refl _ _) | assumption | (with_reducible refine Frm.alloc ?_ _) | ((with_reducible refine Frm.setCell ?_ ?_ _); rotate_left; (first | (focus (left; simp; done)) | (focus (right; simp; done)) | (focus (right; simp; omega)))) | ((with_reducible refine Frm.put ?_ _ ?_); rotate_left; (first | (focus (left; simp; done)) | (focus (right; simp; done)) | (focus (right; simp; omega)))) | (with_reducible refine Frm.drew ?_) | (with_reducible refine Frm.drewN ?_ _)))) hF3)⟩
            · by_cases hc1 : k + 1 + 1 < l.length
              · have hc2 : ¬ f.synced < f.bytes.length := fun h => hc ⟨hc1, h⟩
                have t4 : decide ((k : Int) + 1 < (l.length : Int) - 1) = true := dec_yes (by omega)
                have t4' : (k : Int) + 1 + 1 < (l.length : Int) := by omega
                have t5 : decide (f.synced < f.bytes.length) = false := dec_no hc2
                have hR : readF l = readGo (some n) (rs ++ (splitF f.bytes).1) (splitF f.bytes).2.1 (l.drop (k + 1 + 1)) := by rw [hread, readGo, if_neg (by simp [hnum]), if_neg (by rw [hsp]; rintro (h | ⟨h1, h2⟩); exact h rfl; exact hc ⟨by rw [Ne, List.drop_eq_nil_iff] at h1; omega, h2⟩)]
                have hl2 : (splitF f.bytes).1.length ≤ 4294967296 := by simp only [splitF, List.length_map]; exact Nat.le_trans (framesF_len _ _ _) hln
                have HR := Lib.hid hR
                clear hR hread hsp hc hc1 hc2
                go_wp2
                go_quiet (fail)
                go_wp2_with (first | (go_at_call 94; refine (hsp1 _).mono ?_; rintro e w3 ⟨v3, rfl, hs3, hF3⟩; have hg3 := hF3.blk (k := wr.heap.size) (o := .cells #[.int .i64 n, sv f.name, sv f.bytes, .int .i64 f.synced] 115 (0, 0)) (by simp [go_sem]; try omega) (by simp); clear hsp1) | (go_at_call 94; refine (hsp2 _).mono ?_; rintro e w4 ⟨v4, rfl, hs4, hF4⟩; have hF34 : Frm [] wr w4 := Frm.trans (Frm.trans (by (repeat (first | (with_reducible exact Frm.refl _ _) | assumption | (with_reducible refine Frm.alloc ?_ _) | ((with_reducible refine Frm.setCell ?_ ?_ _); rotate_left; (first | (focus (left; simp; done)) | (focus (right; simp; done)) | (focus (right; simp; omega)))) | ((with_reducible refine Frm.put ?_ _ ?_); rotate_left; (first | (focus (left; simp; done)) | (focus (right; simp; done)) | (focus (right; simp; omega)))) | (with_reducible refine Frm.drew ?_) | (with_reducible refine Frm.drewN ?_ _)))) hF3) (Frm.trans (by (repeat (first | (with_reducible exact Frm.refl _ _) | assumption | (with_reducible refine Frm.alloc ?_ _) | ((with_reducible refine Frm.setCell ?_ ?_ _); rotate_left; (first | (focus (left; simp; done)) | (focus (right; simp; done)) | (focus (right; simp; omega)))) | ((with_reducible refine Frm.put ?_ _ ?_); rotate_left; (first | (focus (left; simp; done)) | (focus (right; simp; done)) | (focus (right; simp; omega)))) | (with_reducible refine Frm.drew ?_) | (with_reducible refine Frm.drewN ?_ _)))) hF4); have hrec4 : SS w.heap.size w4 u5 rs := own_frm hrecs hF34 (fun _ _ h => by cases h)) | ((with_reducible refine wpList_at (o := ⟨some 75, _, _, _, _, _⟩) ?_); refine wpList_app elS rfl (.tmp 73) (.tmp 74) 42 rfl w.heap.size _ _ _ hrec4 rfl _ _ _ rfl (SS_src hs4) (by unfold maxLen; omega) (by omega) (Nat.le_trans hFr.size hF34.size) ?_; intro v5 w5 hv5 hg5 _))
                have hF5 : Frm [] w w5 := (hFr.trans hF34).grown hg5 (fun k hk => .inr (own_lt hrec4 hk).1)
                refine ⟨⟨k + 1 + 1, rs ++ (splitF f.bytes).1, _, by simp, by omega, rfl, by rw [List.length_append]; omega, SS_app hv5, hF5, ?_⟩, by simp only [intOf]; omega⟩
                rw [HR.out, if_neg (by omega)]
                show _ = readGo (Option.map _ l[k + 1]?) _ _ _
                rw [hf]; rfl
              · have t4 : decide ((k : Int) + 1 < (l.length : Int) - 1) = false := dec_no (by omega)
                have hR : readF l = readGo (some n) (rs ++ (splitF f.bytes).1) (splitF f.bytes).2.1 (l.drop (k + 1 + 1)) := by rw [hread, readGo, if_neg (by simp [hnum]), if_neg (by rw [hsp]; rintro (h | ⟨h1, h2⟩); exact h rfl; exact hc ⟨by rw [Ne, List.drop_eq_nil_iff] at h1; omega, h2⟩)]
                have hl2 : (splitF f.bytes).1.length ≤ 4294967296 := by simp only [splitF, List.length_map]; exact Nat.le_trans (framesF_len _ _ _) hln
                have HR := Lib.hid hR
                clear hR hread hsp hc hc1
                go_wp2
                go_quiet (fail)
                go_wp2_with (first | (go_at_call 94; refine (hsp1 _).mono ?_; rintro e w3 ⟨v3, rfl, hs3, hF3⟩; have hg3 := hF3.blk (k := wr.heap.size) (o := .cells #[.int .i64 n, sv f.name, sv f.bytes, .int .i64 f.synced] 115 (0, 0)) (by simp [go_sem]; try omega) (by simp); clear hsp1) | (go_at_call 94; refine (hsp2 _).mono ?_; rintro e w4 ⟨v4, rfl, hs4, hF4⟩; have hF34 : Frm [] wr w4 := Frm.trans (Frm.trans (by (repeat (first | (with_reducible exact Frm.refl _ _) | assumption | (with_reducible refine Frm.alloc ?_ _) | ((with_reducible refine Frm.setCell ?_ ?_ _); rotate_left; (first | (focus (left; simp; done)) | (focus (right; simp; done)) | (focus (right; simp; omega)))) | ((with_reducible refine Frm.put ?_ _ ?_); rotate_left; (first | (focus (left; simp; done)) | (focus (right; simp; done)) | (focus (right; simp; omega)))) | (with_reducible refine Frm.drew ?_) | (with_reducible refine Frm.drewN ?_ _)))) hF3) (Frm.trans (by (repeat (first | (with_reducible exact Frm.refl _ _) | assumption | (with_reducible refine Frm.alloc ?_ _) | ((with_reducible refine Frm.setCell ?_ ?_ _); rotate_left; (first | (focus (left; simp; done)) | (focus (right; simp; done)) | (focus (right; simp; omega)))) | ((with_reducible refine Frm.put ?_ _ ?_); rotate_left; (first | (focus (left; simp; done)) | (focus (right; simp; done)) | (focus (right; simp; omega)))) | (with_reducible refine Frm.drew ?_) | (with_reducible refine Frm.drewN ?_ _)))) hF4); have hrec4 : SS w.heap.size w4 u5 rs := own_frm hrecs hF34 (fun _ _ h => by cases h)) | ((with_reducible refine wpList_at (o := ⟨some 75, _, _, _, _, _⟩) ?_); refine wpList_app elS rfl (.tmp 73) (.tmp 74) 42 rfl w.heap.size _ _ _ hrec4 rfl _ _ _ rfl (SS_src hs4) (by unfold maxLen; omega) (by omega) (Nat.le_trans hFr.size hF34.size) ?_; intro v5 w5 hv5 hg5 _))
                have hF5 : Frm [] w w5 := (hFr.trans hF34).grown hg5 (fun k hk => .inr (own_lt hrec4 hk).1)
                refine ⟨⟨k + 1 + 1, rs ++ (splitF f.bytes).1, _, by simp, by omega, rfl, by rw [List.length_append]; omega, SS_app hv5, hF5, ?_⟩, by simp only [intOf]; omega⟩
                rw [HR.out, if_neg (by omega)]
                show _ = readGo (Option.map _ l[k + 1]?) _ _ _
                rw [hf]; rfl
          · have hR : readF l = none := by rw [hread, readGo, if_neg (by simp [hnum]), if_pos (.inl (by rw [hsp]; exact he))]
            have HR := Lib.hid hR
            have t3 : (e1' != 0) = true := by simpa using he
            clear hR hread hsp he hsp2 hok hr hrl
            go_wp2
            go_quiet (fail)
            go_wp2_with (go_at_call 94; refine (hsp1 _).mono ?_; rintro e w3 ⟨v3, rfl, hs3, hF3⟩; have hg3 := hF3.blk (k := wr.heap.size) (o := .cells #[.int .i64 n, sv f.name, sv f.bytes, .int .i64 f.synced] 115 (0, 0)) (by simp [go_sem]; try omega) (by simp); clear hsp1)
            go_ret3
            rw [HR.out]
            exact ⟨rfl, hFr.trans (Frm.trans (by (repeat (first | (with_reducible exact Frm.refl _ _) | assumption | (with_reducible refine Frm.alloc ?_ _) | ((with_reducible refine Frm.setCell ?_ ?_ _); rotate_left; (first | (focus (left; simp; done)) | (focus (right; simp; done)) | (focus (right; simp; omega)))) | ((with_reducible refine Frm.put ?_ _ ?_); rotate_left; (first | (focus (left; simp; done)) | (focus (right; simp; done)) | (focus (right; simp; omega)))) | (with_reducible refine Frm.drew ?_) | (with_reducible refine Frm.drewN ?_ _)))) hF3)⟩
        · have hR : readF l = none := by rw [hread, readGo, if_pos (by simp [hnum])]
          have HR := Lib.hid hR
          have t6 : ((n : Int) != (n' : Int) + 1) = true := by simp; omega
          clear hR hread hdrop hsp1 hsp2 hok hr hrl hnum
          go_wp2
          go_quiet (fail)
          go_wp2
          go_ret3
          rw [HR.out]
          exact ⟨rfl, hFr.trans (by (repeat (first | (with_reducible exact Frm.refl _ _) | assumption | (with_reducible refine Frm.alloc ?_ _) | ((with_reducible refine Frm.setCell ?_ ?_ _); rotate_left; (first | (focus (left; simp; done)) | (focus (right; simp; done)) | (focus (right; simp; omega)))) | ((with_reducible refine Frm.put ?_ _ ?_); rotate_left; (first | (focus (left; simp; done)) | (focus (right; simp; done)) | (focus (right; simp; omega)))) | (with_reducible refine Frm.drew ?_) | (with_reducible refine Frm.drewN ?_ _))))⟩
    · obtain rfl : i = l.length := by omega
      rw [List.drop_length] at hread
      have hR : readF l = some (rs, en) := hread
      clear hr hok hread
      go_wp2
      go_ret3
      rw [hR]
      exact ⟨_, rfl, hrecs, hFr⟩
end Go.Proofs.YtlopfabbjilpnaaGreatDoor
