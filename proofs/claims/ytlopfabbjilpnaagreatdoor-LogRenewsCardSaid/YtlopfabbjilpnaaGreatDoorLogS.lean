/- Logs as plain data: segments one behind the other, of whole frames but for the last one; what Open, Add, Renew make of such. -/
import Derived.Test.YtlopfabbjilpnaaGreatDoorLogG
set_option linter.unusedSimpArgs false
set_option linter.unusedVariables false
namespace Go.Proofs.YtlopfabbjilpnaaGreatDoor

theorem segName_up : (List.range 100).all (fun n => decide (segName n < segName (n + 1))) = true := by decide +kernel
theorem segName_lt1 (n : Nat) (h : n < 100) : segName n < segName (n + 1) := by simpa using List.all_eq_true.1 segName_up n (by simp [h])
theorem segName_lt (a k : Nat) (h : a + k + 1 < 101) : segName a < segName (a + k + 1) := by
  induction k with
  | zero => exact segName_lt1 a (by omega)
  | succ k ih => exact bytes_lt_trans (ih (by omega)) (segName_lt1 (a + k + 1) (by omega))
theorem segName_lt' {a b : Nat} (h : a < b) (hb : b ≤ 100) : segName a < segName b := by
  obtain ⟨k, rfl⟩ : ∃ k, b = a + k + 1 := ⟨b - a - 1, by omega⟩
  exact segName_lt a k (by omega)

/-- Segments of these bytes, from a number on. -/
def segFiles : Nat → List (Bytes × Nat) → List AFile
  | _, [] => []
  | k, x :: l => ⟨segName k, x.1, x.2⟩ :: segFiles (k + 1) l
def numbered : Nat → List (Bytes × Nat) → List (Nat × AFile)
  | _, [] => []
  | k, x :: l => (k, ⟨segName k, x.1, x.2⟩) :: numbered (k + 1) l
theorem segFiles_append : ∀ (k : Nat) (l m : List (Bytes × Nat)), segFiles k (l ++ m) = segFiles k l ++ segFiles (k + l.length) m
  | k, [], m => rfl
  | k, x :: l, m => by
    rw [List.cons_append, segFiles, segFiles, List.cons_append, segFiles_append, List.length_cons, show k + 1 + l.length = k + (l.length + 1) by omega]
theorem numbered_append : ∀ (k : Nat) (l m : List (Bytes × Nat)), numbered k (l ++ m) = numbered k l ++ numbered (k + l.length) m
  | k, [], m => rfl
  | k, x :: l, m => by
    rw [List.cons_append, numbered, numbered, List.cons_append, numbered_append, List.length_cons, show k + 1 + l.length = k + (l.length + 1) by omega]
theorem numbered_len : ∀ (k : Nat) (l : List (Bytes × Nat)), (numbered k l).length = l.length
  | _, [] => rfl
  | k, x :: l => by rw [numbered, List.length_cons, numbered_len, List.length_cons]
theorem segFiles_len : ∀ (k : Nat) (l : List (Bytes × Nat)), (segFiles k l).length = l.length
  | _, [] => rfl
  | k, x :: l => by rw [segFiles, List.length_cons, segFiles_len, List.length_cons]
theorem segsF_segFiles : ∀ (k : Nat) (l : List (Bytes × Nat)), 0 < k → k + l.length ≤ 100 → segsF (segFiles k l) = numbered k l
  | _, [], _, _ => rfl
  | k, x :: l, h0, h => by
    simp only [List.length_cons] at h
    have := segsF_segFiles (k + 1) l (by omega) (by omega)
    unfold segsF at this ⊢
    rw [segFiles, List.filterMap_cons_some (b := (k, ⟨segName k, x.1, x.2⟩)), this, numbered]
    rw [numberF_name k (by omega) h0]; rfl
theorem segFiles_names : ∀ (k : Nat) (l : List (Bytes × Nat)) (f : AFile), f ∈ segFiles k l → ∃ i, k ≤ i ∧ i < k + l.length ∧ f.name = segName i
  | _, [], _, h => by cases h
  | k, x :: l, f, h => by
    rcases List.mem_cons.1 h with rfl | h
    · exact ⟨k, Nat.le_refl _, by simp, rfl⟩
    · obtain ⟨i, h1, h2, h3⟩ := segFiles_names (k + 1) l f h
      exact ⟨i, by omega, by simp; omega, h3⟩

theorem getF_append_last {l : List AFile} {f : AFile} (h : ∀ g ∈ l, g.name ≠ f.name) : getF (l ++ [f]) f.name = some f := by
  unfold getF
  rw [List.find?_append, List.find?_eq_none.2 (fun g hg => by simpa using h g hg)]
  simp
theorem setF_append_last {l : List AFile} {f f' : AFile} (hn : f'.name = f.name) (h : ∀ g ∈ l, g.name ≠ f.name) : setF (l ++ [f]) f' = l ++ [f'] := by
  unfold setF
  rw [List.map_append]
  congr 1
  · conv => rhs; rw [← List.map_id l]
    exact List.map_congr_left fun g hg => by rw [if_neg (by rw [hn]; exact h g hg)]; rfl
  · simp [hn]
theorem insF_last {l : List AFile} {f : AFile} (h : ∀ g ∈ l, g.name < f.name) : insF f l = l ++ [f] := by
  induction l with
  | nil => rfl
  | cons g l ih =>
    have hg := h g (by simp)
    unfold insF
    rw [if_neg (fun h2 => bytes_lt_irrefl _ (bytes_lt_trans hg h2)), ih (fun x hx => h x (by simp [hx]))]
    rfl
theorem getF_none_last {l : List AFile} {n : Bytes} (h : ∀ g ∈ l, g.name < n) : getF l n = none :=
  getF_none_of fun f hf e => bytes_lt_irrefl n (by have := h f hf; rwa [e] at this)

/-- Whole segments of records. -/
def fullC (c : List Bytes) : Bytes × Nat := (frames c, (frames c).length)
/-- A disk whose files are segments of records, from k on: whole ones, and a last one. -/
structure LogD (D : ADisk) (k : Nat) (cs : List (List Bytes)) (last : Bytes × Nat) : Prop where
  files : D.files = segFiles k (cs.map fullC ++ [last])
  k0 : 0 < k
  k1 : k + cs.length < 100

theorem LogD.files' {D : ADisk} {k : Nat} {cs : List (List Bytes)} {last : Bytes × Nat} (h : LogD D k cs last) : D.files = segFiles k (cs.map fullC) ++ [⟨segName (k + cs.length), last.1, last.2⟩] := by
  rw [h.files, segFiles_append, List.length_map]; rfl
theorem LogD.segs {D : ADisk} {k : Nat} {cs : List (List Bytes)} {last : Bytes × Nat} (h : LogD D k cs last) : segsF D.files = numbered k (cs.map fullC) ++ [(k + cs.length, ⟨segName (k + cs.length), last.1, last.2⟩)] := by
  have := h.k1
  rw [h.files, segsF_segFiles _ _ h.k0 (by simp; omega), numbered_append, List.length_map]; rfl
theorem LogD.last {D : ADisk} {k : Nat} {cs : List (List Bytes)} {last : Bytes × Nat} (h : LogD D k cs last) : (segsF D.files).getLast? = some (k + cs.length, ⟨segName (k + cs.length), last.1, last.2⟩) := by
  rw [h.segs]; simp
theorem LogD.elder {D : ADisk} {k : Nat} {cs : List (List Bytes)} {last : Bytes × Nat} (h : LogD D k cs last) : ∀ g ∈ segFiles k (cs.map fullC), g.name < segName (k + cs.length) := fun g hg => by
  obtain ⟨i, h1, h2, h3⟩ := segFiles_names _ _ g hg
  rw [List.length_map] at h2
  have := h.k1
  rw [h3]; exact segName_lt' (by omega) (by omega)
theorem LogD.elder' {D : ADisk} {k : Nat} {cs : List (List Bytes)} {last : Bytes × Nat} (h : LogD D k cs last) : ∀ g ∈ segFiles k (cs.map fullC), g.name ≠ segName (k + cs.length) := fun g hg e => by
  have := h.elder g hg
  rw [e] at this
  exact bytes_lt_irrefl _ this
theorem LogD.get {D : ADisk} {k : Nat} {cs : List (List Bytes)} {last : Bytes × Nat} (h : LogD D k cs last) : getF D.files (segName (k + cs.length)) = some ⟨segName (k + cs.length), last.1, last.2⟩ := by
  rw [h.files']
  exact getF_append_last (f := ⟨segName (k + cs.length), last.1, last.2⟩) h.elder'
theorem LogD.set {D D' : ADisk} {k : Nat} {cs : List (List Bytes)} {last last' : Bytes × Nat} (h : LogD D k cs last) (hf : D'.files = setF D.files ⟨segName (k + cs.length), last'.1, last'.2⟩) : LogD D' k cs last' := by
  refine ⟨?_, h.k0, h.k1⟩
  rw [hf, h.files', setF_append_last (f := ⟨segName (k + cs.length), last.1, last.2⟩) (f' := ⟨segName (k + cs.length), last'.1, last'.2⟩) rfl h.elder', segFiles_append, List.length_map]
  rfl

/-- One segment is read. -/
def badNo (prev : Option Nat) (n : Nat) : Bool := match prev with | some p => n != p + 1 | none => false
theorem readGo_cons (prev : Option Nat) (recs : List Bytes) (e n : Nat) (f : AFile) (rest : List (Nat × AFile)) : readGo prev recs e ((n, f) :: rest) =
    if badNo prev n = true then none else if (splitF (f.bytes.take f.synced)).2.2 ≠ 0 ∨ (rest ≠ [] ∧ f.synced < f.bytes.length) then none
    else readGo (some n) (recs ++ (splitF f.bytes).1) (splitF f.bytes).2.1 rest := by
  rw [readGo.eq_def]; rfl
/-- Reading whole segments. -/
theorem readGo_full : ∀ (cs : List (List Bytes)) (k : Nat) (prev : Option Nat) (recs : List Bytes) (e : Nat) (rest : List (Nat × AFile)), (∀ c ∈ cs, ∀ r ∈ c, RecOk r) → (prev = none ∨ prev = some (k - 1)) → 0 < k →
    readGo prev recs e (numbered k (cs.map fullC) ++ rest) = if cs = [] then readGo prev recs e rest else readGo (some (k + cs.length - 1)) (recs ++ cs.flatten) ((cs.getLast?.map fun c => (frames c).length).getD 0) rest
  | [], k, prev, recs, e, rest, _, _, _ => by simp [numbered]
  | c :: cs, k, prev, recs, e, rest, hok, hp, hk => by
    have hc := splitF_frames c (hok c (by simp))
    rw [if_neg (by simp), List.map_cons, numbered, List.cons_append, readGo_cons]
    have t1 : badNo prev k = false := by
      rcases hp with rfl | rfl
      · rfl
      · simp [badNo]; omega
    have e1 : (frames c).take (frames c).length = frames c := List.take_length
    rw [t1, if_neg (by simp)]
    simp only [fullC, e1, hc]
    rw [if_neg (by simp)]
    have ih := readGo_full cs (k + 1) (some k) (recs ++ c) (frames c).length rest (fun x hx => hok x (by simp [hx])) (.inr (by simp)) (by omega)
    rw [ih]
    by_cases h0 : cs = []
    · subst h0; simp
    · rw [if_neg h0]
      obtain ⟨y, ys, rfl⟩ := List.exists_cons_of_ne_nil h0
      simp only [List.length_cons, List.flatten_cons, List.append_assoc, List.getLast?_cons_cons]
      congr 2; omega

/-- Frames, and what is left of one more. -/
def Tail (c : List Bytes) (p : Bytes) : Prop := (∀ r ∈ c, RecOk r) ∧ (p = [] ∨ ∃ r, RecOk r ∧ Part r p)
theorem Tail.split {c : List Bytes} {p : Bytes} (h : Tail c p) : (splitF (frames c ++ p)).1 = c ∧ (splitF (frames c ++ p)).2.1 = (frames c).length := by
  rw [splitF_app c p h.1]
  rcases h.2 with rfl | ⟨r, hr, hp⟩
  · rw [splitF_nil]; simp
  · rw [splitF_stop p hp.1 (part_take r p hr hp)]; simp
theorem readF_log {D : ADisk} {k : Nat} {cs : List (List Bytes)} {c : List Bytes} {p : Bytes} {j : Nat} (h : LogD D k cs (frames c ++ p, (frames (c.take j)).length)) (hcs : ∀ c ∈ cs, ∀ r ∈ c, RecOk r) (ht : Tail c p) :
    readF (segsF D.files) = some (cs.flatten ++ c, (frames c).length) := by
  obtain ⟨s1, s2⟩ := ht.split
  have hfin : ∀ (prev : Option Nat) (recs : List Bytes) (e : Nat), (prev = none ∨ prev = some (k + cs.length - 1)) → readGo prev recs e [(k + cs.length, ⟨segName (k + cs.length), frames c ++ p, (frames (c.take j)).length⟩)] = some (recs ++ c, (frames c).length) := by
    intro prev recs e hp
    have hk := h.k0
    have t1 : badNo prev (k + cs.length) = false := by
      rcases hp with rfl | rfl
      · rfl
      · simp [badNo]; omega
    have e1 : (frames c ++ p).take (frames (c.take j)).length = frames (c.take j) := by
      have hpre : frames c = frames (c.take j) ++ frames (c.drop j) := by rw [← frames_append, List.take_append_drop]
      rw [hpre, List.append_assoc, List.take_left]
    rw [readGo_cons, t1, if_neg (by simp)]
    simp only [e1, splitF_frames (c.take j) (fun r hr => ht.1 r (List.mem_of_mem_take hr)), s1, s2]
    rw [if_neg (by simp)]
    rfl
  unfold readF
  rw [h.segs, readGo_full cs k none [] 0 _ hcs (.inl rfl) h.k0]
  split
  · rename_i h0
    subst h0
    rw [hfin _ _ _ (.inl rfl)]
    simp
  · rw [hfin _ _ _ (.inr rfl)]
    simp

theorem logSyncD_log {D : ADisk} {k : Nat} {cs : List (List Bytes)} {last : Bytes × Nat} (h : LogD D k cs last) (hd : D.dead = false) :
    (logSyncD D).1 = 0 ∧ LogD (logSyncD D).2 k cs (last.1, last.1.length) ∧ (logSyncD D).2.room = D.room ∧ (logSyncD D).2.fuse = D.fuse ∧ (logSyncD D).2.dead = false := by
  have e : logSyncD D = (0, { D with files := setF D.files { (⟨segName (k + cs.length), last.1, last.2⟩ : AFile) with synced := last.1.length } }) := by
    unfold logSyncD
    rw [h.last]
    simp only [syncD, withD, hd, h.get]
    rfl
  rw [e]
  exact ⟨rfl, h.set rfl, rfl, rfl, hd⟩
theorem openD_log {D : ADisk} {k : Nat} {cs : List (List Bytes)} {c : List Bytes} {p : Bytes} {j : Nat} (h : LogD D k cs (frames c ++ p, (frames (c.take j)).length)) (hcs : ∀ c ∈ cs, ∀ r ∈ c, RecOk r) (ht : Tail c p) (hd : D.dead = false) :
    (openD D).1 = 0 ∧ (openD D).2.1 = cs.flatten ++ c ∧ LogD (openD D).2.2 k cs (fullC c) ∧ (openD D).2.2.room = D.room + p.length ∧ (openD D).2.2.fuse = D.fuse ∧ (openD D).2.2.dead = false := by
  have hle : (frames (c.take j)).length ≤ (frames c).length := by
    have hpre : frames c = frames (c.take j) ++ frames (c.drop j) := by rw [← frames_append, List.take_append_drop]
    rw [hpre, List.length_append]; omega
  obtain ⟨D1, hD1⟩ : ∃ D1 : ADisk, D1 = { D with files := setF D.files { (⟨segName (k + cs.length), frames c ++ p, (frames (c.take j)).length⟩ : AFile) with bytes := (frames c ++ p).take (frames c).length }, room := D.room + ((frames c ++ p).length - (frames c).length) } := ⟨_, rfl⟩
  have hcut : cutD D (segName (k + cs.length)) (frames c).length = (0, D1) := by
    unfold cutD withD
    rw [hd, h.get]
    simp only [Bool.false_eq_true, if_false]
    rw [if_neg (by simp; omega), hD1]
    simp [hd]
  have h1 : LogD D1 k cs (frames c, (frames (c.take j)).length) := by
    rw [hD1]
    exact h.set (by simp)
  have hr1 : D1.room = D.room + p.length := by rw [hD1]; simp
  have hf1 : D1.fuse = D.fuse := by rw [hD1]
  have hd1 : D1.dead = false := by rw [hD1]; exact hd
  obtain ⟨a1, a2, a3, a4, a5⟩ := logSyncD_log h1 hd1
  have hrun : runActs [fun D => cutD D (segName (k + cs.length)) (frames c).length, logSyncD] D = logSyncD D1 := by
    simp only [runActs, hcut]
    rw [if_neg (by simp)]
    split
    · rfl
    · exact Prod.ext a1.symm rfl
  have he : openD D = (0, cs.flatten ++ c, (logSyncD D1).2) := by
    unfold openD
    rw [if_neg (by simp [hd]), readF_log h hcs ht, h.last]
    simp only
    rw [hrun, if_pos a1]
  rw [he]
  exact ⟨rfl, rfl, a2, by rw [a3, hr1], by rw [a4, hf1], a5⟩
theorem openD_none {D : ADisk} (h : D.files = []) (hd : D.dead = false) : openD D = (0, [], D) := by
  unfold openD
  rw [if_neg (by simp [hd]), h]
  rfl
end Go.Proofs.YtlopfabbjilpnaaGreatDoor
