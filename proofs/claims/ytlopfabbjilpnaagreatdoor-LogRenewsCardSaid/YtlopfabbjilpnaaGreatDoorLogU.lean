/- Logs as plain data, behind Add, Sync, Open, a crash. -/
import Derived.Test.YtlopfabbjilpnaaGreatDoorLogS
import Derived.Test.YtlopfabbjilpnaaGreatDoorLogL
import Derived.Test.YtlopfabbjilpnaaGreatDoorDiskK
set_option linter.unusedSimpArgs false
set_option linter.unusedVariables false
namespace Go.Proofs.YtlopfabbjilpnaaGreatDoor

theorem len_le_flatten : ∀ (cs : List (List Bytes)), (∀ x ∈ cs, x ≠ []) → cs.length ≤ cs.flatten.length
  | [], _ => Nat.le_refl _
  | c :: cs, h => by
    have h1 := len_le_flatten cs (fun x hx => h x (by simp [hx]))
    have h2 : 0 < c.length := List.length_pos_iff.2 (h c (by simp))
    simp only [List.length_cons, List.flatten_cons, List.length_append]; omega
theorem segName_len9 (n : Nat) (h : n < 100) : 0 < (segName n).length ∧ (segName n).length ≤ 24 := ⟨by simp [segName], segName_len n h⟩

/-- Behind a last segment, of whose power there is enough. -/
theorem LogD.append_ok {D : ADisk} {k : Nat} {cs : List (List Bytes)} {last : Bytes × Nat} (h : LogD D k cs last) (x : Bytes) (hd : D.dead = false) (hroom : x.length ≤ D.room) (hf : ¬ (D.fuse ≠ -1 ∧ D.fuse < x.length)) :
    ∃ D', appendD D (segName (k + cs.length)) x = (0, D') ∧ LogD D' k cs (last.1 ++ x, last.2) ∧ D'.room = D.room - x.length ∧ D'.dead = false ∧ D'.fuse = if D.fuse = -1 then -1 else D.fuse - x.length := by
  obtain ⟨l1, l2⟩ := segName_len9 (k + cs.length) h.k1
  have hg := h.get
  refine ⟨{ D with files := setF D.files ⟨segName (k + cs.length), last.1 ++ x, last.2⟩, room := D.room - x.length, fuse := if D.fuse = -1 then -1 else D.fuse - x.length }, ?_, h.set rfl, rfl, hd, rfl⟩
  unfold appendD
  rw [if_neg (by simp [hd]), if_neg (by omega), if_neg (by rw [hg]; simp; omega), hg]
  simp only [Option.getD_some]
  rw [if_neg hf]
  unfold putF
  rw [hg]
  rfl
theorem LogD.append_torn {D : ADisk} {k : Nat} {cs : List (List Bytes)} {last : Bytes × Nat} (h : LogD D k cs last) (x : Bytes) (hd : D.dead = false) (hroom : x.length ≤ D.room) (hf : D.fuse ≠ -1 ∧ D.fuse < x.length) :
    ∃ D', appendD D (segName (k + cs.length)) x = (9, D') ∧ LogD D' k cs (last.1 ++ x.take D.fuse.toNat, last.2) ∧ D'.dead = true ∧ D'.room = D.room - D.fuse.toNat ∧ D'.fuse = -1 := by
  obtain ⟨l1, l2⟩ := segName_len9 (k + cs.length) h.k1
  have hg := h.get
  refine ⟨offD { D with files := setF D.files ⟨segName (k + cs.length), last.1 ++ x.take D.fuse.toNat, last.2⟩, room := D.room - D.fuse.toNat }, ?_, LogD.set (D' := offD { D with files := setF D.files ⟨segName (k + cs.length), last.1 ++ x.take D.fuse.toNat, last.2⟩, room := D.room - D.fuse.toNat }) h rfl, rfl, rfl, rfl⟩
  unfold appendD
  rw [if_neg (by simp [hd]), if_neg (by omega), if_neg (by rw [hg]; simp; omega), hg]
  simp only [Option.getD_some]
  rw [if_pos hf]
  unfold putF
  rw [hg]
  rfl
/-- A new file behind all others. -/
theorem new_ok {D : ADisk} {n : Nat} (x : Bytes) (hlt : ∀ g ∈ D.files, g.name < segName n) (hn : n < 100) (hlen : D.files.length < 1000) (hd : D.dead = false) (hroom : x.length ≤ D.room) (hf : ¬ (D.fuse ≠ -1 ∧ D.fuse < x.length)) :
    ∃ D', appendD D (segName n) x = (0, D') ∧ D'.files = D.files ++ [⟨segName n, x, 0⟩] ∧ D'.room = D.room - x.length ∧ D'.dead = false ∧ D'.fuse = if D.fuse = -1 then -1 else D.fuse - x.length := by
  obtain ⟨l1, l2⟩ := segName_len9 n hn
  have hg := getF_none_last hlt
  refine ⟨{ D with files := insF ⟨segName n, x, 0⟩ D.files, room := D.room - x.length, fuse := if D.fuse = -1 then -1 else D.fuse - x.length }, ?_, insF_last (f := ⟨segName n, x, 0⟩) hlt, rfl, hd, rfl⟩
  unfold appendD
  rw [if_neg (by simp [hd]), if_neg (by omega), if_neg (by rw [hg]; simp; omega), hg]
  simp only [Option.getD_none]
  rw [if_neg hf]
  unfold putF
  rw [hg]
  rfl
theorem new_torn {D : ADisk} {n : Nat} (x : Bytes) (hlt : ∀ g ∈ D.files, g.name < segName n) (hn : n < 100) (hlen : D.files.length < 1000) (hd : D.dead = false) (hroom : x.length ≤ D.room) (hf : D.fuse ≠ -1 ∧ D.fuse < x.length) :
    ∃ D', appendD D (segName n) x = (9, D') ∧ D'.files = D.files ++ [⟨segName n, x.take D.fuse.toNat, 0⟩] ∧ D'.dead = true ∧ D'.room = D.room - D.fuse.toNat ∧ D'.fuse = -1 := by
  obtain ⟨l1, l2⟩ := segName_len9 n hn
  have hg := getF_none_last hlt
  refine ⟨offD { D with files := insF ⟨segName n, x.take D.fuse.toNat, 0⟩ D.files, room := D.room - D.fuse.toNat }, ?_, insF_last (f := ⟨segName n, x.take D.fuse.toNat, 0⟩) hlt, rfl, rfl, rfl⟩
  unfold appendD
  rw [if_neg (by simp [hd]), if_neg (by omega), if_neg (by rw [hg]; simp; omega), hg]
  simp only [Option.getD_none]
  rw [if_pos hf]
  unfold putF
  rw [hg]
  rfl
/-- The next segment begins. -/
theorem LogD.grow {D D' : ADisk} {k : Nat} {cs : List (List Bytes)} {c : List Bytes} (h : LogD D k cs (fullC c)) (x : Bytes) (hk : k + cs.length + 1 < 100) (hf : D'.files = D.files ++ [⟨segName (k + cs.length + 1), x, 0⟩]) : LogD D' k (cs ++ [c]) (x, 0) := by
  refine ⟨?_, h.k0, by simp; omega⟩
  have e : k + (cs.map fullC ++ [fullC c]).length = k + cs.length + 1 := by simp; omega
  rw [hf, h.files, List.map_append, List.map_singleton, segFiles_append k (cs.map fullC ++ [fullC c]) [(x, 0)], e]
  rfl
theorem LogD.allLt {D : ADisk} {k : Nat} {cs : List (List Bytes)} {last : Bytes × Nat} (h : LogD D k cs last) (hk : k + cs.length + 1 < 100) : ∀ g ∈ D.files, g.name < segName (k + cs.length + 1) := fun g hg => by
  rw [h.files] at hg
  obtain ⟨i, h1, h2, h3⟩ := segFiles_names _ _ g hg
  simp only [List.length_append, List.length_map, List.length_cons, List.length_nil] at h2
  rw [h3]; exact segName_lt' (by omega) (by omega)
theorem LogD.len {D : ADisk} {k : Nat} {cs : List (List Bytes)} {last : Bytes × Nat} (h : LogD D k cs last) : D.files.length = cs.length + 1 := by rw [h.files, segFiles_len]; simp

/-- A log's records on a disk, so many of them synced; behind them what is left of one more. -/
def LogT (D : ADisk) (k : Nat) (recs : List Bytes) (s : Nat) (p : Bytes) : Prop :=
  ∃ cs c j, LogD D k cs (frames c ++ p, (frames (c.take j)).length) ∧ recs = cs.flatten ++ c ∧ s = cs.flatten.length + j ∧ j ≤ c.length ∧ Tail c p ∧ ∀ x ∈ cs, x ≠ [] ∧ ∀ r ∈ x, RecOk r
def LogSt (D : ADisk) (k : Nat) (recs : List Bytes) (s : Nat) : Prop := (D.files = [] ∧ recs = [] ∧ s = 0 ∧ k = 1) ∨ LogT D k recs s []

theorem LogD.fullT {D : ADisk} {k : Nat} {cs : List (List Bytes)} {c : List Bytes} (h : LogD D k cs (fullC c)) (hc : ∀ r ∈ c, RecOk r) (hcs : ∀ x ∈ cs, x ≠ [] ∧ ∀ r ∈ x, RecOk r) : LogT D k (cs.flatten ++ c) (cs.flatten ++ c).length [] :=
  ⟨cs, c, c.length, by rw [List.append_nil, List.take_length]; exact h, rfl, by rw [List.length_append], Nat.le_refl _, ⟨hc, .inl rfl⟩, hcs⟩
theorem LogT.open {D : ADisk} {k : Nat} {recs : List Bytes} {s : Nat} {p : Bytes} (h : LogT D k recs s p) (hd : D.dead = false) :
    ∃ D', openD D = (0, recs, D') ∧ LogT D' k recs recs.length [] ∧ D'.room = D.room + p.length ∧ D'.fuse = D.fuse ∧ D'.dead = false := by
  obtain ⟨cs, c, j, hL, rfl, rfl, hj, ht, hcs⟩ := h
  obtain ⟨a1, a2, a3, a4, a5, a6⟩ := openD_log hL (fun c hc => (hcs c hc).2) ht hd
  exact ⟨_, Prod.ext a1 (Prod.ext a2 rfl), a3.fullT ht.1 hcs, a4, a5, a6⟩
theorem LogSt.open {D : ADisk} {k : Nat} {recs : List Bytes} {s : Nat} (h : LogSt D k recs s) (hd : D.dead = false) :
    ∃ D', openD D = (0, recs, D') ∧ LogSt D' k recs recs.length ∧ D'.room = D.room ∧ D'.fuse = D.fuse ∧ D'.dead = false := by
  rcases h with ⟨h0, rfl, rfl, rfl⟩ | h
  · exact ⟨D, openD_none h0 hd, .inl ⟨h0, rfl, rfl, rfl⟩, rfl, rfl, hd⟩
  · obtain ⟨D', h1, h2, h3, h4, h5⟩ := h.open hd
    exact ⟨D', h1, .inr h2, by simpa using h3, h4, h5⟩
theorem LogSt.sync {D : ADisk} {k : Nat} {recs : List Bytes} {s : Nat} (h : LogSt D k recs s) (hd : D.dead = false) :
    ∃ D', logSyncD D = (0, D') ∧ LogSt D' k recs recs.length ∧ D'.room = D.room ∧ D'.fuse = D.fuse ∧ D'.dead = false := by
  rcases h with ⟨h0, rfl, rfl, rfl⟩ | ⟨cs, c, j, hL, rfl, rfl, hj, ht, hcs⟩
  · exact ⟨D, by unfold logSyncD; rw [h0]; rfl, .inl ⟨h0, rfl, rfl, rfl⟩, rfl, rfl, hd⟩
  · obtain ⟨a1, a2, a3, a4, a5⟩ := logSyncD_log hL hd
    rw [List.append_nil] at a2
    exact ⟨_, Prod.ext a1 rfl, .inr (LogD.fullT a2 ht.1 hcs), a3, a4, a5⟩
theorem LogSt.next {D : ADisk} {k : Nat} {recs : List Bytes} {s : Nat} (h : LogSt D k recs s) : nextSeg D ≤ k + recs.length + 1 := by
  rcases h with ⟨h0, rfl, rfl, rfl⟩ | ⟨cs, c, j, hL, rfl, rfl, hj, ht, hcs⟩
  · unfold nextSeg; rw [h0]; decide
  · unfold nextSeg; rw [hL.last]
    have := len_le_flatten cs (fun x hx => (hcs x hx).1)
    simp only [List.length_append]; omega
theorem part_of_take {r : Bytes} {n : Nat} (h : n < (frameB r).length) : (frameB r).take n = [] ∨ Part r ((frameB r).take n) := by
  by_cases h0 : (frameB r).take n = []
  · exact .inl h0
  · exact .inr ⟨h0, List.take_prefix _ _, by rw [List.length_take]; omega⟩

/-- What Add makes of a log. -/
theorem LogSt.add {D : ADisk} {k : Nat} {recs : List Bytes} {s : Nat} (h : LogSt D k recs s) (r : Bytes) (hd : D.dead = false) (hr : RecOk r) (hroom : (frameB r).length ≤ D.room) (hk : k + recs.length < 98) (hlo : -1 ≤ D.fuse) :
    (∃ D' s', addD D r = (0, D') ∧ LogSt D' k (recs ++ [r]) s' ∧ s ≤ s' ∧ s' ≤ recs.length ∧ D'.room = D.room - (frameB r).length ∧ D'.dead = false ∧ (D.fuse = -1 → D'.fuse = -1) ∧ -1 ≤ D'.fuse) ∨
    (∃ D' s' p, addD D r = (9, D') ∧ LogT D' k recs s' p ∧ s ≤ s' ∧ D'.dead = true ∧ D.fuse ≠ -1 ∧ D.room - (frameB r).length ≤ D'.room ∧ D'.fuse = -1) := by
  have hbad : ¬ (r.length = 0 ∨ 65536 < r.length) := by have := hr.1; have := hr.2; omega
  rcases h with ⟨h0, rfl, rfl, rfl⟩ | ⟨cs, c, j, hL, rfl, rfl, hj, ht, hcs⟩
  · have hadd : addD D r = appendD D (segName 1) (frameB r) := by unfold addD; rw [if_neg hbad, h0]; rfl
    have hlt : ∀ g ∈ D.files, g.name < segName 1 := by rw [h0]; simp
    by_cases hf : D.fuse ≠ -1 ∧ D.fuse < (frameB r).length
    · obtain ⟨D', a1, a2, a3, a4, a5⟩ := new_torn (frameB r) hlt (by decide) (by rw [h0]; decide) hd hroom hf
      rw [h0] at a2
      have hp := part_of_take (r := r) (n := D.fuse.toNat) (by omega)
      refine .inr ⟨D', 0, (frameB r).take D.fuse.toNat, by rw [hadd, a1], ⟨[], [], 0, ⟨by rw [a2]; rfl, by decide, by decide⟩, rfl, rfl, Nat.le_refl _, ⟨by simp, ?_⟩, by simp⟩, Nat.le_refl _, a3, hf.1, by rw [a4]; omega, a5⟩
      rcases hp with hp | hp
      · exact .inl hp
      · exact .inr ⟨r, hr, hp⟩
    · obtain ⟨D', a1, a2, a3, a4, a5⟩ := new_ok (frameB r) hlt (by decide) (by rw [h0]; decide) hd hroom hf
      rw [h0] at a2
      refine .inl ⟨D', 0, by rw [hadd, a1], .inr ⟨[], [r], 0, ⟨by rw [a2]; simp [segFiles, frames_cons, frames_nil], by decide, by decide⟩, rfl, rfl, Nat.zero_le _, ⟨by simp [hr], .inl rfl⟩, by simp⟩, Nat.le_refl _, Nat.le_refl _, a3, a4, fun h => by rw [a5, if_pos h], ?_⟩
      rw [a5]; split <;> omega
  · have hcl := len_le_flatten cs (fun x hx => (hcs x hx).1)
    simp only [List.length_append] at hk
    rw [List.append_nil] at hL
    by_cases hsm : (frames c).length < 1024
    · have hadd : addD D r = appendD D (segName (k + cs.length)) (frameB r) := by unfold addD; rw [if_neg hbad, hL.last]; exact if_pos hsm
      by_cases hf : D.fuse ≠ -1 ∧ D.fuse < (frameB r).length
      · obtain ⟨D', a1, a2, a3, a4, a5⟩ := hL.append_torn (frameB r) hd hroom hf
        have hp := part_of_take (r := r) (n := D.fuse.toNat) (by omega)
        refine .inr ⟨D', _, (frameB r).take D.fuse.toNat, by rw [hadd, a1], ⟨cs, c, j, a2, rfl, rfl, hj, ⟨ht.1, ?_⟩, hcs⟩, Nat.le_refl _, a3, hf.1, by rw [a4]; omega, a5⟩
        rcases hp with hp | hp
        · exact .inl hp
        · exact .inr ⟨r, hr, hp⟩
      · obtain ⟨D', a1, a2, a3, a4, a5⟩ := hL.append_ok (frameB r) hd hroom hf
        refine .inl ⟨D', cs.flatten.length + j, by rw [hadd, a1], .inr ⟨cs, c ++ [r], j, ?_, by simp, rfl, by simp; omega, ⟨?_, .inl rfl⟩, hcs⟩, Nat.le_refl _, by simp; omega, a3, a4, fun h => by rw [a5, if_pos h], ?_⟩
        · rw [List.append_nil, frames_snoc, List.take_append_of_le_length hj]
          exact a2
        · intro x hx
          rcases List.mem_append.1 hx with h | h
          · exact ht.1 x h
          · simp at h; subst h; exact hr
        · rw [a5]; split
          · omega
          · rename_i h; have : ¬ D.fuse < (frameB r).length := fun h2 => hf ⟨h, h2⟩
            omega
    · have hadd : addD D r = runActs [logSyncD, fun D' => if k + cs.length = 99999999 then (7, D') else appendD D' (segName (k + cs.length + 1)) (frameB r)] D := by
        unfold addD; rw [if_neg hbad, hL.last]; exact if_neg hsm
      obtain ⟨b1, b2, b3, b4, b5⟩ := logSyncD_log hL hd
      have hrun : runActs [logSyncD, fun D' => if k + cs.length = 99999999 then (7, D') else appendD D' (segName (k + cs.length + 1)) (frameB r)] D = appendD (logSyncD D).2 (segName (k + cs.length + 1)) (frameB r) := by
        have hfun : (fun D' : ADisk => if k + cs.length = 99999999 then ((7 : Int), D') else appendD D' (segName (k + cs.length + 1)) (frameB r)) = fun D' => appendD D' (segName (k + cs.length + 1)) (frameB r) := by
          funext D'; rw [if_neg (by omega)]
        rw [hfun]
        simp only [runActs]
        rw [if_neg (by simpa using b1)]
        by_cases h : (appendD (logSyncD D).2 (segName (k + cs.length + 1)) (frameB r)).1 ≠ 0
        · rw [if_pos h]
        · rw [if_neg h]; exact Prod.ext (Classical.not_not.1 h).symm rfl
      have hne : c ≠ [] := fun e => by rw [e] at hsm; exact hsm (by decide)
      have hcs' : ∀ x ∈ cs ++ [c], x ≠ [] ∧ ∀ r ∈ x, RecOk r := fun x hx => by
        rcases List.mem_append.1 hx with h | h
        · exact hcs x h
        · simp at h; subst h; exact ⟨hne, ht.1⟩
      have hlt := b2.allLt (by omega)
      by_cases hf : D.fuse ≠ -1 ∧ D.fuse < (frameB r).length
      · obtain ⟨D', a1, a2, a3, a4, a5⟩ := new_torn (D := (logSyncD D).2) (frameB r) hlt (by omega) (by rw [b2.len]; omega) b5 (by rw [b3]; exact hroom) (by rw [b4]; exact hf)
        have hL' : LogD D' k (cs ++ [c]) _ := LogD.grow b2 _ (by omega) a2
        rw [b4] at hL'
        have hp := part_of_take (r := r) (n := D.fuse.toNat) (by omega)
        refine .inr ⟨D', (cs ++ [c]).flatten.length + 0, (frameB r).take D.fuse.toNat, by rw [hadd, hrun, a1], ⟨cs ++ [c], [], 0, hL', by simp, rfl, Nat.le_refl _, ⟨by simp, ?_⟩, hcs'⟩, by simp; omega, a3, hf.1, by rw [a4, b3]; omega, a5⟩
        rcases hp with hp | hp
        · exact .inl hp
        · exact .inr ⟨r, hr, hp⟩
      · obtain ⟨D', a1, a2, a3, a4, a5⟩ := new_ok (D := (logSyncD D).2) (frameB r) hlt (by omega) (by rw [b2.len]; omega) b5 (by rw [b3]; exact hroom) (by rw [b4]; exact hf)
        have hL' : LogD D' k (cs ++ [c]) _ := LogD.grow b2 _ (by omega) a2
        refine .inl ⟨D', (cs ++ [c]).flatten.length + 0, by rw [hadd, hrun, a1], .inr ⟨cs ++ [c], [r], 0, ?_, by simp, rfl, Nat.zero_le _, ⟨by simp [hr], .inl rfl⟩, hcs'⟩, by simp; omega, by simp, by rw [a3, b3], a4, fun h => by rw [a5, b4, if_pos h], ?_⟩
        · rw [List.append_nil, List.take_zero, frames_cons, frames_nil, List.append_nil]; exact hL'
        · rw [a5, b4]; split
          · omega
          · rename_i h; have : ¬ D.fuse < (frameB r).length := fun h2 => hf ⟨h, h2⟩
            omega

/-- A crash leaves whole segments as they are. -/
theorem crashF_full (left : Option Nat) (f : AFile) (h : f.synced = f.bytes.length) : crashF left f = f ∧ leftF left f = left := by
  have h0 : stayF left f = 0 := by have := stayF_le left f; omega
  constructor
  · unfold crashF; rw [h0, Nat.add_zero, h, List.take_length]; cases f; simp_all
  · unfold leftF; rw [h0]; cases left <;> rfl
theorem crashL_full : ∀ (left : Option Nat) (k : Nat) (cs : List (List Bytes)), crashL left (segFiles k (cs.map fullC)) = segFiles k (cs.map fullC) ∧ leftL left (segFiles k (cs.map fullC)) = left
  | left, k, [] => ⟨rfl, rfl⟩
  | left, k, c :: cs => by
    obtain ⟨h1, h2⟩ := crashF_full left ⟨segName k, frames c, (frames c).length⟩ rfl
    obtain ⟨h3, h4⟩ := crashL_full left (k + 1) cs
    constructor
    · show crashF left ⟨segName k, frames c, (frames c).length⟩ :: crashL (leftF left ⟨segName k, frames c, (frames c).length⟩) (segFiles (k + 1) (cs.map fullC)) = _
      rw [h1, h2, h3]; rfl
    · show leftL (leftF left ⟨segName k, frames c, (frames c).length⟩) (segFiles (k + 1) (cs.map fullC)) = _
      rw [h2, h4]
theorem LogD.crash {D : ADisk} {k : Nat} {cs : List (List Bytes)} {last : Bytes × Nat} (h : LogD D k cs last) (keep : Int) : ∃ n, last.2 ≤ n ∧ LogD (crashed D keep) k cs (last.1.take n, last.2) := by
  obtain ⟨h1, h2⟩ := crashL_full (keepO keep) k cs
  refine ⟨last.2 + stayF (keepO keep) ⟨segName (k + cs.length), last.1, last.2⟩, by omega, ?_, h.k0, h.k1⟩
  show crashL (keepO keep) D.files = _
  rw [h.files', crashL_append, h1, h2, segFiles_append, List.length_map]
  rfl
theorem LogSt.crash {D : ADisk} {k : Nat} {recs : List Bytes} {s : Nat} (h : LogSt D k recs s) (keep : Int) :
    ∃ n p, s ≤ n ∧ n ≤ recs.length ∧ ((crashed D keep).files = [] ∧ recs = [] ∧ p = [] ∧ k = 1 ∨ LogT (crashed D keep) k (recs.take n) s p) := by
  rcases h with ⟨h0, rfl, rfl, rfl⟩ | ⟨cs, c, j, hL, rfl, rfl, hj, ht, hcs⟩
  · exact ⟨0, [], Nat.le_refl _, Nat.le_refl _, .inl ⟨by unfold crashed; rw [h0]; rfl, rfl, rfl, rfl⟩⟩
  · rw [List.append_nil] at hL
    obtain ⟨n, h1, h2⟩ := hL.crash keep
    obtain ⟨i, p, hi, hP, hp⟩ := prefix_frames c ((frames c).take n) (List.take_prefix _ _)
    have hji : j ≤ i := by
      rcases Nat.lt_or_ge i j with hlt | hge
      · exfalso
        have hl1 := frames_len_lt c hlt hj
        have hle : (frames (c.take j)).length ≤ ((frames c).take n).length := by
          rw [List.length_take]
          have := frames_len_mono c hj
          rw [List.take_length] at this
          omega
        rw [hP, List.length_append] at hle
        rcases hp with rfl | ⟨r, hr, hp⟩
        · simp at hle; omega
        · have hpl := hp.2.2
          have hstep : c.take (i + 1) = c.take i ++ [r] := by rw [List.take_add_one, hr]; rfl
          have := frames_len_mono c (show i + 1 ≤ j from hlt)
          rw [hstep, frames_snoc, List.length_append] at this
          omega
      · exact hge
    refine ⟨cs.flatten.length + i, p, by omega, by simp; omega, .inr ⟨cs, c.take i, j, ?_, ?_, rfl, by rw [List.length_take]; omega, ⟨fun r hr => ht.1 r (List.mem_of_mem_take hr), ?_⟩, hcs⟩⟩
    · rw [← hP, List.take_take, Nat.min_eq_left hji]; exact h2
    · rw [List.take_append, List.take_of_length_le (by omega)]; congr 2; omega
    · rcases hp with rfl | ⟨r, hr, hp⟩
      · exact .inl rfl
      · exact .inr ⟨r, ht.1 r (List.mem_iff_getElem?.2 ⟨i, hr⟩), hp⟩
theorem newD_log : LogSt newD 1 [] 0 := .inl ⟨rfl, rfl, rfl, rfl⟩
end Go.Proofs.YtlopfabbjilpnaaGreatDoor
