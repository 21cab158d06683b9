/- A log renewed, as plain data. -/
import Derived.Test.YtlopfabbjilpnaaGreatDoorLogX
set_option linter.unusedSimpArgs false
set_option linter.unusedVariables false
namespace Go.Proofs.YtlopfabbjilpnaaGreatDoor

theorem delF_all : ∀ (l : List AFile) (n : Bytes), (∀ g ∈ l, g.name ≠ n) → delF l n = l := fun l n h => by
  unfold delF
  rw [List.filter_eq_self]
  intro g hg
  simpa using h g hg
/-- All elder segments go, the last one stays. -/
theorem remove_all (x : AFile) : ∀ (l : List (Nat × AFile)) (D : ADisk), D.files = l.map (·.2) ++ [x] → D.dead = false → (l.map fun y => y.2.name).Nodup → (∀ y ∈ l, y.2.name ≠ x.name) →
    ∃ D', runActs (l.map fun y D' => removeD D' y.2.name) D = (0, D') ∧ D'.files = [x] ∧ D'.dead = false ∧ D'.fuse = D.fuse
  | [], D, hf, hd, _, _ => ⟨D, rfl, hf, hd, rfl⟩
  | y :: l, D, hf, hd, hnd, hx => by
    simp only [List.map_cons, List.nodup_cons, List.mem_map, not_exists, not_and] at hnd
    have hg : getF D.files y.2.name = some y.2 := by rw [hf, List.map_cons]; unfold getF; simp
    have hrm : removeD D y.2.name = (0, { D with files := delF D.files y.2.name, room := D.room + y.2.bytes.length }) := by
      unfold removeD withD
      rw [hd, hg]; rfl
    have hdel : delF D.files y.2.name = l.map (·.2) ++ [x] := by
      rw [hf, List.map_cons, List.cons_append]
      have h1 : delF (y.2 :: (l.map (·.2) ++ [x])) y.2.name = delF (l.map (·.2) ++ [x]) y.2.name := by unfold delF; simp
      rw [h1]
      refine delF_all _ _ fun g hg => ?_
      rcases List.mem_append.1 hg with h | h
      · obtain ⟨z, hz, rfl⟩ := List.mem_map.1 h
        exact fun e => hnd.1 z hz e
      · simp at h; subst h; exact fun e => hx y (by simp) e.symm
    obtain ⟨D', h1, h2, h3, h4⟩ := remove_all x l { D with files := delF D.files y.2.name, room := D.room + y.2.bytes.length } hdel hd hnd.2 (fun z hz => hx z (by simp [hz]))
    refine ⟨D', ?_, h2, h3, h4⟩
    rw [List.map_cons, runActs]
    simp only [hrm]
    rw [if_neg (by simp)]; exact h1
theorem segs_files : ∀ (k : Nat) (l : List (Bytes × Nat)), (numbered k l).map (·.2) = segFiles k l
  | _, [] => rfl
  | k, x :: l => by rw [numbered, segFiles, List.map_cons, segs_files]
theorem segFiles_nodup : ∀ (k : Nat) (l : List (Bytes × Nat)), k + l.length ≤ 101 → ((segFiles k l).map (·.name)).Nodup
  | _, [], _ => by simp [segFiles]
  | k, x :: l, h => by
    simp only [List.length_cons] at h
    rw [segFiles, List.map_cons, List.nodup_cons]
    refine ⟨fun hm => ?_, segFiles_nodup (k + 1) l (by omega)⟩
    obtain ⟨f, hf, he⟩ := List.mem_map.1 hm
    obtain ⟨i, h1, h2, h3⟩ := segFiles_names _ _ f hf
    have := segName_lt' (a := k) (b := i) (by omega) (by omega)
    rw [← h3, he] at this
    exact bytes_lt_irrefl _ this
/-- The new segment's file; of the elder ones none. -/
theorem renew_steps {D : ADisk} {n : Nat} {es : List (Bytes × Nat)} {k : Nat} {l : List Bytes} (hf : D.files = segFiles k es) (hsg : segsF D.files = numbered k es) (hn : n = k + es.length) (hk : 0 < k) (hn1 : n < 100) (hd : D.dead = false) (hroom : (frames l).length ≤ D.room) (hlo : -1 ≤ D.fuse)
    (hok : ∀ r ∈ l, RecOk r) (hsy : logSyncD D = (0, D)) (hnx : nextSeg D = n) :
    (∃ D', renewD D l = (0, D') ∧ D'.files = [⟨segName n, frames l, (frames l).length⟩] ∧ D'.dead = false) ∨ (∃ D', renewD D l = (9, D') ∧ D'.files = D.files ++ [⟨segName n, (frames l).take D.fuse.toNat, 0⟩] ∧ D'.dead = true) := by
  have hlt : ∀ g ∈ D.files, g.name < segName n := fun g hg => by
    rw [hf] at hg
    obtain ⟨i, h1, h2, h3⟩ := segFiles_names _ _ g hg
    rw [h3]; exact segName_lt' (by omega) (by omega)
  have hlen : D.files.length < 1000 := by rw [hf, segFiles_len]; omega
  have hany : ¬ (l.any (fun r => r.length == 0 || decide (65536 < r.length)) = true) := by
    simp only [List.any_eq_true, Bool.or_eq_true, beq_iff_eq, decide_eq_true_eq, not_exists, not_and]
    intro r hr h
    have := hok r hr
    have h1 := this.1
    have h2 := this.2
    omega
  have hren : renewD D l = runActs ([logSyncD, fun D' => if 99999999 < n then (7, D') else appendD D' (segName n) (frames l), logSyncD] ++ (segsF D.files).map fun x D' => removeD D' x.2.name) D := by
    unfold renewD; rw [if_neg hany, hnx]
  have hfun : (fun D' : ADisk => if 99999999 < n then ((7 : Int), D') else appendD D' (segName n) (frames l)) = fun D' => appendD D' (segName n) (frames l) := by
    funext D'; rw [if_neg (by omega)]
  rw [hfun] at hren
  by_cases hfu : D.fuse ≠ -1 ∧ D.fuse < (frames l).length
  · obtain ⟨D', a1, a2, a3, a4, a5⟩ := new_torn (frames l) hlt hn1 hlen hd hroom hfu
    refine .inr ⟨D', ?_, a2, a3⟩
    rw [hren, List.cons_append, runActs, if_neg (by rw [hsy]; simp), hsy, List.cons_append, runActs]
    simp only [a1]
    rw [if_pos (by decide)]
  · obtain ⟨D', a1, a2, a3, a4, a5⟩ := new_ok (frames l) hlt hn1 hlen hd hroom hfu
    have hL : ∃ D2, logSyncD D' = (0, D2) ∧ D2.files = (segsF D.files).map (·.2) ++ [⟨segName n, frames l, (frames l).length⟩] ∧ D2.dead = false := by
      have hf2 : D'.files = segFiles k (es ++ [(frames l, 0)]) := by rw [a2, hf, segFiles_append, hn]; rfl
      have hsegs : (segsF D'.files).getLast? = some (n, ⟨segName n, frames l, 0⟩) := by
        rw [hf2, segsF_segFiles _ _ hk (by simp; omega), numbered_append, ← hn]
        simp [numbered]
      have hget : getF D'.files (segName n) = some ⟨segName n, frames l, 0⟩ := by
        rw [a2]
        exact getF_append_last (f := ⟨segName n, frames l, 0⟩) (fun g hg e => by have := hlt g hg; rw [e] at this; exact bytes_lt_irrefl _ this)
      refine ⟨{ D' with files := setF D'.files ⟨segName n, frames l, (frames l).length⟩ }, ?_, ?_, a4⟩
      · unfold logSyncD
        rw [hsegs]
        simp only [syncD, withD, a4, hget]
        rfl
      · show setF D'.files _ = _
        rw [a2, setF_append_last (f := ⟨segName n, frames l, 0⟩) (f' := ⟨segName n, frames l, (frames l).length⟩) rfl (fun g hg e => by have := hlt g hg; rw [e] at this; exact bytes_lt_irrefl _ this), hsg, segs_files, hf]
    obtain ⟨D2, b1, b2, b3⟩ := hL
    obtain ⟨D3, c1, c2, c3, c4⟩ := remove_all ⟨segName n, frames l, (frames l).length⟩ (segsF D.files) D2 b2 b3 (by
      rw [hsg, show (numbered k es).map (fun y => y.2.name) = ((numbered k es).map (·.2)).map (·.name) by rw [List.map_map]; rfl, segs_files]
      exact segFiles_nodup _ _ (by omega)) (fun y hy e => by
      have hm : y.2 ∈ D.files := (segsF_mem hy).1
      have := hlt _ hm
      rw [e] at this
      exact bytes_lt_irrefl _ this)
    refine .inl ⟨D3, ?_, c2, c3⟩
    rw [hren, List.cons_append, runActs, if_neg (by rw [hsy]; simp), hsy, List.cons_append, runActs]
    simp only [a1]
    rw [if_neg (by decide), List.cons_append, runActs, b1]
    simp only
    rw [if_neg (by decide), List.nil_append]
    exact c1

/-- Behind a renewal: the new records alone; or the elder ones and a beginning of the new ones. -/
theorem renew_plain {D : ADisk} {recs l : List Bytes} (h : LogSt D 1 recs recs.length) (hd : D.dead = false) (hlo : -1 ≤ D.fuse) (hroom : (frames l).length ≤ D.room) (hrl : recs.length ≤ 60) (hok : ∀ r ∈ l, RecOk r) :
    (∃ D' n, renewD D l = (0, D') ∧ LogD D' n [] (fullC l) ∧ D'.dead = false) ∨
    (∃ D' m D4, renewD D l = (9, D') ∧ m ≤ l.length ∧ D'.dead = true ∧ openD (startD D') = (0, recs ++ l.take m, D4)) := by
  have hpre : (frames l).take D.fuse.toNat <+: frames l := List.take_prefix _ _
  obtain ⟨j, p, hj, hP, hp⟩ := prefix_frames l _ hpre
  have hokj : ∀ r ∈ l.take j, RecOk r := fun r hr => hok r (List.mem_of_mem_take hr)
  have hp' : p = [] ∨ ∃ r, RecOk r ∧ Part r p := by
    rcases hp with rfl | ⟨r, hr, hp⟩
    · exact .inl rfl
    · exact .inr ⟨r, hok r (List.mem_iff_getElem?.2 ⟨j, hr⟩), hp⟩
  rcases h with ⟨h0, rfl, _, _⟩ | ⟨cs, c, j0, hL, rfl, hs, hj0, ht, hcs⟩
  · rcases renew_steps (D := D) (n := 1) (es := []) (k := 1) (l := l) (by rw [h0]; rfl) (by rw [h0]; rfl) rfl (by decide) (by decide) hd hroom hlo hok (by unfold logSyncD; rw [h0]; rfl) (by unfold nextSeg; rw [h0]; rfl) with ⟨D', a1, a2, a3⟩ | ⟨D', a1, a2, a3⟩
    · exact .inl ⟨D', 1, a1, ⟨by rw [a2]; rfl, by decide, by decide⟩, a3⟩
    · have hLD : LogD (startD D') 1 [] (frames (l.take j) ++ p, (frames ((l.take j).take 0)).length) := ⟨by show D'.files = _; rw [a2, h0, hP]; rfl, by decide, by decide⟩
      obtain ⟨e1, e2, _⟩ := openD_log hLD (by simp) ⟨hokj, hp'⟩ rfl
      exact .inr ⟨D', j, _, a1, hj, a3, Prod.ext e1 (Prod.ext e2 rfl)⟩
  · obtain rfl : j0 = c.length := by rw [List.length_append] at hs; omega
    rw [List.append_nil, List.take_length] at hL
    have hcl := len_le_flatten cs (fun x hx => (hcs x hx).1)
    rw [List.length_append] at hrl
    have hes : D.files = segFiles 1 ((cs ++ [c]).map fullC) := by rw [hL.files, List.map_append]; rfl
    have hsg : segsF D.files = numbered 1 ((cs ++ [c]).map fullC) := by rw [hes, segsF_segFiles _ _ (by decide) (by simp; omega)]
    have hsy : logSyncD D = (0, D) := by
      have e : setF D.files (⟨segName (1 + cs.length), frames c, (frames c).length⟩ : AFile) = D.files := by
        have h1 := hL.files'
        rw [h1, setF_append_last (f := ⟨segName (1 + cs.length), frames c, (frames c).length⟩) (f' := ⟨segName (1 + cs.length), frames c, (frames c).length⟩) rfl hL.elder']
      unfold logSyncD
      rw [hL.last]
      simp only [syncD, withD, hd, hL.get, fullC, Bool.false_eq_true, if_false]
      rw [e]
      exact congrArg (Prod.mk 0) (by rw [← hd])
    have hnx : nextSeg D = 1 + cs.length + 1 := by unfold nextSeg; rw [hL.last]
    rcases renew_steps (D := D) (n := 1 + cs.length + 1) (es := (cs ++ [c]).map fullC) (k := 1) (l := l) hes hsg (by simp; omega) (by omega) (by omega) hd hroom hlo hok hsy hnx with ⟨D', a1, a2, a3⟩ | ⟨D', a1, a2, a3⟩
    · exact .inl ⟨D', 1 + cs.length + 1, a1, ⟨by rw [a2]; rfl, by omega, by simp; omega⟩, a3⟩
    · have hLD : LogD (startD D') 1 (cs ++ [c]) (frames (l.take j) ++ p, (frames ((l.take j).take 0)).length) := by
        have := LogD.grow (D' := startD D') hL (frames (l.take j) ++ p) (by omega) (by show D'.files = _; rw [a2, hP])
        exact this
      have hcs' : ∀ x ∈ cs ++ [c], ∀ r ∈ x, RecOk r := fun x hx => by
        rcases List.mem_append.1 hx with h | h
        · exact (hcs x h).2
        · simp at h; subst h; exact ht.1
      obtain ⟨e1, e2, _⟩ := openD_log hLD hcs' ⟨hokj, hp'⟩ rfl
      refine .inr ⟨D', j, _, a1, hj, a3, Prod.ext e1 (Prod.ext (e2.trans ?_) rfl)⟩
      simp
/-- What stays of a renewed log. -/
theorem renew_open {D : ADisk} {n : Nat} {l : List Bytes} (h : LogD D n [] (fullC l)) (hok : ∀ r ∈ l, RecOk r) (keep : Int) : ∃ D4, openD (startD (crashed D keep)) = (0, l, D4) ∧ (segsF D4.files).length = 1 := by
  have hc : (crashed D keep).files = D.files := by
    show crashL _ D.files = _
    rw [h.files]
    simp [segFiles, crashL, crashF, fullC, List.take_of_length_le]
  have hL : LogD (startD (crashed D keep)) n [] (frames l ++ [], (frames (l.take l.length)).length) := by
    rw [List.append_nil, List.take_length]
    exact h.of hc
  obtain ⟨e1, e2, e3, _⟩ := openD_log hL (by simp) ⟨hok, .inl rfl⟩ rfl
  exact ⟨_, Prod.ext e1 (Prod.ext (by simpa using e2) rfl), by rw [e3.segs]; simp [numbered]⟩
end Go.Proofs.YtlopfabbjilpnaaGreatDoor
