/- Package disk: the iterator over the files in the order of their names. -/
import Derived.Test.YtlopfabbjilpnaaGreatDoorDiskH
set_option linter.unusedSimpArgs false
set_option linter.unusedVariables false
namespace Go.Proofs.YtlopfabbjilpnaaGreatDoor
open Go.RowKit Go.MapKept

/-- Here is a disk whose map this is. -/
def HasMap (b m : Nat) (W : World) : Prop := ∃ x y z, W.heap[b]? = some (.cells #[.map (some m), x, y, z] 85 (0, 0))
def K0 (b m : Nat) (A B : World) : Prop := HasMap b m A → HasMap b m B
def encK (x : AFile × Nat) : Array Value := #[sv x.1.name, .pointer (some ⟨x.2, 0, none⟩)]

theorem sorted_any (b : Nat) (w : World) : Calls Tryz.prog 52 #[.pointer (some ⟨b, 0, none⟩)] w fun en w' =>
    en = .returned (.func (.func 90) #[] #[.pointer (some ⟨w.heap.size, 0, none⟩)]) ∧ w' = w.alloc (.cells #[.pointer (some ⟨b, 0, none⟩)] 27) := by
  go_enter Tryz.func52, Tryz.ntmps52
  go_wp2
  go_ret
  exact ⟨rfl, rfl⟩

/-- The files in the order of their names, each with its block. -/
theorem order_exists {L : LF} {M : List AFile} (h : (L.map (·.1)).Perm M) : ∃ S : LF, S.Perm L ∧ S.map (·.1) = M := by
  induction M generalizing L with
  | nil =>
    have := h.eq_nil
    rw [List.map_eq_nil_iff] at this
    subst this
    exact ⟨[], .refl _, rfl⟩
  | cons f M ih =>
    obtain ⟨x, hx, hxf⟩ := List.mem_map.1 (h.mem_iff.2 (List.mem_cons_self))
    obtain ⟨L1, L2, rfl⟩ := List.append_of_mem hx
    have h1 : ((L1 ++ x :: L2).map (·.1)).Perm (f :: (L1 ++ L2).map (·.1)) := by
      rw [← hxf]
      exact (List.perm_middle (a := x) (l₁ := L1) (l₂ := L2)).map (·.1)
    obtain ⟨S, hS, hM⟩ := ih (List.Perm.cons_inv (h1.symm.trans h))
    exact ⟨x :: S, (hS.cons x).trans List.perm_middle.symm, by rw [List.map_cons, hM, hxf]⟩

theorem mergeSort_names {l : List AFile} (h : Sorted l) {ns : List Bytes} (hp : ns.Perm (l.map (·.name))) : ns.mergeSort Go.leB = l.map (·.name) := by
  rw [mergeSort_of_perm hp]
  refine List.mergeSort_of_pairwise ?_
  rw [List.pairwise_map]
  refine h.imp fun {a b} hab => ?_
  simp only [Go.leB, decide_eq_true_eq]
  exact List.le_of_lt hab

theorem SS_row {base : Nat} {w : World} {v : Value} {S : LF} (h : SS base w v (S.map (·.1.name))) :
    ∃ a c, v = .slice a (S.map (·.1.name)).length c ∧ ∀ (i : Nat) (x : AFile × Nat), S[i]? = some x → ∃ g cur, a = some ⟨g, 0, none⟩ ∧ base ≤ g ∧ w.heap[g]? = some (.cells cur 9 (0, 0)) ∧ cur[i]? = some (sv x.1.name) := by
  rcases SS_cases h with ⟨h0, a, c, rfl⟩ | ⟨g, cap, cur, rfl, h1, h2, h3⟩
  · rw [List.map_eq_nil_iff] at h0
    subst h0
    exact ⟨a, c, rfl, fun i x hx => by simp at hx⟩
  · exact ⟨_, _, rfl, fun i x hx => ⟨g, cur, rfl, h1, h2, h3 i x.1.name (by rw [List.getElem?_map, hx]; rfl)⟩⟩

set_option maxRecDepth 100000 in
set_option maxHeartbeats 1000000 in
theorem sorted_seq (bx b m : Nat) (es : Array MapEntry) (clk : Nat) (L S : LF) (D : ADisk) (w0 : World) (hbx : w0.heap[bx]? = some (.cells #[.pointer (some ⟨b, 0, none⟩)] 27 (0, 0))) (hD : DiskIs w0 b m es clk L D)
    (hS : S.Perm L) (hSD : S.map (·.1) = D.files) (hk : ∀ f ∈ D.files, f.name.length ≤ 24) (hn : D.files.length ≤ 1000) (G : List Nat) (hG1 : bx ∉ G) (hG2 : m ∉ G) :
    SeqZ Tryz.prog 90 #[.pointer (some ⟨bx, 0, none⟩)] encK S G (K0 b m) (Frm []) w0 := by
  intro l J Jx W hW hGW hJ hY h0
  have hx1 := hW.blk hbx (by simp)
  have ho1 := hW.blk hD.own (by simp)
  have hm1 := hW.blk hD.map (by simp)
  have hlks := fun (f : AFile) (c : Nat) (hc : (f, c) ∈ L) => (show look (kvOf L) f.name = some (.pointer (some ⟨c, 0, none⟩)) from by
    obtain ⟨c', hc', _, h2⟩ := hD.get_some (getF_of_mem (sorted_nodup hD.sorted) (hD.perm.mem_iff.1 (List.mem_map.2 ⟨(f, c), hc, rfl⟩)))
    have := nodup_inj (f := fun x : AFile × Nat => x.1.name) hD.names hc hc' rfl
    cases this
    exact h2)
  have hlk := fun k W h => look_run keyS (T := 83) (et := 101) Tryz.underlying83 zeroPtr hD.ents k m false W h
  have hSl : Hid (S.length = D.files.length) := Lib.hid (by rw [← hSD, List.length_map])
  have hSn : S.length ≤ 1000 := by rw [hSl.out]; exact hn
  have hms : ((kvOf L).map (·.1)).mergeSort Go.leB = S.map (·.1.name) := by
    rw [mergeSort_names hD.sorted (l := D.files), ← hSD, List.map_map]
    · rfl
    · rw [← hSD, List.map_map]
      unfold kvOf
      rw [List.map_map]
      exact (hS.map _).symm
  have hsort := fun V hV => sortedKeys_any m es clk (kvOf L) V hV hD.ents (fun x hx => by
    obtain ⟨y, hy, rfl⟩ := List.mem_map.1 hx
    exact hk _ (hD.perm.mem_iff.1 (List.mem_map.2 ⟨y, hy, rfl⟩))) (by simp only [kvOf, List.length_map]; rw [← hS.length_eq, hSl.out]; exact hn)
  rw [hms] at hsort
  obtain ⟨r1, r2, r3, r4⟩ := old_ne (lt_of_block hx1)
  obtain ⟨r5, r6, r7, r8⟩ := old_ne (lt_of_block ho1)
  obtain ⟨q5, q6, q7, q8⟩ := old_ne (lt_of_block hm1)
  clear hms
  refine (callsIn_wide (n := 0)).1 ?_
  (refine callsIn_of_wp Tryz.func90 rfl trivial ?_ rfl; simp only [Tryz.ntmps90, List.size_toArray, List.length_cons, List.length_nil, Nat.reduceAdd, Nat.reduceSub, Array.replicate_succ, Array.replicate_zero, List.push_toArray, List.append_toArray, List.nil_append, List.cons_append])
  gi_wp2_with (first
    | (refine ⟨trivial, rfl, ?_⟩; gi_at_call 92; refine (callsIn_wide.2 (keys_any m _)).mono ?_; rintro e w3 ⟨rfl, rfl⟩)
    | (refine ⟨trivial, rfl, ?_⟩; gi_at_call 91; refine (callsIn_wide.2 (hsort _ (by simp [go_sem, hm1]))).mono ?_; rintro e w3 ⟨v, rfl, hrow, hF3⟩; obtain ⟨a0, c0, rfl, hrw⟩ := SS_row hrow; simp only [List.length_map] at hrw ⊢))
  have hx3 := hF3.blk (k := bx) (o := .cells #[.pointer (some ⟨b, 0, none⟩)] 27 (0, 0)) (by simp [go_sem, hx1]) (by simp)
  have ho3 := hF3.blk (k := b) (o := .cells #[.map (some m), .int .i64 D.room, .int .i64 D.fuse, .bool D.dead] 85 (0, 0)) (by simp [go_sem, ho1]) (by simp)
  have hm3 := hF3.blk (k := m) (o := .map es clk) (by simp [go_sem, hm1]) (by simp)
  have hWz := hF3.size
  rw [World.size_alloc] at hWz
  have hFW : Frm [] W w3 := ((Frm.refl [] W).alloc _).trans hF3
  have hbxz := lt_of_block hx1
  have hmz := lt_of_block hm1
  gi_loopw [12] (fun p wr => ∃ (i : Nat), p = .int .i64 i ∧ i ≤ S.length ∧ J w3.heap.size (S.take i) wr ∧ w3.heap.size ≤ wr.heap.size ∧
      wr.heap[bx]? = some (.cells #[.pointer (some ⟨b, 0, none⟩)] 27 (0, 0)) ∧ HasMap b m wr ∧ wr.heap[m]? = some (.map es clk) ∧ ∀ g, a0 = some ⟨g, 0, none⟩ → g < w3.heap.size → wr.heap[g]? = w3.heap[g]?)
    (fun p _ => S.length - (intOf p).toNat)
  case atStart => exact ⟨0, rfl, Nat.zero_le _, h0 _ _ hFW (by omega) (Nat.le_refl _), Nat.le_refl _, hx3, ⟨_, _, _, ho3⟩, hm3, fun _ _ _ => rfl⟩
  case round =>
    obtain ⟨i, rfl, hi, hJs, hzr, hx4, ⟨y1, y2, y3, ho4⟩, hm4, hg4⟩ := hrel
    by_cases hil : i < S.length
    · obtain ⟨⟨f, c⟩, hxi⟩ : ∃ x, S[i]? = some x := ⟨_, List.getElem?_eq_getElem hil⟩
      obtain ⟨g, cur, rfl, hWg, hg3, hcur⟩ := hrw i (f, c) hxi
      have hgz := lt_of_block hg3
      have hg5 := (hg4 g rfl hgz).trans hg3
      have hcL : (f, c) ∈ L := hS.mem_iff.1 (List.mem_iff_getElem?.2 ⟨i, hxi⟩)
      have hlkx := hlk f.name
      rw [hlks f c hcL] at hlkx
      simp only [Option.getD_some, Bool.false_eq_true, if_false] at hlkx
      have hxs : S = S.take i ++ (f, c) :: S.drop (i + 1) := by
        obtain ⟨h1, h2⟩ := List.getElem?_eq_some_iff.1 hxi
        rw [← h2, List.getElem_cons_drop, List.take_append_drop]
      have htake : S.take (i + 1) = S.take i ++ [(f, c)] := by
        rw [List.take_add_one, hxi]; rfl
      obtain ⟨fn, tmps, assign, body, hy, hR⟩ := hY _ _ _ _ _ (by omega) hzr hxs hJs
      simp only [encK] at hy
      have HT := Lib.hid htake
      have hcell : wr.cell? ⟨g, i, none⟩ = some (sv f.name) := by rw [cell?_heap, hg5]; exact hcur
      have HZ := Lib.hid hzr
      have HG := Lib.hid hgz
      have HB := Lib.hid hbxz
      have HM := Lib.hid hmz
      have hgG : g ∉ G := fun h => by have := hGW g h; omega
      have HW := Lib.hid hWz
      clear hxs htake hlk hlks hxi hsort hrw hrow hzr hgz hbxz hmz hWg hWz
      gi_wp2
      refine ⟨rfl, hR.mono ?_⟩
      rintro e W3 (⟨rfl, hJ3, hk3, hz3⟩ | ⟨rfl, hJx3⟩)
      · have hx5 := hk3.blk hx4 (Nat.lt_of_lt_of_le HB.out (Nat.le_trans (Nat.le_of_succ_le HW.out) (Nat.le_refl _))) hG1
        have hm5 := hk3.blk hm4 (Nat.lt_of_lt_of_le HM.out (Nat.le_trans (Nat.le_of_succ_le HW.out) (Nat.le_refl _))) hG2
        have ho5 := hk3.2 ⟨_, _, _, ho4⟩
        have hg6 := hk3.blk hg5 HG.out hgG
        gi_wp2
        go_roundw
        case rel => exact ⟨i + 1, by go_num, hil, by rw [HT.out]; exact hJ3, hz3, hx5, ho5, hm5, fun g' hg' _ => by cases hg'; rw [hg6, hg3]⟩
        case measure => simp only [intOf]; omega
      · gi_wp2
        refine bodyPost_ret (results_none rfl _ _ _) rfl ?_
        exact ⟨⟨_, rfl⟩, .inr ⟨_, by rw [← HT.out]; exact List.take_prefix _ _, hJx3⟩⟩
    · obtain rfl : i = S.length := by omega
      clear hlk hlks hsort hrw hrow hzr hbxz hmz hWz
      gi_wp2
      go_end0
      exact ⟨⟨_, rfl⟩, .inl ⟨w3.heap.size, _, by have := hF3.size; rw [World.size_alloc] at this; omega, by rw [List.take_length] at hJs; exact hJs, Frm.refl _ _⟩⟩
end Go.Proofs.YtlopfabbjilpnaaGreatDoor
