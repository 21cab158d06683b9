/- Package disk: Crash. -/
import Derived.Test.YtlopfabbjilpnaaGreatDoorDiskK
set_option linter.unusedSimpArgs false
set_option linter.unusedVariables false
namespace Go.Proofs.YtlopfabbjilpnaaGreatDoor
open Go.RowKit Go.MapKept
attribute [local go_sem] Oper.semAt_some

theorem i64w' {k : Int} (h0 : -9223372036854775808 ≤ k) (h : k ≤ 9223372036854775807) : IntKind.i64.wrap k = k := by
  simp only [IntKind.wrap, IntKind.bits, IntKind.signed, Bool.true_and]
  split <;> simp_all <;> omega
def leftV (keep : Int) (left : Option Nat) : Int := match left with | none => keep | some k => k
theorem leftL_none : ∀ l, leftL none l = none
  | [] => rfl
  | _ :: l => leftL_none l
theorem leftL_some (k : Nat) : ∀ l, ∃ j, leftL (some k) l = some j ∧ j ≤ k
  | [] => ⟨k, rfl, Nat.le_refl _⟩
  | f :: l => by
    obtain ⟨j, h1, h2⟩ := leftL_some (k - stayF (some k) f) l
    exact ⟨j, h1, by omega⟩

/-- What holds ahead of a round of Crash. -/
def CrashI (w : World) (b m : Nat) (L S : LF) (C : List AFile) (D : ADisk) (keep : Int) (left0 : Option Nat) (z : Nat) (pre : LF) (W : World) : Prop :=
  w.heap.size + 4 ≤ z ∧ W.heap[w.heap.size]? = some (.cells #[.int .i64 (leftV keep (leftL left0 (pre.map (·.1))))] 3 (0, 0)) ∧
      W.heap[b]? = some (.cells #[.map (some m), .int .i64 (D.room + (sumB (pre.map (·.1)) - sumB (crashL left0 (pre.map (·.1)))) : Nat), .int .i64 D.fuse, .bool false] 85 (0, 0)) ∧
      (∀ (i : Nat) (x : AFile × Nat), S[i]? = some x → ∃ y, (if i < pre.length then C[i]? = some y else x.1 = y) ∧ W.heap[x.2]? = some (.cells #[sv y.bytes, .int .i64 y.synced] 103 (0, 0))) ∧ Frm (b :: L.map (·.2)) w W
theorem crash_round {w W W₂ W3 w4 : World} {b m : Nat} {es : Array MapEntry} {clk : Nat} {L S pre post : LF} {C : List AFile} {D : ADisk} {keep lv : Int} {left0 lf : Option Nat} {z c rm st : Nat} {f : AFile} {G : List Nat}
    (hI : CrashI w b m L S C D keep left0 z pre W) (hF2 : Frm [w.heap.size + 2 + 1] W W₂) (hz2 : z ≤ W₂.heap.size) (hzW : z ≤ W.heap.size) (hbl : b < w.heap.size) (hcl : ∀ x ∈ L, x.2 < w.heap.size) (hx : S = pre ++ (f, c) :: post) (hlf : lf = leftL left0 (pre.map (·.1)))
    (hrm : rm = D.room + (sumB (pre.map (·.1)) - sumB (crashL left0 (pre.map (·.1))))) (hcL : (f, c) ∈ L) (hd : DiskIs w b m es clk L D) (hS : S.Perm L) (hC : C = crashL left0 (S.map (·.1))) (hG : G = b :: w.heap.size :: (w.heap.size + 2 + 1) :: L.map (·.2)) (hsy : f.synced ≤ f.bytes.length)
    (hst : stayF lf f = st) (hlv : leftV keep (leftF lf f) = lv) (hl3 : W3.heap[w.heap.size]? = some (.cells #[.int .i64 lv] 3 (0, 0))) (hF3 : Frm [w.heap.size] W₂ W3)
    (h4 : w4.heap[b]? = some (.cells #[.map (some m), .int .i64 (rm + (f.bytes.length - (f.synced + st)) : Nat), .int .i64 D.fuse, .bool false] 85 (0, 0)) ∧ w4.heap[c]? = some (.cells #[sv (f.bytes.take (f.synced + st)), .int .i64 f.synced] 103 (0, 0)) ∧ Frm [b, c] W3.drew w4) :
    KeepLD (w.heap.size + 2) W₂ w4 ∧ KpG G (K0 b m) z W w4 ∧ (CrashI w b m L S C D keep left0 z (pre ++ [(f, c)]) w4 ∧ z ≤ w4.heap.size) := by
  obtain ⟨h4z, hl, hb, hfl, hf⟩ := hI
  obtain ⟨hb4, hc4, hf4⟩ := h4
  have hcw := hcl _ hcL
  simp only at hcw
  have hFa : Frm [w.heap.size, b, c] W₂ w4 := (hF3.drew.mono (fun x hx => .inl (by simp at hx; simp [hx]))).trans (hf4.mono (fun x hx => .inl (by simp at hx ⊢; rcases hx with h | h <;> simp [h])))
  have hFb : Frm [w.heap.size + 2 + 1, w.heap.size, b, c] W w4 := (hF2.mono (fun x hx => .inl (by simp at hx; simp [hx]))).trans (hFa.mono (fun x hx => .inl (List.mem_cons_of_mem _ hx)))
  have hwW := hf.size
  have hmap : (pre ++ [(f, c)]).map (·.1) = pre.map (·.1) ++ [f] := by simp
  have hstl := stayF_le lf f
  have hcF := crashF_len lf f hsy
  have hnd := hd.nodup
  simp only [List.nodup_cons, List.mem_cons, not_or] at hnd
  refine ⟨keepLD_frm hFa (by omega) (by simp; omega) (by simp; omega), KpG.of_frm hFb hzW (fun x hx => ?_) ?_, ⟨h4z, ?_, ?_, fun i x hi => ?_, ?_⟩, Nat.le_trans hz2 hFa.size⟩
  · left
    rw [hG]
    simp only [List.mem_cons, List.not_mem_nil, or_false] at hx ⊢
    rcases hx with rfl | rfl | rfl | rfl
    · simp
    · simp
    · simp
    · exact .inr (.inr (.inr (List.mem_map.2 ⟨_, hcL, rfl⟩)))
  · rintro ⟨x, y, u, h⟩
    exact ⟨_, _, _, hb4⟩
  · rw [hmap, leftL_snoc, ← hlf, hlv]
    exact hf4.blk hl3 (by simp; omega)
  · rw [hmap, crashL_snoc, ← hlf, sumB_append, sumB_append]
    have h1 := crashL_sum left0 (pre.map (·.1))
    have e : D.room + (sumB (pre.map (·.1)) + sumB [f] - (sumB (crashL left0 (pre.map (·.1))) + sumB [crashF lf f])) = rm + (f.bytes.length - (f.synced + st)) := by
      have e1 : sumB [f] = f.bytes.length := by simp [sumB]
      have e2 : sumB [crashF lf f] = f.synced + st := by rw [← hst, ← hcF]; simp [sumB]
      rw [e1, e2, hrm]; omega
    rw [e]; exact hb4
  · have hxL := hS.mem_iff.1 (List.mem_iff_getElem?.2 ⟨i, hi⟩)
    have hxc := hcl _ hxL
    by_cases hip : i = pre.length
    · have : x = (f, c) := by rw [hx, hip] at hi; simpa using hi.symm
      subst this
      refine ⟨crashF lf f, ?_, by unfold crashF; rw [hst]; exact hc4⟩
      rw [if_pos (by simp; omega), hC, hx, List.map_append, crashL_append, List.getElem?_append_right (by rw [crashL_len]; simp; omega)]
      simp only [crashL_len, List.length_map, hip, Nat.sub_self, List.map_cons, crashL, ← hlf]
      rfl
    · have hne : x.2 ≠ c := fun e => by
        have h1 := nodup_inj hd.snds hxL hcL e
        subst h1
        clear e
        have hSn : (S.map fun x : AFile × Nat => x.2).Nodup := (hS.map fun x : AFile × Nat => x.2).nodup_iff.2 hd.snds
        have h2 : S[pre.length]? = some (f, c) := by rw [hx]; simp
        have a1 : i < S.length := (List.getElem?_eq_some_iff.1 hi).1
        have a2 : pre.length < S.length := (List.getElem?_eq_some_iff.1 h2).1
        have hEq : (S.map fun x : AFile × Nat => x.2)[i]'(by simpa using a1) = (S.map fun x : AFile × Nat => x.2)[pre.length]'(by simpa using a2) := by
          simp only [List.getElem_map]
          rw [(List.getElem?_eq_some_iff.1 hi).2, (List.getElem?_eq_some_iff.1 h2).2]
        have := (List.getElem_inj hSn).1 hEq
        exact hip this
      obtain ⟨y, hy1, hy2⟩ := hfl i x hi
      have hxb : x.2 ≠ b := fun e => hnd.1.2 (List.mem_map.2 ⟨x, hxL, e⟩)
      refine ⟨y, ?_, hFb.blk hy2 (by simp only [List.mem_cons, List.not_mem_nil, or_false, not_or]; exact ⟨by omega, by omega, hxb, hne⟩)⟩
      by_cases hlt : i < pre.length
      · rw [if_pos hlt] at hy1
        rw [if_pos (by simp; omega)]; exact hy1
      · rw [if_neg hlt] at hy1
        rw [if_neg (by simp; omega)]; exact hy1
  · refine hf.trans' hFb (fun x hx => ?_)
    simp only [List.mem_cons, List.not_mem_nil, or_false] at hx
    rcases hx with rfl | rfl | rfl | rfl
    · exact .inr (by omega)
    · exact .inr (by omega)
    · exact .inl (by simp)
    · exact .inl (List.mem_cons_of_mem _ (List.mem_map.2 ⟨_, hcL, rfl⟩))

set_option maxRecDepth 100000 in
set_option maxHeartbeats 1000000 in
theorem Crash1_any (p3 p2 b m : Nat) (es : Array MapEntry) (clk : Nat) (L : LF) (D : ADisk) (keep : Int) (w : World) (h3 : w.heap[p3]? = some (.cells #[.int .i64 keep] 3 (0, 0))) (h2 : w.heap[p2]? = some (.cells #[.pointer (some ⟨b, 0, none⟩)] 27 (0, 0)))
    (hd : DiskIs w b m es clk L D) (n3 : p3 ∉ fp b m L) (n2 : p2 ∉ fp b m L) (hk : ∀ f ∈ D.files, f.name.length ≤ 24) (hn : D.files.length ≤ 1000) (hms : D.mass ≤ 4294967296) (hsy : ∀ f ∈ D.files, f.synced ≤ f.bytes.length) (hkb : keep ≤ 9223372036854775807) (hdead : D.dead = false) :
    Calls Tryz.prog 54 #[.pointer (some ⟨p3, 0, none⟩), .pointer (some ⟨p2, 0, none⟩)] w (DRet w b (fp b m L) (0, crashed D keep)) := by
  obtain ⟨S, hS, hSD⟩ := order_exists hd.perm
  have HBL := Lib.hid (lt_of_block hd.own)
  have HML := Lib.hid (lt_of_block hd.map)
  have H3L := Lib.hid (lt_of_block h3)
  have H2L := Lib.hid (lt_of_block h2)
  have hSn : S.length ≤ 1000 := by have := congrArg List.length hSD; rw [List.length_map] at this; omega
  obtain ⟨q1, q2, q3⟩ := not_fp n3
  obtain ⟨q4, q5, q6⟩ := not_fp n2
  refine (callsIn_wide (n := 0)).1 ?_
  (refine callsIn_of_wp_marks Tryz.func54 rfl trivial ?_ rfl; simp only [Tryz.ntmps54, List.size_toArray, List.length_cons, List.length_nil, Nat.reduceAdd, Nat.reduceSub, Array.replicate_succ, Array.replicate_zero, List.push_toArray, List.append_toArray, List.nil_append, List.cons_append])
  gi_wp2_with (first | (refine ⟨trivial, rfl, ?_⟩; gi_at_call 52; refine (callsIn_wide.2 (sorted_any b _)).mono ?_; rintro e w5 ⟨rfl, rfl⟩))
  refine wpIn_named fun W5 hW5 => ?_
  have hbl := HBL.out
  have hml := HML.out
  have h3l := H3L.out
  have h2l := H2L.out
  have b0 : W5.heap[w.heap.size]? = some (.cells #[.int .i64 keep] 3 (0, 0)) := by rw [hW5]; simp [go_sem]
  have b1 : W5.heap[w.heap.size + 1]? = some (.cells #[.pointer (some ⟨b, 0, none⟩)] 27 (0, 0)) := by rw [hW5]; simp [go_sem]
  have hz : W5.heap.size = w.heap.size + 2 := by rw [hW5]; simp [go_sem]
  have hF : Frm [] w W5 := by
    rw [hW5]
    (repeat (first | (with_reducible exact Frm.refl _ _) | assumption | (with_reducible refine Frm.alloc ?_ _) | ((with_reducible refine Frm.setCell ?_ ?_ _); rotate_left; (first | (focus (left; simp; done)) | (focus (right; simp; done)) | (focus (right; simp; omega)))) | ((with_reducible refine Frm.put ?_ _ ?_); rotate_left; (first | (focus (left; simp; done)) | (focus (right; simp; done)) | (focus (right; simp; omega)))) | (with_reducible refine Frm.drew ?_) | (with_reducible refine Frm.drewN ?_ _)))
  clear hW5
  have hd5 := hd.frm hF (fun _ h => by cases h)
  have hlt := hd.lt
  have hcl : ∀ x ∈ L, x.2 < w.heap.size := fun x hx => hlt _ (by simp only [fp, List.mem_cons]; exact .inr (.inr (List.mem_map.2 ⟨x, hx, rfl⟩)))
  obtain ⟨left0, hl0⟩ : ∃ l, l = keepO keep := ⟨_, rfl⟩
  obtain ⟨C, hC⟩ : ∃ C, C = crashL left0 D.files := ⟨_, rfl⟩
  have hkv : leftV keep left0 = keep := by
    rw [hl0]; unfold keepO leftV
    split
    · rename_i h; split at h
      · rfl
      · cases h
    · rename_i k h; split at h
      · cases h
      · injection h with h; omega
  obtain ⟨G, hG⟩ : ∃ G, G = b :: w.heap.size :: (W5.heap.size + 1) :: L.map (·.2) := ⟨_, rfl⟩
  have hmG : m ∉ G := by
    rw [hG]
    have := hd.nodup
    simp only [List.nodup_cons, List.mem_cons, not_or] at this ⊢
    exact ⟨fun e => this.1.1 e.symm, by omega, by omega, this.2.1⟩
  have hxG : w.heap.size + 1 ∉ G := by
    rw [hG]
    simp only [List.mem_cons, not_or, List.mem_map, not_exists, not_and]
    exact ⟨by omega, by omega, by omega, fun x hx e => by have := hcl x hx; omega⟩
  have hGl : ∀ x ∈ G, x < W5.heap.size + 2 := by
    rw [hG]
    intro x hx
    simp only [List.mem_cons, List.mem_map] at hx
    rcases hx with rfl | rfl | rfl | ⟨y, hy, rfl⟩
    · omega
    · omega
    · omega
    · have := hcl y hy; omega
  subst hG
  subst hC
  subst hl0
  refine wp_rangeZ (w0 := W5) (gf := 90) (lb := #[.pointer (some ⟨w.heap.size + 1, 0, none⟩)]) rfl (enters_of Tryz.func90 (by kernel_rfl) rfl)
    (sorted_seq (w.heap.size + 1) b m es clk L S D W5 b1 hd5 hS hSD hk hn _ hxG hmG) (Frm.refl _ _) (fun _ => rfl) (by simp) hGl
    (fun A B C h1 h2 h => h2 (h1 h)) ?_ ?_
    (CrashI w b m L S (crashL (keepO keep) D.files) D keep (keepO keep))
    (fun _ _ _ => False) ?_ (fun _ _ _ _ _ h => h.elim) ?_ ?_ ?_ (fun _ _ _ _ h _ => h.elim)
  · rintro W o _ ⟨x, y, z, h⟩
    exact ⟨x, y, z, (World.putObj_heap_other (by omega)).trans h⟩
  · intro W W' hfin hz'
    exact keepLD_frm hfin hz' (by simp) (by simp)
  · rintro z pre A B hAB ⟨h4, hl, hb, hx, hf⟩
    refine ⟨h4, hAB.blk hl (by simp; omega), hAB.blk hb (by simp; omega), fun i x hi => ?_, hf.trans' hAB (by simp; omega)⟩
    obtain ⟨y, h1, h2⟩ := hx i x hi
    have := hcl x (hS.mem_iff.1 (List.mem_iff_getElem?.2 ⟨i, hi⟩))
    exact ⟨y, h1, hAB.blk h2 (by simp; omega)⟩
  · rintro z W hW h1 h2
    refine ⟨by omega, ?_, ?_, fun i x hi => ⟨x.1, by simp, ?_⟩, (hF.nil (F := _)).trans hW.nil⟩
    · rw [show leftL (keepO keep) ([].map fun x : AFile × Nat => x.1) = (keepO keep) from rfl, hkv]; exact hW.blk b0 (by simp)
    · have := hW.blk hd5.own (by simp)
      rw [hdead] at this
      simpa [sumB, crashL] using this
    · exact hW.blk (hd5.file x (hS.mem_iff.1 (List.mem_iff_getElem?.2 ⟨i, hi⟩))) (by simp)
  · rintro z pre ⟨f, c⟩ post W h2z hzW hx hI
    have HPRE := Lib.hid hI
    have hprs : sumB (pre.map (·.1)) ≤ sumB D.files := by rw [← hSD, hx, List.map_append, sumB_append]; omega
    obtain ⟨h4z, hl, hb, hfl, hf⟩ := hI
    have hi : S[pre.length]? = some (f, c) := by rw [hx]; simp
    have hcL : (f, c) ∈ L := hS.mem_iff.1 (List.mem_iff_getElem?.2 ⟨_, hi⟩)
    have hcw := hcl _ hcL
    obtain ⟨y, hy1, hc0⟩ := hfl _ _ hi
    rw [if_neg (Nat.lt_irrefl _)] at hy1
    simp only at hy1 hcw hc0
    subst hy1
    have hfD : f ∈ D.files := hd.perm.mem_iff.1 (List.mem_map.2 ⟨(f, c), hcL, rfl⟩)
    have hsyf := hsy f hfD
    have hflen := len_le_sumB hfD
    have hmm := hms
    unfold ADisk.mass at hmm
    have h3w := hf.blk h3 (by simp only [List.mem_cons, not_or, List.mem_map, not_exists, not_and]; exact ⟨q1, fun x hx e => q3 x hx e.symm⟩)
    have h2w := hf.blk h2 (by simp only [List.mem_cons, not_or, List.mem_map, not_exists, not_and]; exact ⟨q4, fun x hx e => q6 x hx e.symm⟩)
    obtain ⟨hcb, hcm, hbm⟩ := hd.ne hcL
    simp only [encK]
    gi_wp2
    refine ⟨⟨rfl, rfl⟩, fun W₂ hzz hF2 => ?_⟩
    have hz2 : z ≤ W₂.heap.size := by omega
    have hl2 := hF2.blk hl (by simp; omega)
    have hb2 := hF2.blk hb (by simp; omega)
    have hc2 := hF2.blk hc0 (by simp; omega)
    have h32 := hF2.blk h3w (by simp; omega)
    have h22 := hF2.blk h2w (by simp; omega)
    obtain ⟨lf, hlf⟩ : ∃ lf, lf = leftL (keepO keep) (pre.map (·.1)) := ⟨_, rfl⟩
    rw [← hlf] at hl2
    obtain ⟨rm, hrm⟩ : ∃ rm, rm = D.room + (sumB (pre.map (·.1)) - sumB (crashL (keepO keep) (pre.map (·.1)))) := ⟨_, rfl⟩
    rw [← hrm] at hb2
    have hrmb : rm + f.bytes.length ≤ 8589934592 := by omega
    have HW2 := Lib.hid hF2
    have HSD := Lib.hid hSD
    have HS := Lib.hid hS
    have HD := Lib.hid hd
    have HCLL := Lib.hid hcL
    have HZ := Lib.hid hz2
    have HZW := Lib.hid hzW
    have HB := Lib.hid (And.intro hbl (And.intro hml (And.intro h3l (And.intro h2l hcw))))
    have HCL := Lib.hid hcl
    subst hx
    have HLF := Lib.hid hlf
    have HRM := Lib.hid hrm
    have HI := Lib.hid hi
    clear hprs hSD hS hd hcL hk hn hms hsy hmm hflen hl hb hfl hf hc0 h3w h2w hF2 hz2 h4z hzW hzz hbl hml h3l h2l hcw hlf hrm hi h3 h2 b0 b1 hkv hd5 hcl hlt
    obtain ⟨r1, r2, _, _⟩ := old_ne (HB.out.1)
    obtain ⟨r3, r4, _, _⟩ := old_ne (HB.out.2.2.2.2)
    obtain ⟨r5, r6, _, _⟩ := old_ne (HB.out.2.2.2.1)
    obtain ⟨a, ha⟩ : ∃ a : Nat, a = f.bytes.length - f.synced := ⟨_, rfl⟩
    have hs0 : IntKind.i64.wrap ((f.bytes.length : Int) - f.synced) = (a : Int) := by rw [i64w' (by omega) (by omega)]; omega
    have hale : a ≤ f.bytes.length - f.synced := by omega
    have HAA := Lib.hid ha
    clear ha
    gi_wp2
    refine wpIn_region_quiet_round rfl (by kernel_rfl) (by kernel_rfl) (by kernel_rfl) ?_
    repeat (gi_big_quiet_step (fail))
    refine wpQuietIn_nil ?_
    intro _ hw'
    obtain ⟨nq, hw''⟩ := hw'
    subst hw''
    by_cases hk0 : keep < 0
    · have t1 : decide ((0 : Int) ≤ keep) = false := dec_no (by omega)
      have hlf0 : lf = none := by rw [HLF.out]; unfold keepO; rw [if_pos hk0]; exact leftL_none _
      rw [hlf0] at hl2
      simp only [leftV] at hl2
      have HLF0 := Lib.hid hlf0
      clear hlf0
      gi_wp2
      refine wpIn_named fun W3 hW3 => ?_
      have hb3 : W3.heap[b]? = some (.cells #[.map (some m), .int .i64 rm, .int .i64 D.fuse, .bool false] 85 (0, 0)) := by rw [hW3]; simp [go_sem, hb2, r1, r2]
      have hc3 : W3.heap[c]? = some (.cells #[sv f.bytes, .int .i64 f.synced] 103 (0, 0)) := by rw [hW3]; simp [go_sem, hc2, r3, r4]
      have h33 : W3.heap[p2]? = some (.cells #[.pointer (some ⟨b, 0, none⟩)] 27 (0, 0)) := by rw [hW3]; simp [go_sem, h22, r5, r6]
      have hl3 : W3.heap[w.heap.size]? = some (.cells #[.int .i64 keep] 3 (0, 0)) := by rw [hW3]; simp [go_sem, hl2]
      have hF3 : Frm [w.heap.size] W₂ W3 := by rw [hW3]; (repeat (first | (with_reducible exact Frm.refl _ _) | assumption | (with_reducible refine Frm.alloc ?_ _) | ((with_reducible refine Frm.setCell ?_ ?_ _); rotate_left; (first | (focus (left; simp; done)) | (focus (right; simp; done)) | (focus (right; simp; omega)))) | ((with_reducible refine Frm.put ?_ _ ?_); rotate_left; (first | (focus (left; simp; done)) | (focus (right; simp; done)) | (focus (right; simp; omega)))) | (with_reducible refine Frm.drew ?_) | (with_reducible refine Frm.drewN ?_ _)))
      have hstp : stayF lf f = a := by rw [HLF0.out, HAA.out]; rfl
      have hlvp : leftV keep (leftF lf f) = keep := by rw [HLF0.out]; rfl
      clear hW3
      have hfin := fun w4 h4 => crash_round (w4 := w4) (W3 := W3) HPRE.out HW2.out HZ.out HZW.out HB.out.1 HCL.out rfl HLF.out HRM.out HCLL.out HD.out HS.out (by rw [HSD.out]) rfl hsyf hstp hlvp hl3 hF3 h4
      have HFIN := Lib.hid hfin
      have hs1 : IntKind.i64.wrap ((f.synced : Int) + (a : Int)) = ((f.synced + a : Nat) : Int) := by rw [i64w' (by omega) (by omega)]; omega
      have hsh := fun W h1 h2 => shorten_any b c (.map (some m)) (.bool false) (.int .i64 D.fuse) rm f.bytes (.int .i64 f.synced) (f.synced + a) W h1 h2 hcb (by omega) (by omega)
      have HSH := Lib.hid hsh
      clear hfin hsh hstp hlvp hF3 hl3
      refine wpIn_region_round rfl (by kernel_rfl) (by kernel_rfl) ?_
      refine wpAnyIn_take (i := 1) (v := ?_) rfl rfl (by kernel_rfl) (by kernel_rfl) (by kernel_rfl) (fun _ _ _ h => h) ⟨Or.inl ⟨by rfl, ?_⟩, fun _ => rfl⟩ ?_
      rotate_left
      · intro w; go_simp; all_goals (with_reducible rfl)
      refine wpAnyIn_take (i := 2) (v := ?_) rfl rfl (by kernel_rfl) (by kernel_rfl) (by kernel_rfl) (fun _ _ _ h => h) ⟨Or.inl ⟨by rfl, ?_⟩, fun _ => rfl⟩ ?_
      rotate_left
      · intro w; go_simp; all_goals (with_reducible rfl)
      refine wpAnyIn_take (i := 3) (v := ?_) rfl rfl (by kernel_rfl) (by kernel_rfl) (by kernel_rfl) (fun _ _ _ h => h) ⟨Or.inl ⟨by rfl, ?_⟩, fun _ => rfl⟩ ?_
      rotate_left
      · intro w; go_simp; all_goals (with_reducible rfl)
      refine wpAnyIn_take (i := 4) (v := ?_) rfl rfl (by kernel_rfl) (by kernel_rfl) (by kernel_rfl) (fun _ _ _ h => h) ⟨Or.inl ⟨by rfl, ?_⟩, fun _ => rfl⟩ ?_
      rotate_left
      · intro w; go_simp; all_goals (with_reducible rfl)
      refine wpAnyIn_take (i := 6) (v := ?_) rfl rfl (by kernel_rfl) (by kernel_rfl) (by kernel_rfl) (fun _ _ _ h => h) ⟨Or.inl ⟨by rfl, ?_⟩, fun _ => rfl⟩ ?_
      rotate_left
      · intro w; go_simp; all_goals (with_reducible rfl)
      refine wpAnyIn_ready (rs := [0, 5]) (by kernel_rfl) (by simp) ?_
      refine AllReadyIn.cons rfl (fun K hK => ?_) ?_
      · go_simp
        refine hK _ _ ?_
        clear hK K
        refine wpAnyIn_ready (rs := [5]) (by kernel_rfl) (by simp) ?_
        refine AllReadyIn.cons rfl (fun K hK => ?_) ?_
        · go_simp
          refine hK _ _ ?_
          clear hK K
          refine wpAnyIn_take (i := 7) (v := ?_) rfl rfl (by kernel_rfl) (by kernel_rfl) (by kernel_rfl) (fun _ _ _ h => h) ⟨Or.inl ⟨by rfl, ?_⟩, fun _ => rfl⟩ ?_
          rotate_left
          · intro w; go_simp; all_goals (with_reducible rfl)
          refine wpAnyIn_ready (rs := [8]) (by kernel_rfl) (by simp) ?_
          refine AllReadyIn.cons rfl (fun K hK => ?_) ?_
          · go_simp
            refine ⟨trivial, rfl, ?_⟩
            gi_at_call 55
            refine (callsIn_wide.2 (HSH.out _ (by simp [go_sem, hb3]) (by simp [go_sem, hc3]))).mono ?_
            rintro e w4 ⟨rfl, hb4, hc4, hf4⟩
            have hd4 := And.intro hb4 (And.intro hc4 hf4)
            go_simp
            refine hK _ _ ?_
            clear hK K
            refine wpAnyIn_done (by kernel_rfl) ?_ _
            gi_wp2
            exact HFIN.out _ hd4
          exact AllReadyIn.nil
        exact AllReadyIn.nil
      refine AllReadyIn.cons rfl (fun K hK => ?_) ?_
      · go_simp
        refine hK _ _ ?_
        clear hK K
        refine wpAnyIn_take (i := 7) (v := ?_) rfl rfl (by kernel_rfl) (by kernel_rfl) (by kernel_rfl) (fun _ _ _ h => h) ⟨Or.inl ⟨by rfl, ?_⟩, fun _ => rfl⟩ ?_
        rotate_left
        · intro w; go_simp; all_goals (with_reducible rfl)
        refine wpAnyIn_ready (rs := [0]) (by kernel_rfl) (by simp) ?_
        refine AllReadyIn.cons rfl (fun K hK => ?_) ?_
        · go_simp
          refine hK _ _ ?_
          clear hK K
          refine wpAnyIn_ready (rs := [8]) (by kernel_rfl) (by simp) ?_
          refine AllReadyIn.cons rfl (fun K hK => ?_) ?_
          · go_simp
            refine ⟨trivial, rfl, ?_⟩
            gi_at_call 55
            refine (callsIn_wide.2 (HSH.out _ (by simp [go_sem, hb3]) (by simp [go_sem, hc3]))).mono ?_
            rintro e w4 ⟨rfl, hb4, hc4, hf4⟩
            have hd4 := And.intro hb4 (And.intro hc4 hf4)
            go_simp
            refine hK _ _ ?_
            clear hK K
            refine wpAnyIn_done (by kernel_rfl) ?_ _
            gi_wp2
            exact HFIN.out _ hd4
          exact AllReadyIn.nil
        exact AllReadyIn.nil
      exact AllReadyIn.nil
    · have t1 : decide ((0 : Int) ≤ keep) = true := dec_yes (by omega)
      obtain ⟨j, hj, hjk⟩ : ∃ j, lf = some j ∧ j ≤ keep.toNat := by rw [HLF.out]; unfold keepO; rw [if_neg hk0]; exact leftL_some _ _
      rw [hj] at hl2
      simp only [leftV] at hl2
      obtain ⟨st, hst⟩ : ∃ st : Nat, st = min a j := ⟨_, rfl⟩
      have hstle : st ≤ f.bytes.length - f.synced := by omega
      have hstj : st ≤ j := by omega
      have hjb : j ≤ 9223372036854775807 := by omega
      have hmn : min (a : Int) (j : Int) = (st : Int) := by omega
      have HST := Lib.hid hst
      have HJ := Lib.hid hj
      clear hst hj
      gi_wp2
      refine wpIn_named fun W3 hW3 => ?_
      have hb3 : W3.heap[b]? = some (.cells #[.map (some m), .int .i64 rm, .int .i64 D.fuse, .bool false] 85 (0, 0)) := by rw [hW3]; simp [go_sem, hb2, r1, r2]
      have hc3 : W3.heap[c]? = some (.cells #[sv f.bytes, .int .i64 f.synced] 103 (0, 0)) := by rw [hW3]; simp [go_sem, hc2, r3, r4]
      have h33 : W3.heap[p2]? = some (.cells #[.pointer (some ⟨b, 0, none⟩)] 27 (0, 0)) := by rw [hW3]; simp [go_sem, h22, r5, r6]
      have hl3 : W3.heap[w.heap.size]? = some (.cells #[.int .i64 ((j : Int) - (st : Int))] 3 (0, 0)) := by rw [hW3]; simp [go_sem, hl2]
      have hF3 : Frm [w.heap.size] W₂ W3 := by rw [hW3]; (repeat (first | (with_reducible exact Frm.refl _ _) | assumption | (with_reducible refine Frm.alloc ?_ _) | ((with_reducible refine Frm.setCell ?_ ?_ _); rotate_left; (first | (focus (left; simp; done)) | (focus (right; simp; done)) | (focus (right; simp; omega)))) | ((with_reducible refine Frm.put ?_ _ ?_); rotate_left; (first | (focus (left; simp; done)) | (focus (right; simp; done)) | (focus (right; simp; omega)))) | (with_reducible refine Frm.drew ?_) | (with_reducible refine Frm.drewN ?_ _)))
      have hstp : stayF lf f = st := by rw [HJ.out, HST.out, HAA.out]; rfl
      have hlvp : leftV keep (leftF lf f) = ((j : Int) - (st : Int)) := by rw [HJ.out]; show (((j - stayF (some j) f : Nat)) : Int) = _; rw [show stayF (some j) f = st by rw [HST.out, HAA.out]; rfl]; omega
      clear hW3
      have hfin := fun w4 h4 => crash_round (w4 := w4) (W3 := W3) HPRE.out HW2.out HZ.out HZW.out HB.out.1 HCL.out rfl HLF.out HRM.out HCLL.out HD.out HS.out (by rw [HSD.out]) rfl hsyf hstp hlvp hl3 hF3 h4
      have HFIN := Lib.hid hfin
      have hs1 : IntKind.i64.wrap ((f.synced : Int) + (st : Int)) = ((f.synced + st : Nat) : Int) := by rw [i64w' (by omega) (by omega)]; omega
      have hsh := fun W h1 h2 => shorten_any b c (.map (some m)) (.bool false) (.int .i64 D.fuse) rm f.bytes (.int .i64 f.synced) (f.synced + st) W h1 h2 hcb (by omega) (by omega)
      have HSH := Lib.hid hsh
      clear hfin hsh hstp hlvp hF3 hl3
      refine wpIn_region_round rfl (by kernel_rfl) (by kernel_rfl) ?_
      refine wpAnyIn_take (i := 1) (v := ?_) rfl rfl (by kernel_rfl) (by kernel_rfl) (by kernel_rfl) (fun _ _ _ h => h) ⟨Or.inl ⟨by rfl, ?_⟩, fun _ => rfl⟩ ?_
      rotate_left
      · intro w; go_simp; all_goals (with_reducible rfl)
      refine wpAnyIn_take (i := 2) (v := ?_) rfl rfl (by kernel_rfl) (by kernel_rfl) (by kernel_rfl) (fun _ _ _ h => h) ⟨Or.inl ⟨by rfl, ?_⟩, fun _ => rfl⟩ ?_
      rotate_left
      · intro w; go_simp; all_goals (with_reducible rfl)
      refine wpAnyIn_take (i := 3) (v := ?_) rfl rfl (by kernel_rfl) (by kernel_rfl) (by kernel_rfl) (fun _ _ _ h => h) ⟨Or.inl ⟨by rfl, ?_⟩, fun _ => rfl⟩ ?_
      rotate_left
      · intro w; go_simp; all_goals (with_reducible rfl)
      refine wpAnyIn_take (i := 4) (v := ?_) rfl rfl (by kernel_rfl) (by kernel_rfl) (by kernel_rfl) (fun _ _ _ h => h) ⟨Or.inl ⟨by rfl, ?_⟩, fun _ => rfl⟩ ?_
      rotate_left
      · intro w; go_simp; all_goals (with_reducible rfl)
      refine wpAnyIn_take (i := 6) (v := ?_) rfl rfl (by kernel_rfl) (by kernel_rfl) (by kernel_rfl) (fun _ _ _ h => h) ⟨Or.inl ⟨by rfl, ?_⟩, fun _ => rfl⟩ ?_
      rotate_left
      · intro w; go_simp; all_goals (with_reducible rfl)
      refine wpAnyIn_ready (rs := [0, 5]) (by kernel_rfl) (by simp) ?_
      refine AllReadyIn.cons rfl (fun K hK => ?_) ?_
      · go_simp
        refine hK _ _ ?_
        clear hK K
        refine wpAnyIn_ready (rs := [5]) (by kernel_rfl) (by simp) ?_
        refine AllReadyIn.cons rfl (fun K hK => ?_) ?_
        · go_simp
          refine hK _ _ ?_
          clear hK K
          refine wpAnyIn_take (i := 7) (v := ?_) rfl rfl (by kernel_rfl) (by kernel_rfl) (by kernel_rfl) (fun _ _ _ h => h) ⟨Or.inl ⟨by rfl, ?_⟩, fun _ => rfl⟩ ?_
          rotate_left
          · intro w; go_simp; all_goals (with_reducible rfl)
          refine wpAnyIn_ready (rs := [8]) (by kernel_rfl) (by simp) ?_
          refine AllReadyIn.cons rfl (fun K hK => ?_) ?_
          · go_simp
            refine ⟨trivial, rfl, ?_⟩
            gi_at_call 55
            refine (callsIn_wide.2 (HSH.out _ (by simp [go_sem, hb3]) (by simp [go_sem, hc3]))).mono ?_
            rintro e w4 ⟨rfl, hb4, hc4, hf4⟩
            have hd4 := And.intro hb4 (And.intro hc4 hf4)
            go_simp
            refine hK _ _ ?_
            clear hK K
            refine wpAnyIn_done (by kernel_rfl) ?_ _
            gi_wp2
            exact HFIN.out _ hd4
          exact AllReadyIn.nil
        exact AllReadyIn.nil
      refine AllReadyIn.cons rfl (fun K hK => ?_) ?_
      · go_simp
        refine hK _ _ ?_
        clear hK K
        refine wpAnyIn_take (i := 7) (v := ?_) rfl rfl (by kernel_rfl) (by kernel_rfl) (by kernel_rfl) (fun _ _ _ h => h) ⟨Or.inl ⟨by rfl, ?_⟩, fun _ => rfl⟩ ?_
        rotate_left
        · intro w; go_simp; all_goals (with_reducible rfl)
        refine wpAnyIn_ready (rs := [0]) (by kernel_rfl) (by simp) ?_
        refine AllReadyIn.cons rfl (fun K hK => ?_) ?_
        · go_simp
          refine hK _ _ ?_
          clear hK K
          refine wpAnyIn_ready (rs := [8]) (by kernel_rfl) (by simp) ?_
          refine AllReadyIn.cons rfl (fun K hK => ?_) ?_
          · go_simp
            refine ⟨trivial, rfl, ?_⟩
            gi_at_call 55
            refine (callsIn_wide.2 (HSH.out _ (by simp [go_sem, hb3]) (by simp [go_sem, hc3]))).mono ?_
            rintro e w4 ⟨rfl, hb4, hc4, hf4⟩
            have hd4 := And.intro hb4 (And.intro hc4 hf4)
            go_simp
            refine hK _ _ ?_
            clear hK K
            refine wpAnyIn_done (by kernel_rfl) ?_ _
            gi_wp2
            exact HFIN.out _ hd4
          exact AllReadyIn.nil
        exact AllReadyIn.nil
      exact AllReadyIn.nil
  · rintro z W2 W' W'' h2z ⟨h4z, hl, hb, hfl, hf⟩ hfin hA hz' hDf
    simp only [Exit.inBlock, Exit.then]
    have hb1 := hA.blk (hfin.blk hb (by simp)) (by simp; omega)
    have h2a := hA.blk (hfin.blk (hf.blk h2 (by simp only [List.mem_cons, not_or, List.mem_map, not_exists, not_and]; exact ⟨q4, fun x hx e => q6 x hx e.symm⟩)) (by simp)) (by simp; omega)
    have hsz : W5.heap.size < W''.heap.size := lt_of_block hDf
    have hFW : Frm (b :: L.map (·.2)) w W'' := (hf.trans' hfin (by simp)).trans' hA (by simp; omega)
    have hmap1 := hFW.blk hd.map (by
      have := hd.nodup
      simp only [List.nodup_cons, List.mem_cons, not_or] at this ⊢
      exact ⟨fun e => this.1.1 e.symm, this.2.1⟩)
    have hoff := fun W h => off_any b (.map (some m)) (D.room + (sumB (S.map (·.1)) - sumB (crashL (keepO keep) (S.map (·.1)))) : Nat) D.fuse false W h
    have hcont : ∀ x ∈ L, W''.heap[x.2]? = some (.cells #[sv (byName (crashL (keepO keep) D.files) x.1).bytes, .int .i64 (byName (crashL (keepO keep) D.files) x.1).synced] 103 (0, 0)) := fun x hx => by
      obtain ⟨i, hi⟩ := List.mem_iff_getElem?.1 (hS.mem_iff.2 hx)
      obtain ⟨y, h1, h2⟩ := hfl i x hi
      rw [if_pos (List.getElem?_eq_some_iff.1 hi).1] at h1
      have h3 : D.files[i]? = some x.1 := by rw [← hSD, List.getElem?_map, hi]; rfl
      have h4 := byName_at hd.sorted (crashL_names (keepO keep) D.files) h3
      rw [h4] at h1
      injection h1 with h1
      rw [h1]
      have := hcl x hx
      exact hA.blk (hfin.blk h2 (by simp)) (by simp; omega)
    have HDf := Lib.hid hDf
    have HB1 := Lib.hid (And.intro hsz (And.intro hbl hz))
    have HFW := Lib.hid hFW
    have HM1 := Lib.hid hmap1
    have HCO := Lib.hid hcont
    have HCL := Lib.hid hcl
    have HSD := Lib.hid hSD
    clear hDf hsz hFW hmap1 hcont hcl hl hfl hf hfin hA hz' h4z h2z hbl hml h3l h2l hb b0 b1 hxG hGl hmG h3 h2 hkv hlt hz
    gi_wp2_with (refine ⟨trivial, rfl, ?_⟩; gi_at_call 56; refine (callsIn_wide.2 (hoff _ hb1)).mono ?_; rintro e w9 ⟨rfl, hb9, hF9⟩)
    obtain ⟨hsz, hbl, hz⟩ := HB1.out
    have hD9 := hF9.blk HDf.out (by simp; omega)
    have hlt9 := lt_of_block hD9
    have hput : ∀ {k : Nat} {o : Obj}, w9.heap[k]? = some o → k ≠ W5.heap.size → (w9.putObj W5.heap.size (.deferred none)).heap[k]? = some o := fun h hk => (World.putObj_heap_other hk).trans h
    refine leave_one (D := W5.heap.size) (v := .int .i64 0) rfl hD9 (by simp [results, Tryz.results54, go_sem]) ?_
    have hmb : m ≠ b := fun e => by have := hd.nodup; simp only [List.nodup_cons, List.mem_cons, not_or] at this; exact this.1.1 e.symm
    have hml := hd.lt m (by simp [fp])
    refine ⟨rfl, _, ⟨m, es, clk, _, hd.redo (byName (crashL (keepO keep) D.files)) (byName_name _) (crashed D keep) (byName_map hd.sorted (crashL_names _ _)).symm ?_ ?_ (fun x hx => ?_), rfl⟩, ?_, fun x hx => .inl ?_⟩
    · refine hput ?_ (by omega)
      rw [hb9]
      have : D.room + (sumB (S.map (·.1)) - sumB (crashL (keepO keep) (S.map (·.1)))) = (crashed D keep).room := by rw [HSD.out]; rfl
      rw [this]; rfl
    · exact hput (hF9.blk HM1.out (by simpa using hmb)) (by omega)
    · have hxl := HCL.out x hx
      refine hput (hF9.blk (HCO.out x hx) ?_) (by omega)
      simp only [List.mem_singleton]
      have := hd.nodup
      simp only [List.nodup_cons, List.mem_cons, not_or] at this
      exact fun e => this.1.2 (List.mem_map.2 ⟨x, hx, e⟩)
    · refine (HFW.out.mono (G := fp b m L) (fun x hx => .inl ?_)).trans' ((hF9.mono (G := [W5.heap.size, b]) (fun x hx => .inl (by simp at hx; simp [hx]))).trans' (frm_putObj _ _ _) (by simp)) (fun x hx => ?_)
      · simp only [List.mem_cons] at hx
        simp only [fp, List.mem_cons]
        rcases hx with h | h
        · exact .inl h
        · exact .inr (.inr h)
      · simp only [List.mem_cons, List.not_mem_nil, or_false] at hx
        rcases hx with rfl | rfl
        · exact .inr (by omega)
        · exact .inl (by simp [fp])
    · have e : (L.map fun x : AFile × Nat => (byName (crashL (keepO keep) D.files) x.1, x.2)).map (·.2) = L.map (·.2) := by rw [List.map_map]; rfl
      unfold fp at hx ⊢
      rw [e] at hx
      exact hx

set_option maxRecDepth 100000 in
theorem Crash_any (b : Nat) (D : ADisk) (F : List Nat) (keep : Int) (w : World) (hD : DiskAt w b D F) (hk : ∀ f ∈ D.files, f.name.length ≤ 24) (hn : D.files.length ≤ 1000) (hms : D.mass ≤ 4294967296) (hsy : ∀ f ∈ D.files, f.synced ≤ f.bytes.length) (hkb : keep ≤ 9223372036854775807) :
    Calls Tryz.prog 17 #[.pointer (some ⟨b, 0, none⟩), .int .i64 keep] w (DRet w b F (crashD D keep)) := by
  have hD0 := hD
  obtain ⟨m, es, clk, L, hd, rfl⟩ := hD
  have ho := hd.own
  have hlt := hd.lt
  obtain ⟨r1, r2, r3, r4⟩ := old_ne (lt_of_block ho)
  cases hdead : D.dead
  · rw [hdead] at ho
    have hR := Lib.hid (show crashD D keep = (0, crashed D keep) by simp [crashD, hdead])
    have hc := fun W h3 h2 (hW : Frm [] w W) => Crash1_any (w.heap.size + 1) w.heap.size b m es clk L D keep W h3 h2 (hd.frm hW (fun _ h => by cases h)) (not_mem_of_lt hlt) (not_mem_of_lt (k := 0) hlt) hk hn hms hsy hkb hdead
    have HC := Lib.hid hc
    clear hc hk hn hms hsy hlt hd
    go_enter Tryz.func17, Tryz.ntmps17
    go_wp2_with (first | (go_at_call 53; go_in) | (go_at_call 54; refine (HC.out _ (by simp [go_sem]) (by simp [go_sem]) (by (repeat (first | (with_reducible exact Frm.refl _ _) | assumption | (with_reducible refine Frm.alloc ?_ _) | ((with_reducible refine Frm.setCell ?_ ?_ _); rotate_left; (first | (focus (left; simp; done)) | (focus (right; simp; done)) | (focus (right; simp; omega)))) | ((with_reducible refine Frm.put ?_ _ ?_); rotate_left; (first | (focus (left; simp; done)) | (focus (right; simp; done)) | (focus (right; simp; omega)))) | (with_reducible refine Frm.drew ?_) | (with_reducible refine Frm.drewN ?_ _))))).mono ?_; intro e w' hq; have hq2 := DRet.from (w := w) (by (repeat (first | (with_reducible exact Frm.refl _ _) | assumption | (with_reducible refine Frm.alloc ?_ _) | ((with_reducible refine Frm.setCell ?_ ?_ _); rotate_left; (first | (focus (left; simp; done)) | (focus (right; simp; done)) | (focus (right; simp; omega)))) | ((with_reducible refine Frm.put ?_ _ ?_); rotate_left; (first | (focus (left; simp; done)) | (focus (right; simp; done)) | (focus (right; simp; omega)))) | (with_reducible refine Frm.drew ?_) | (with_reducible refine Frm.drewN ?_ _)))) hq; clear hq; obtain ⟨rfl, hq3⟩ := hq2))
    go_ret
    rw [hR.out]
    exact ⟨rfl, hq3⟩
  · rw [hdead] at ho
    have hR := Lib.hid (show crashD D keep = (8, D) by simp [crashD, hdead])
    clear hk hn hms hsy hlt hd
    go_enter Tryz.func17, Tryz.ntmps17
    go_wp2_with (go_at_call 53; go_in)
    go_ret
    rw [hR.out]
    exact DRet.same hD0 (by (repeat (first | (with_reducible exact Frm.refl _ _) | assumption | (with_reducible refine Frm.alloc ?_ _) | ((with_reducible refine Frm.setCell ?_ ?_ _); rotate_left; (first | (focus (left; simp; done)) | (focus (right; simp; done)) | (focus (right; simp; omega)))) | ((with_reducible refine Frm.put ?_ _ ?_); rotate_left; (first | (focus (left; simp; done)) | (focus (right; simp; done)) | (focus (right; simp; omega)))) | (with_reducible refine Frm.drew ?_) | (with_reducible refine Frm.drewN ?_ _)))) rfl
end Go.Proofs.YtlopfabbjilpnaaGreatDoor
