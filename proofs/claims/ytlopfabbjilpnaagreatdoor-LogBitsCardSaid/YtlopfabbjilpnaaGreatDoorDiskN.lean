/- Package disk: Turn. -/
import Derived.Test.YtlopfabbjilpnaaGreatDoorDiskM
import Derived.Laws.BitsAllLaws
set_option linter.unusedSimpArgs false
set_option linter.unusedVariables false
namespace Go.Proofs.YtlopfabbjilpnaaGreatDoor
open Go.RowKit Go.MapKept
attribute [local go_sem] Oper.semAt_some

/-- A byte of which a bit turned. -/
def turnC (c : UInt8) (k : Nat) : UInt8 := UInt8.ofNat (c.toNat ^^^ 2 ^ k)
theorem xor_pow_lt : (List.range 256).all (fun c => (List.range 8).all fun k => decide ((c ^^^ 2 ^ k) < 256 ∧ (c ^^^ 2 ^ k) ≠ c)) = true := by decide +kernel
theorem turnC_nat (c : UInt8) (k : Nat) (hk : k < 8) : (turnC c k).toNat = c.toNat ^^^ 2 ^ k ∧ c.toNat ^^^ 2 ^ k < 256 ∧ turnC c k ≠ c := by
  have h := List.all_eq_true.1 (List.all_eq_true.1 xor_pow_lt c.toNat (by simp [c.toNat_lt])) k (by simp [hk])
  obtain ⟨h1, h2⟩ := of_decide_eq_true h
  have e : (turnC c k).toNat = c.toNat ^^^ 2 ^ k := by unfold turnC; rw [UInt8.toNat_ofNat', Nat.mod_eq_of_lt h1]
  exact ⟨e, h1, fun h => h2 (by rw [← e, h])⟩
/-- Bytes of which a bit turned. -/
def turnB (l : Bytes) (i k : Nat) : Bytes := l.set i (turnC (l.getD i 0) k)
theorem split_len {α : Type} : ∀ {a A : List α} {x y : α} {b B : List α}, a ++ x :: b = A ++ y :: B → a.length ≤ A.length → (∃ A', A = a ++ x :: A') ∨ (a = A ∧ x = y ∧ b = B)
  | [], [], x, y, b, B, h, _ => by simp at h; exact .inr ⟨rfl, h.1, h.2⟩
  | [], z :: A, x, y, b, B, h, _ => by simp at h; exact .inl ⟨A, by rw [h.1]; rfl⟩
  | z :: a, [], x, y, b, B, h, hl => by simp at hl
  | z :: a, u :: A, x, y, b, B, h, hl => by
    simp at h
    rcases split_len h.2 (by simpa using hl) with ⟨A', h1⟩ | ⟨h1, h2, h3⟩
    · exact .inl ⟨A', by rw [h.1, h1]; rfl⟩
    · exact .inr ⟨by rw [h.1, h1], h2, h3⟩
theorem conv_cells (W : World) (g cap : Nat) (cur : Array Value) (T : TypeId) (fz : Nat × Nat) (l : Bytes) (h : W.heap[g]? = some (.cells cur T fz)) (hc : ∀ (i : Nat) (x : UInt8), l[i]? = some x → cur[i]? = some (u8 x)) :
    (convert 49 9 (.slice (some ⟨g, 0, none⟩) l.length cap)).run Tryz.prog W = .ok (sv l) W := by
  rw [run_convert_bytes_arg W 49 5 Tryz.underlying49 Tryz.underlying5 g 0 l.length cap (l.map fun x => (x.toNat : Int)) (by simp) (fun i hi => ?_) 9 Tryz.underlying9]
  · show Result.ok (Value.string _) W = Result.ok (Value.string (ba l)) W
    congr 2
    rw [ba_mk]
    unfold strOfNums
    congr 2
    rw [List.map_map]
    conv => rhs; rw [← List.map_id l]
    exact List.map_congr_left (fun x _ => by simp)
  · have := hc i l[i] (by simp [hi])
    rw [cell?_heap, h]
    simpa [hi] using this

theorem shl_u8 (k : Nat) (h : k < 8) (w : World) : (Op.shift .shl .u8 1 .i64 (k : Int)).run Tryz.prog w = .ok (.int .u8 ((2 ^ k : Nat) : Int)) w := by
  match k, h with
  | 0, _ => rfl
  | 1, _ => rfl
  | 2, _ => rfl
  | 3, _ => rfl
  | 4, _ => rfl
  | 5, _ => rfl
  | 6, _ => rfl
  | 7, _ => rfl
theorem wrap_pow (k : Nat) (h : k < 8) : IntKind.u8.wrap ((2 : Int) ^ k) = ((2 ^ k : Nat) : Int) := by
  match k, h with
  | 0, _ => rfl
  | 1, _ => rfl
  | 2, _ => rfl
  | 3, _ => rfl
  | 4, _ => rfl
  | 5, _ => rfl
  | 6, _ => rfl
  | 7, _ => rfl
theorem mod_pow (k : Nat) (h : k < 8) : (2 : Int) ^ k % 256 = ((2 ^ k : Nat) : Int) := by
  match k, h with
  | 0, _ => rfl
  | 1, _ => rfl
  | 2, _ => rfl
  | 3, _ => rfl
  | 4, _ => rfl
  | 5, _ => rfl
  | 6, _ => rfl
  | 7, _ => rfl
theorem frm_bytesW (w : World) (e : TypeId) (s : ByteArray) : Frm [] w (Lib.bytesWorld w e s) :=
  Frm.of_below ⟨rfl, rfl, rfl, by rw [Lib.bytesWorld_size]; omega, fun j hj => Lib.bytesWorld_at_old w e s j hj⟩
/-- What holds ahead of a round of Turn. -/
def TurnI (w : World) (bt t : Nat) (A : List AFile) (z : Nat) (pre : LF) (W : World) : Prop :=
  w.heap.size + 6 ≤ z ∧ pre.length ≤ A.length ∧ W.heap[w.heap.size]? = some (.cells #[.int .i64 bt] 3 (0, 0)) ∧ W.heap[w.heap.size + 1]? = some (.cells #[.int .i64 0] 30 (0, 0)) ∧
    W.heap[w.heap.size + 2]? = some (.cells #[.int .i64 (t - sumB (pre.map (·.1)) : Nat)] 3 (0, 0)) ∧ Frm [] w W
def TurnX (w : World) (A : List AFile) (S : LF) (f : AFile) (i k : Nat) (cc : Code) (pre : LF) (W : World) : Prop :=
  cc = .ret ∧ W.heap[w.heap.size + 1]? = some (.cells #[.int .i64 0] 30 (0, 0)) ∧ ∃ c, S[A.length]? = some (f, c) ∧ W.heap[c]? = some (.cells #[sv (turnB f.bytes i k), .int .i64 f.synced] 103 (0, 0)) ∧ Frm [c] w W

theorem turn_next {w W W₂ W4 : World} {bt t tt z b m W5s c : Nat} {A : List AFile} {pre : LF} {f : AFile} {G G' : List Nat} (hI : TurnI w bt t A z pre W) (hF2 : Frm [W5s + 1] W W₂) (hz5 : W5s = w.heap.size + 4) (hzW : z ≤ W.heap.size) (hz2 : W.heap.size ≤ W₂.heap.size) (hbl : b < w.heap.size)
    (hpl : pre.length < A.length) (htt : tt = t - sumB (pre.map (·.1))) (hle : f.bytes.length ≤ tt) (hG : G = (w.heap.size + 2) :: (W5s + 1) :: G') (h4 : W4.heap[w.heap.size + 2]? = some (.cells #[.int .i64 (tt - f.bytes.length : Nat)] 3 (0, 0))) (hF4 : Frm [w.heap.size + 2] W₂ W4) :
    KeepLD W5s W₂ W4 ∧ KpG G (K0 b m) z W W4 ∧ (TurnI w bt t A z (pre ++ [(f, c)]) W4 ∧ z ≤ W4.heap.size) := by
  obtain ⟨h1, h2, h3, h5, h6, h7⟩ := hI
  have hFW : Frm [W5s + 1, w.heap.size + 2] W W4 := (hF2.mono (fun x hx => .inl (by simp at hx; simp [hx]))).trans' (hF4.mono (G := [w.heap.size + 2]) (fun x hx => .inl hx)) (by simp)
  have hsz := h7.size
  refine ⟨keepLD_frm hF4 (by omega) (by simp; omega) (by simp; omega), KpG.of_frm hFW hzW (fun x hx => ?_) ?_, ⟨h1, by simp; omega, hFW.blk h3 (by simp; omega), hFW.blk h5 (by simp; omega), ?_, h7.trans' hFW (by simp; omega)⟩, by have := hF4.size; omega⟩
  · rw [hG]; simp at hx ⊢; omega
  · rintro ⟨x, y, u, h⟩
    exact ⟨x, y, u, hFW.blk h (by simp; omega)⟩
  · rw [h4]
    have e : sumB ((pre ++ [(f, c)]).map (·.1)) = sumB (pre.map (·.1)) + f.bytes.length := by rw [List.map_append, sumB_append]; simp [sumB]
    rw [e, show tt - f.bytes.length = t - (sumB (pre.map (·.1)) + f.bytes.length) by omega]

theorem turn_last {w W W₂ W8 W9 : World} {bt t z i k W5s c g8 : Nat} {A : List AFile} {S pre post : LF} {f : AFile} (hI : TurnI w bt t A z pre W) (hF2 : Frm [W5s + 1] W W₂) (hz5 : W5s = w.heap.size + 4) (hzW : z ≤ W.heap.size) (hz2 : W.heap.size ≤ W₂.heap.size) (hcw : c < w.heap.size)
    (hx : S = pre ++ (f, c) :: post) (hpl : pre.length = A.length) (hg8 : g8 = W₂.heap.size) (hF8 : Frm [] W₂ W8) (h1 : W9.heap[c]? = some (.cells #[sv (turnB f.bytes i k), .int .i64 f.synced] 103 (0, 0)))
    (h2 : W9.heap[w.heap.size + 1]? = some (.cells #[.int .i64 0] 30 (0, 0))) (h3 : Frm [c, w.heap.size + 1, g8] W8 W9) :
    KeepLD W5s W₂ W9 ∧ TurnX w A S f i k .ret (pre ++ [(f, c)]) W9 := by
  obtain ⟨a1, a2, a3, a5, a6, a7⟩ := hI
  have hsz := a7.size
  have hF9 : Frm [c, w.heap.size + 1] W₂ W9 := hF8.nil.trans' h3 (by simp; omega)
  have hFW : Frm [W5s + 1, c, w.heap.size + 1] W W9 := (hF2.mono (fun x hx => .inl (by simp at hx; simp [hx]))).trans' hF9 (by simp)
  exact ⟨keepLD_frm hF9 (by omega) (by simp; omega) (by simp; omega), rfl, h2, c, by rw [hx, ← hpl]; simp, h1, a7.nil.trans' hFW (by simp; omega)⟩

set_option maxRecDepth 100000 in
set_option maxHeartbeats 1000000 in
theorem Turn_any (b : Nat) (D : ADisk) (F : List Nat) (bt t i k : Nat) (A B : List AFile) (f0 : AFile) (w : World) (hD : DiskAt w b D F) (hk : ∀ f ∈ D.files, f.name.length ≤ 24) (hn : D.files.length ≤ 1000) (hms : D.mass ≤ 4294967296) (hdead : D.dead = true)
    (hfl : D.files = A ++ f0 :: B) (ht : t = sumB A + i) (hi : i < f0.bytes.length) (hbt : bt = 8 * t + k) (hk8 : k < 8) (hb63 : bt ≤ 9223372036854775807) :
    Calls Tryz.prog 18 #[.pointer (some ⟨b, 0, none⟩), .int .i64 bt] w (DRet w b F (0, { D with files := A ++ { f0 with bytes := turnB f0.bytes i k } :: B })) := by
  obtain ⟨m, es, clk, L, hd, rfl⟩ := hD
  obtain ⟨S, hS, hSD⟩ := order_exists hd.perm
  have ho := hd.own
  rw [hdead] at ho
  have HBL := Lib.hid (lt_of_block hd.own)
  have HML := Lib.hid (lt_of_block hd.map)
  have hSn : S.length ≤ 1000 := by have := congrArg List.length hSD; rw [List.length_map] at this; omega
  have hq : Int.tdiv (bt : Int) 8 = (t : Int) := by rw [Int.tdiv_eq_ediv_of_nonneg (by omega)]; omega
  have hb0 : decide ((bt : Int) < 0) = false := dec_no (by omega)
  have hwr : wrap64 (t : Int) = (t : Int) := by unfold wrap64; omega
  have HH := Lib.hid (And.intro hk (And.intro hn (And.intro hms (And.intro hfl (And.intro ht (And.intro hi (And.intro hbt (And.intro hk8 hSn))))))))
  have HD := Lib.hid hd
  clear hk hn hms hfl ht hi hbt hk8 hSn hd
  refine (callsIn_wide (n := 0)).1 ?_
  (refine callsIn_of_wp_marks Tryz.func18 rfl trivial ?_ rfl; simp only [Tryz.ntmps18, List.size_toArray, List.length_cons, List.length_nil, Nat.reduceAdd, Nat.reduceSub, Array.replicate_succ, Array.replicate_zero, List.push_toArray, List.append_toArray, List.nil_append, List.cons_append])
  gi_wp2_with (first | (refine ⟨trivial, rfl, ?_⟩; gi_at_call 52; refine (callsIn_wide.2 (sorted_any b _)).mono ?_; rintro e w5 ⟨rfl, rfl⟩))
  refine wpIn_named fun W5 hW5 => ?_
  have hbl := HBL.out
  have hml := HML.out
  obtain ⟨hk, hn, hms, hfl, ht, hi, hbt, hk8, hSn⟩ := HH.out
  have hd := HD.out
  have b0 : W5.heap[w.heap.size]? = some (.cells #[.int .i64 bt] 3 (0, 0)) := by rw [hW5]; simp [go_sem]
  have b1 : W5.heap[w.heap.size + 1]? = some (.cells #[.int .i64 0] 30 (0, 0)) := by rw [hW5]; simp [go_sem]
  have b2 : W5.heap[w.heap.size + 2]? = some (.cells #[.int .i64 t] 3 (0, 0)) := by rw [hW5]; simp [go_sem]
  have b3 : W5.heap[w.heap.size + 3]? = some (.cells #[.pointer (some ⟨b, 0, none⟩)] 27 (0, 0)) := by rw [hW5]; simp [go_sem]
  have hz : W5.heap.size = w.heap.size + 4 := by rw [hW5]; simp [go_sem]
  have hF : Frm [] w W5 := by
    rw [hW5]
    (repeat (first | (with_reducible exact Frm.refl _ _) | assumption | (with_reducible refine Frm.alloc ?_ _) | ((with_reducible refine Frm.setCell ?_ ?_ _); rotate_left; (first | (focus (left; simp; done)) | (focus (right; simp; done)) | (focus (right; simp; omega)))) | ((with_reducible refine Frm.put ?_ _ ?_); rotate_left; (first | (focus (left; simp; done)) | (focus (right; simp; done)) | (focus (right; simp; omega)))) | (with_reducible refine Frm.drew ?_) | (with_reducible refine Frm.drewN ?_ _)))
  clear hW5
  have hd5 := hd.frm hF (fun _ h => by cases h)
  have hlt := hd.lt
  have hcl : ∀ x ∈ L, x.2 < w.heap.size := fun x hx => hlt _ (by simp only [fp, List.mem_cons]; exact .inr (.inr (List.mem_map.2 ⟨x, hx, rfl⟩)))
  have hSA : S.length = A.length + 1 + B.length := by have := congrArg List.length hSD; rw [List.length_map, hfl] at this; simp at this; omega
  refine wp_rangeZ (w0 := W5) (gf := 90) (lb := #[.pointer (some ⟨w.heap.size + 3, 0, none⟩)]) rfl (enters_of Tryz.func90 (by kernel_rfl) rfl)
    (sorted_seq (w.heap.size + 3) b m es clk L S D W5 b3 hd5 hS hSD hk hn ((w.heap.size + 2) :: (W5.heap.size + 1) :: L.map (·.2)) (by
      simp only [List.mem_cons, List.mem_map, not_or, not_exists, not_and]; exact ⟨by omega, by omega, fun x hx e => by have := hcl x hx; omega⟩) (by
      have := hd.nodup
      simp only [List.nodup_cons, List.mem_cons, not_or] at this ⊢
      exact ⟨by omega, by omega, this.2.1⟩)) (Frm.refl _ _) (fun _ => rfl) (by simp) (by
      intro x hx
      simp only [List.mem_cons, List.mem_map] at hx
      rcases hx with rfl | rfl | ⟨y, hy, rfl⟩
      · omega
      · omega
      · have := hcl y hy; omega)
    (fun A B C h1 h2 h => h2 (h1 h)) ?_ ?_
    (TurnI w bt t A) (TurnX w A S f0 i k) ?_ ?_ ?_ ?_ ?_ ?_
  · rintro W o _ ⟨x, y, z, h⟩
    exact ⟨x, y, z, (World.putObj_heap_other (by omega)).trans h⟩
  · intro W W' hfin hz'
    exact keepLD_frm hfin hz' (by simp) (by simp)
  · rintro z pre A1 B1 hAB ⟨h1, h2, h3, h4, h5, h6⟩
    exact ⟨h1, h2, hAB.blk h3 (by simp; omega), hAB.blk h4 (by simp; omega), hAB.blk h5 (by simp; omega), h6.trans' hAB (by simp; omega)⟩
  · rintro cc pre A1 B1 hAB ⟨h1, h2, c, h3, h4, h5⟩
    have := hcl _ (hS.mem_iff.1 (List.mem_iff_getElem?.2 ⟨_, h3⟩))
    exact ⟨h1, hAB.blk h2 (by simp; omega), c, h3, hAB.blk h4 (by simp; omega), h5.trans' hAB (by simp; omega)⟩
  · rintro z W hW h1 h2
    exact ⟨by omega, Nat.zero_le _, hW.blk b0 (by simp), hW.blk b1 (by simp), hW.blk b2 (by simp), hF.trans hW⟩
  · rintro z pre ⟨f, c⟩ post W h2z hzW hx hI
    have HI := Lib.hid hI
    obtain ⟨h6z, hpl, g0, g1, g2, hf⟩ := hI
    have hcL : (f, c) ∈ L := hS.mem_iff.1 (by rw [hx]; simp)
    have hcw := hcl _ hcL
    have hc0 := hf.blk (hd.file _ hcL) (by simp)
    simp only at hcw hc0
    have hspl := split_len (a := pre.map (·.1)) (x := f) (b := post.map (·.1)) (A := A) (y := f0) (B := B) (by rw [← hfl, ← hSD, hx]; simp) (by simpa using hpl)
    have hfD : f ∈ D.files := hd.perm.mem_iff.1 (List.mem_map.2 ⟨(f, c), hcL, rfl⟩)
    have hflen := len_le_sumB hfD
    unfold ADisk.mass at hms
    obtain ⟨tt, htt⟩ : ∃ tt, tt = t - sumB (pre.map (·.1)) := ⟨_, rfl⟩
    rw [← htt] at g2
    have HSP := Lib.hid hspl
    have HTT := Lib.hid htt
    have HF := Lib.hid hf
    have HB := Lib.hid (And.intro hbl (And.intro hml (And.intro hcw (And.intro h6z (And.intro hzW (And.intro h2z (And.intro hpl hx)))))))
    have hfl8 : f.bytes.length ≤ 4294967296 := by omega
    have htb : t ≤ 4294967296 := by
      have : sumB D.files = sumB A + (f0.bytes.length + sumB B) := by rw [hfl, sumB_append]; simp [sumB]
      omega
    have httb : tt ≤ 4294967296 := by omega
    have HC := Lib.hid hcl
    have HZ := Lib.hid hz
    have HSA := Lib.hid hSA
    have HSS := Lib.hid (And.intro hS (And.intro hSD hcL))
    have HFL := Lib.hid (And.intro hfl (And.intro ht (And.intro hi hbt)))
    clear hspl htt hf hbl hml hcw h6z hzW h2z hpl hx hfD hflen hms hcl hSA hcL hS hSD hfl ht hi hbt hd hk hn HH HD hSn hlt hd5 hF b0 b1 b2 b3 ho hq hb0 htb hz
    simp only [encK]
    gi_wp2
    refine ⟨⟨rfl, rfl⟩, fun W₂ hzz hF2 => ?_⟩
    have hz2 : W.heap.size ≤ W₂.heap.size := by omega
    have g02 := hF2.blk g0 (by simp; have := HZ.out; omega)
    have g12 := hF2.blk g1 (by simp; have := HZ.out; omega)
    have g22 := hF2.blk g2 (by simp; have := HZ.out; omega)
    have hc2 := hF2.blk hc0 (by simp; have := HZ.out; have := HB.out.2.2.1; omega)
    have HF2 := Lib.hid (And.intro hF2 hz2)
    clear g0 g1 g2 hc0 hF2 hz2 hzz
    gi_wp2
    rcases HSP.out with ⟨A', hA'⟩ | ⟨hpA, hf0, hpB⟩
    · have hle : f.bytes.length ≤ tt := by
        rw [HTT.out, HFL.out.2.1, hA', sumB_append]
        have : sumB (f :: A') = f.bytes.length + sumB A' := by simp [sumB]
        omega
      have t1 : decide ((tt : Int) < (f.bytes.length : Int)) = false := dec_no (by omega)
      have hA2 := Lib.hid hA'
      clear hA'
      refine wpIn_region_quiet_round rfl (by kernel_rfl) (by kernel_rfl) (by kernel_rfl) ?_
      repeat (gi_big_quiet_step (fail))
      refine wpQuietIn_nil ?_
      intro _ hw'
      obtain ⟨nq, hw''⟩ := hw'
      subst hw''
      gi_wp2
      have hs1 : IntKind.i64.wrap ((tt : Int) - (f.bytes.length : Int)) = ((tt - f.bytes.length : Nat) : Int) := by rw [i64w' (by omega) (by omega)]; omega
      have hs2 : wrap64 ((tt : Int) - (f.bytes.length : Int)) = ((tt - f.bytes.length : Nat) : Int) := by unfold wrap64; omega
      have hfin := fun W4 h4 hF4 => turn_next (W₂ := W₂) (W4 := W4) (b := b) (m := m) (c := c) (f := f) (G' := L.map (·.2)) HI.out HF2.out.1 HZ.out HB.out.2.2.2.2.1 HF2.out.2 HB.out.1 (by have := congrArg List.length hA2.out; simp at this; omega) HTT.out hle rfl h4 hF4
      have HFIN := Lib.hid hfin
      clear hfin
      refine wpIn_region_round rfl (by kernel_rfl) (by kernel_rfl) ?_
      refine wpAnyIn_take (i := 1) (v := ?_) rfl rfl (by kernel_rfl) (by kernel_rfl) (by kernel_rfl) (fun _ _ _ h => h) ⟨Or.inl ⟨by rfl, ?_⟩, fun _ => rfl⟩ ?_
      rotate_left
      · intro w; go_simp; all_goals (with_reducible rfl)
      refine wpAnyIn_take (i := 2) (v := ?_) rfl rfl (by kernel_rfl) (by kernel_rfl) (by kernel_rfl) (fun _ _ _ h => h) ⟨Or.inl ⟨by rfl, ?_⟩, fun _ => rfl⟩ ?_
      rotate_left
      · intro w; go_simp; all_goals (with_reducible rfl)
      refine wpAnyIn_take (i := 3) (v := ?_) rfl rfl (by kernel_rfl) (by kernel_rfl) (by kernel_rfl) (fun _ _ _ h => h) ⟨Or.inl ⟨by rfl, ?_⟩, fun _ => rfl⟩ ?_
      rotate_left
      · intro w; go_simp; all_goals (with_reducible rfl)
      refine wpAnyIn_ready (rs := [0, 4]) (by kernel_rfl) (by simp) ?_
      refine AllReadyIn.cons rfl (fun K hK => ?_) ?_
      · go_simp
        refine hK _ _ ?_
        clear hK K
        refine wpAnyIn_ready (rs := [4]) (by kernel_rfl) (by simp) ?_
        refine AllReadyIn.cons rfl (fun K hK => ?_) ?_
        · go_simp
          refine hK _ _ ?_
          clear hK K
          refine wpAnyIn_take (i := 5) (v := ?_) rfl rfl (by kernel_rfl) (by kernel_rfl) (by kernel_rfl) (fun _ _ _ h => h) ⟨Or.inl ⟨by rfl, ?_⟩, fun _ => rfl⟩ ?_
          rotate_left
          · intro w; go_simp; all_goals (with_reducible rfl)
          refine wpAnyIn_take (i := 6) (v := ?_) rfl rfl (by kernel_rfl) (by kernel_rfl) (by kernel_rfl) (fun _ _ _ h => h) ⟨Or.inl ⟨by rfl, ?_⟩, fun _ => rfl⟩ ?_
          rotate_left
          · intro w; go_simp; all_goals (with_reducible rfl)
          refine wpAnyIn_ready (rs := [7]) (by kernel_rfl) (by simp) ?_
          refine AllReadyIn.cons rfl (fun K hK => ?_) ?_
          · go_simp
            refine hK _ _ ?_
            clear hK K
            refine wpAnyIn_done (by kernel_rfl) ?_ _
            gi_wp2
            refine HFIN.out _ ?_ ?_
            · simp [go_sem, g22]
            · (repeat (first | (with_reducible exact Frm.refl _ _) | assumption | (with_reducible refine Frm.alloc ?_ _) | ((with_reducible refine Frm.setCell ?_ ?_ _); rotate_left; (first | (focus (left; simp; done)) | (focus (right; simp; done)) | (focus (right; simp; omega)))) | ((with_reducible refine Frm.put ?_ _ ?_); rotate_left; (first | (focus (left; simp; done)) | (focus (right; simp; done)) | (focus (right; simp; omega)))) | (with_reducible refine Frm.drew ?_) | (with_reducible refine Frm.drewN ?_ _)))
          exact AllReadyIn.nil
        exact AllReadyIn.nil
      refine AllReadyIn.cons rfl (fun K hK => ?_) ?_
      · go_simp
        refine hK _ _ ?_
        clear hK K
        refine wpAnyIn_take (i := 5) (v := ?_) rfl rfl (by kernel_rfl) (by kernel_rfl) (by kernel_rfl) (fun _ _ _ h => h) ⟨Or.inl ⟨by rfl, ?_⟩, fun _ => rfl⟩ ?_
        rotate_left
        · intro w; go_simp; all_goals (with_reducible rfl)
        refine wpAnyIn_ready (rs := [0]) (by kernel_rfl) (by simp) ?_
        refine AllReadyIn.cons rfl (fun K hK => ?_) ?_
        · go_simp
          refine hK _ _ ?_
          clear hK K
          refine wpAnyIn_take (i := 6) (v := ?_) rfl rfl (by kernel_rfl) (by kernel_rfl) (by kernel_rfl) (fun _ _ _ h => h) ⟨Or.inl ⟨by rfl, ?_⟩, fun _ => rfl⟩ ?_
          rotate_left
          · intro w; go_simp; all_goals (with_reducible rfl)
          refine wpAnyIn_ready (rs := [7]) (by kernel_rfl) (by simp) ?_
          refine AllReadyIn.cons rfl (fun K hK => ?_) ?_
          · go_simp
            refine hK _ _ ?_
            clear hK K
            refine wpAnyIn_done (by kernel_rfl) ?_ _
            gi_wp2
            refine HFIN.out _ ?_ ?_
            · simp [go_sem, g22]
            · (repeat (first | (with_reducible exact Frm.refl _ _) | assumption | (with_reducible refine Frm.alloc ?_ _) | ((with_reducible refine Frm.setCell ?_ ?_ _); rotate_left; (first | (focus (left; simp; done)) | (focus (right; simp; done)) | (focus (right; simp; omega)))) | ((with_reducible refine Frm.put ?_ _ ?_); rotate_left; (first | (focus (left; simp; done)) | (focus (right; simp; done)) | (focus (right; simp; omega)))) | (with_reducible refine Frm.drew ?_) | (with_reducible refine Frm.drewN ?_ _)))
          exact AllReadyIn.nil
        exact AllReadyIn.nil
      exact AllReadyIn.nil
    · subst hf0
      obtain ⟨htti, hpl2⟩ : tt = i ∧ pre.length = A.length := ⟨by rw [HTT.out, hpA, HFL.out.2.1]; omega, by rw [← hpA]; simp⟩
      have hile := HFL.out.2.2.1
      have t1 : decide ((tt : Int) < (f.bytes.length : Int)) = true := dec_yes (by omega)
      have hcv : ∀ W : World, (convert 9 49 (.string (ba f.bytes))).run Tryz.prog W = .ok (.slice (some ⟨W.heap.size, 0, none⟩) f.bytes.length (grownCap W (ba f.bytes).size 0 5)) (Lib.bytesWorld W 5 (ba f.bytes)) := fun W => by
        rw [Lib.run_convert_string_bytes W 9 49 5 _ Tryz.underlying9 Tryz.underlying49 Tryz.underlying5, ba_size]
      refine wpIn_region_quiet_round rfl (by kernel_rfl) (by kernel_rfl) (by kernel_rfl) ?_
      repeat (gi_big_quiet_step (fail))
      refine wpQuietIn_nil ?_
      intro _ hw'
      obtain ⟨nq, hw''⟩ := hw'
      subst hw''
      gi_wp2
      refine wpIn_named fun W8 hW8 => ?_
      obtain ⟨g8, hg8⟩ : ∃ g, g = W₂.heap.size := ⟨_, rfl⟩
      obtain ⟨cp, hcp⟩ : ∃ x, x = grownCap (W₂.drewN nq) f.bytes.length 0 5 := ⟨_, rfl⟩
      obtain ⟨cur, hcur⟩ : ∃ x, x = Lib.bytesCells (W₂.drewN nq) 5 (ba f.bytes) := ⟨_, rfl⟩
      have b8 : W8.heap[g8]? = some (.cells cur 5 (cur.size, cur.size + 1)) := by
        have := Lib.bytesWorld_at_new (W₂.drewN nq) 5 (ba f.bytes)
        rw [hW8, hg8, hcur]; simpa [go_sem] using this
      have hF8 : Frm [] W₂ W8 := by
        have h := frm_bytesW (W₂.drewN nq) 5 (ba f.bytes)
        rw [hW8]; exact Frm.trans (b := W₂.drewN nq) (by (repeat (first | (with_reducible exact Frm.refl _ _) | assumption | (with_reducible refine Frm.alloc ?_ _) | ((with_reducible refine Frm.setCell ?_ ?_ _); rotate_left; (first | (focus (left; simp; done)) | (focus (right; simp; done)) | (focus (right; simp; omega)))) | ((with_reducible refine Frm.put ?_ _ ?_); rotate_left; (first | (focus (left; simp; done)) | (focus (right; simp; done)) | (focus (right; simp; omega)))) | (with_reducible refine Frm.drew ?_) | (with_reducible refine Frm.drewN ?_ _)))) h
      have hcl8 : ∀ (j : Nat) (x : UInt8), f.bytes[j]? = some x → cur[j]? = some (u8 x) := fun j x hx => by
        rw [hcur, Lib.bytesCells, Array.getElem?_append, if_pos (by have := (List.getElem?_eq_some_iff.1 hx).1; simp [ba_mk]; exact this), ba_mk]
        simp [hx]
      have hcz : f.bytes.length ≤ cur.size := by rw [hcur, Lib.bytesCells]; simp [ba_mk]
      obtain ⟨x, hx⟩ : ∃ x, f.bytes[i]? = some x := ⟨_, List.getElem?_eq_getElem hile⟩
      have hxi := hcl8 i x hx
      have hfz : ¬ (cur.size ≤ i) := by omega
      have d1 : decide (cur.size ≤ i) = false := decide_eq_false hfz
      have hi0 : (0 : Int) ≤ (i : Int) := by omega
      have hi1 : (i : Int) < (f.bytes.length : Int) := by omega
      have h02 := hF8.blk g02 (by simp)
      have h12 := hF8.blk g12 (by simp)
      have h22 := hF8.blk g22 (by simp)
      have hc3 := hF8.blk hc2 (by simp)
      have hrm : Int.tmod (bt : Int) 8 = (k : Int) := by
        have := HFL.out.2.2.2
        rw [Int.tmod_eq_emod_of_nonneg (by omega)]; omega
      obtain ⟨pk, hpk⟩ : ∃ pk : Nat, pk = 2 ^ k := ⟨_, rfl⟩
      have hsh : ∀ w : World, (Op.shift .shl .u8 1 .i64 (k : Int)).run Tryz.prog w = .ok (.int .u8 (pk : Int)) w := fun w => by
        rw [hpk]; exact shl_u8 k hk8 w
      obtain ⟨y, hy⟩ : ∃ y, y = turnC x k := ⟨_, rfl⟩
      have hxr : bits .xor .u8 (x.toNat : Int) (pk : Int) = (y.toNat : Int) := by
        rw [hy, hpk, (turnC_nat x k hk8).1]
        exact u8_xor_nat _ _ x.toNat_lt (Nat.pow_lt_pow_right (by decide) (show k < 8 from hk8))
      have hsf : f.bytes.set i y = turnB f.bytes i k := by rw [hy]; unfold turnB; rw [List.getD_eq_getElem?_getD, hx]; rfl
      have hmn : min k 8 = k := Nat.min_eq_left (Nat.le_of_lt hk8)
      have hw8 : IntKind.u8.wrap ((2 : Int) ^ k) = (pk : Int) := by
        rw [hpk]; exact wrap_pow k hk8
      have hw9 : (2 : Int) ^ k % 256 = (pk : Int) := by
        rw [hpk]; exact mod_pow k hk8
      have hcv9 : (convert 49 9 (.slice (some ⟨g8, 0, none⟩) f.bytes.length cp)).run Tryz.prog ((W8.setCell ⟨g8, i, none⟩ (.int .u8 y.toNat)).drew) = .ok (sv (turnB f.bytes i k)) ((W8.setCell ⟨g8, i, none⟩ (.int .u8 y.toNat)).drew) := by
        rw [← hsf]
        have h := conv_cells ((W8.setCell ⟨g8, i, none⟩ (.int .u8 y.toNat)).drew) g8 cp _ _ _ (f.bytes.set i y) (heap_setCell _ b8) (fun j u hu => by
          by_cases hji : j = i
          · subst hji
            rw [List.getElem?_set_self hile] at hu
            injection hu with hu
            rw [Array.getElem?_setIfInBounds_self_of_lt (by omega), hu]
          · rw [List.getElem?_set_ne (fun e => hji e.symm)] at hu
            rw [Array.getElem?_setIfInBounds_ne (fun e => hji e.symm)]
            exact hcl8 j u hu)
        rw [List.length_set] at h
        exact h
      have hfx := fun W9 h1 h2 h3 => turn_last (W9 := W9) (f := f) (i := i) (k := k) HI.out HF2.out.1 HZ.out HB.out.2.2.2.2.1 HF2.out.2 HB.out.2.2.1 HB.out.2.2.2.2.2.2.2 hpl2 hg8 hF8 h1 h2 h3
      have HFX := Lib.hid hfx
      clear hfx
      obtain ⟨r1, r2, r3, r4, r5, r6⟩ : c ≠ g8 ∧ g8 ≠ c ∧ w.heap.size + 1 ≠ g8 ∧ g8 ≠ w.heap.size + 1 ∧ c ≠ w.heap.size + 1 ∧ w.heap.size + 1 ≠ c := by
        have q1 := lt_of_block hc2
        have q2 := lt_of_block g12
        have q3 := HB.out.2.2.1
        rw [hg8]; omega
      rw [← hg8, ← hcp]
      have HG8 := Lib.hid (And.intro hg8 (And.intro hF8 (And.intro hcl8 (And.intro hcz (And.intro hk8 hsf)))))
      clear hk8 hpk hy hsf hW8 hg8 hcp hcur hF8 hcl8 hcz hcv
      refine wpIn_region_round rfl (by kernel_rfl) (by kernel_rfl) ?_
      refine wpAnyIn_take (i := 0) (v := ?_) rfl rfl (by kernel_rfl) (by kernel_rfl) (by kernel_rfl) (fun _ _ _ h => h) ⟨Or.inl ⟨by rfl, ?_⟩, fun _ => rfl⟩ ?_
      rotate_left
      · intro w; go_simp; all_goals (with_reducible rfl)
      refine wpAnyIn_ready (rs := [1, 4]) (by kernel_rfl) (by simp) ?_
      refine AllReadyIn.cons rfl (fun K hK => ?_) ?_
      · go_simp
        refine hK _ _ ?_
        clear hK K
        refine wpAnyIn_take (i := 2) (v := ?_) rfl rfl (by kernel_rfl) (by kernel_rfl) (by kernel_rfl) (fun _ _ _ h => h) ⟨Or.inl ⟨by rfl, ?_⟩, fun _ => rfl⟩ ?_
        rotate_left
        · intro w; go_simp; all_goals (with_reducible rfl)
        refine wpAnyIn_ready (rs := [3, 4]) (by kernel_rfl) (by simp) ?_
        refine AllReadyIn.cons rfl (fun K hK => ?_) ?_
        · go_simp
          refine hK _ _ ?_
          clear hK K
          refine wpAnyIn_ready (rs := [4]) (by kernel_rfl) (by simp) ?_
          refine AllReadyIn.cons rfl (fun K hK => ?_) ?_
          · go_simp
            refine hK _ _ ?_
            clear hK K
            refine wpAnyIn_take (i := 5) (v := ?_) rfl rfl (by kernel_rfl) (by kernel_rfl) (by kernel_rfl) (fun _ _ _ h => h) ⟨Or.inl ⟨by rfl, ?_⟩, fun _ => rfl⟩ ?_
            rotate_left
            · intro w; go_simp; all_goals (with_reducible rfl)
            refine wpAnyIn_take (i := 6) (v := ?_) rfl rfl (by kernel_rfl) (by kernel_rfl) (by kernel_rfl) (fun _ _ _ h => h) ⟨Or.inl ⟨by rfl, ?_⟩, fun _ => rfl⟩ ?_
            rotate_left
            · intro w; go_simp; all_goals (with_reducible rfl)
            refine wpAnyIn_take (i := 7) (v := ?_) rfl rfl (by kernel_rfl) (by kernel_rfl) (by kernel_rfl) (fun _ _ _ h => h) ⟨Or.inl ⟨by rfl, ?_⟩, fun _ => rfl⟩ ?_
            rotate_left
            · intro w; go_simp; all_goals (with_reducible rfl)
            refine wpAnyIn_take (i := 8) (v := ?_) rfl rfl (by kernel_rfl) (by kernel_rfl) (by kernel_rfl) (fun _ _ _ h => h) ⟨Or.inl ⟨by rfl, ?_⟩, fun _ => rfl⟩ ?_
            rotate_left
            · intro w; go_simp; all_goals (with_reducible rfl)
            refine wpAnyIn_ready (rs := [9]) (by kernel_rfl) (by simp) ?_
            refine AllReadyIn.cons rfl (fun K hK => ?_) ?_
            · go_simp
              refine hK _ _ ?_
              clear hK K
              refine wpAnyIn_done (by kernel_rfl) ?_ _
              gi_wp2
              refine HFX.out _ ?_ ?_ ?_
              · exact heap_setCell_ne _ (heap_setCell _ (heap_setCell_ne _ hc3 r1)) r5
              · exact heap_setCell _ (heap_setCell_ne _ (heap_setCell_ne _ h12 r3) r6)
              · (repeat (first | (with_reducible exact Frm.refl _ _) | assumption | (with_reducible refine Frm.alloc ?_ _) | ((with_reducible refine Frm.setCell ?_ ?_ _); rotate_left; (first | (focus (left; simp; done)) | (focus (right; simp; done)) | (focus (right; simp; omega)))) | ((with_reducible refine Frm.put ?_ _ ?_); rotate_left; (first | (focus (left; simp; done)) | (focus (right; simp; done)) | (focus (right; simp; omega)))) | (with_reducible refine Frm.drew ?_) | (with_reducible refine Frm.drewN ?_ _)))
            exact AllReadyIn.nil
          exact AllReadyIn.nil
        refine AllReadyIn.cons rfl (fun K hK => ?_) ?_
        · go_simp
          refine hK _ _ ?_
          clear hK K
          refine wpAnyIn_take (i := 5) (v := ?_) rfl rfl (by kernel_rfl) (by kernel_rfl) (by kernel_rfl) (fun _ _ _ h => h) ⟨Or.inl ⟨by rfl, ?_⟩, fun _ => rfl⟩ ?_
          rotate_left
          · intro w; go_simp; all_goals (with_reducible rfl)
          refine wpAnyIn_take (i := 6) (v := ?_) rfl rfl (by kernel_rfl) (by kernel_rfl) (by kernel_rfl) (fun _ _ _ h => h) ⟨Or.inl ⟨by rfl, ?_⟩, fun _ => rfl⟩ ?_
          rotate_left
          · intro w; go_simp; all_goals (with_reducible rfl)
          refine wpAnyIn_ready (rs := [3]) (by kernel_rfl) (by simp) ?_
          refine AllReadyIn.cons rfl (fun K hK => ?_) ?_
          · go_simp
            refine hK _ _ ?_
            clear hK K
            refine wpAnyIn_take (i := 7) (v := ?_) rfl rfl (by kernel_rfl) (by kernel_rfl) (by kernel_rfl) (fun _ _ _ h => h) ⟨Or.inl ⟨by rfl, ?_⟩, fun _ => rfl⟩ ?_
            rotate_left
            · intro w; go_simp; all_goals (with_reducible rfl)
            refine wpAnyIn_take (i := 8) (v := ?_) rfl rfl (by kernel_rfl) (by kernel_rfl) (by kernel_rfl) (fun _ _ _ h => h) ⟨Or.inl ⟨by rfl, ?_⟩, fun _ => rfl⟩ ?_
            rotate_left
            · intro w; go_simp; all_goals (with_reducible rfl)
            refine wpAnyIn_ready (rs := [9]) (by kernel_rfl) (by simp) ?_
            refine AllReadyIn.cons rfl (fun K hK => ?_) ?_
            · go_simp
              refine hK _ _ ?_
              clear hK K
              refine wpAnyIn_done (by kernel_rfl) ?_ _
              gi_wp2
              refine HFX.out _ ?_ ?_ ?_
              · exact heap_setCell_ne _ (heap_setCell _ (heap_setCell_ne _ hc3 r1)) r5
              · exact heap_setCell _ (heap_setCell_ne _ (heap_setCell_ne _ h12 r3) r6)
              · (repeat (first | (with_reducible exact Frm.refl _ _) | assumption | (with_reducible refine Frm.alloc ?_ _) | ((with_reducible refine Frm.setCell ?_ ?_ _); rotate_left; (first | (focus (left; simp; done)) | (focus (right; simp; done)) | (focus (right; simp; omega)))) | ((with_reducible refine Frm.put ?_ _ ?_); rotate_left; (first | (focus (left; simp; done)) | (focus (right; simp; done)) | (focus (right; simp; omega)))) | (with_reducible refine Frm.drew ?_) | (with_reducible refine Frm.drewN ?_ _)))
            exact AllReadyIn.nil
          exact AllReadyIn.nil
        exact AllReadyIn.nil
      refine AllReadyIn.cons rfl (fun K hK => ?_) ?_
      · go_simp
        refine hK _ _ ?_
        clear hK K
        refine wpAnyIn_take (i := 5) (v := ?_) rfl rfl (by kernel_rfl) (by kernel_rfl) (by kernel_rfl) (fun _ _ _ h => h) ⟨Or.inl ⟨by rfl, ?_⟩, fun _ => rfl⟩ ?_
        rotate_left
        · intro w; go_simp; all_goals (with_reducible rfl)
        refine wpAnyIn_take (i := 6) (v := ?_) rfl rfl (by kernel_rfl) (by kernel_rfl) (by kernel_rfl) (fun _ _ _ h => h) ⟨Or.inl ⟨by rfl, ?_⟩, fun _ => rfl⟩ ?_
        rotate_left
        · intro w; go_simp; all_goals (with_reducible rfl)
        refine wpAnyIn_ready (rs := [1]) (by kernel_rfl) (by simp) ?_
        refine AllReadyIn.cons rfl (fun K hK => ?_) ?_
        · go_simp
          refine hK _ _ ?_
          clear hK K
          refine wpAnyIn_take (i := 2) (v := ?_) rfl rfl (by kernel_rfl) (by kernel_rfl) (by kernel_rfl) (fun _ _ _ h => h) ⟨Or.inl ⟨by rfl, ?_⟩, fun _ => rfl⟩ ?_
          rotate_left
          · intro w; go_simp; all_goals (with_reducible rfl)
          refine wpAnyIn_ready (rs := [3]) (by kernel_rfl) (by simp) ?_
          refine AllReadyIn.cons rfl (fun K hK => ?_) ?_
          · go_simp
            refine hK _ _ ?_
            clear hK K
            refine wpAnyIn_take (i := 7) (v := ?_) rfl rfl (by kernel_rfl) (by kernel_rfl) (by kernel_rfl) (fun _ _ _ h => h) ⟨Or.inl ⟨by rfl, ?_⟩, fun _ => rfl⟩ ?_
            rotate_left
            · intro w; go_simp; all_goals (with_reducible rfl)
            refine wpAnyIn_take (i := 8) (v := ?_) rfl rfl (by kernel_rfl) (by kernel_rfl) (by kernel_rfl) (fun _ _ _ h => h) ⟨Or.inl ⟨by rfl, ?_⟩, fun _ => rfl⟩ ?_
            rotate_left
            · intro w; go_simp; all_goals (with_reducible rfl)
            refine wpAnyIn_ready (rs := [9]) (by kernel_rfl) (by simp) ?_
            refine AllReadyIn.cons rfl (fun K hK => ?_) ?_
            · go_simp
              refine hK _ _ ?_
              clear hK K
              refine wpAnyIn_done (by kernel_rfl) ?_ _
              gi_wp2
              refine HFX.out _ ?_ ?_ ?_
              · exact heap_setCell_ne _ (heap_setCell _ (heap_setCell_ne _ hc3 r1)) r5
              · exact heap_setCell _ (heap_setCell_ne _ (heap_setCell_ne _ h12 r3) r6)
              · (repeat (first | (with_reducible exact Frm.refl _ _) | assumption | (with_reducible refine Frm.alloc ?_ _) | ((with_reducible refine Frm.setCell ?_ ?_ _); rotate_left; (first | (focus (left; simp; done)) | (focus (right; simp; done)) | (focus (right; simp; omega)))) | ((with_reducible refine Frm.put ?_ _ ?_); rotate_left; (first | (focus (left; simp; done)) | (focus (right; simp; done)) | (focus (right; simp; omega)))) | (with_reducible refine Frm.drew ?_) | (with_reducible refine Frm.drewN ?_ _)))
            exact AllReadyIn.nil
          exact AllReadyIn.nil
        exact AllReadyIn.nil
      exact AllReadyIn.nil
  · rintro z W2 W' W'' h2z ⟨h1, h2, h3, h4, h5, h6⟩
    exact absurd h2 (by omega)
  · rintro cc pre W'' hp ⟨rfl, h1, c, h2, h3, h4⟩ hDf
    simp only [Exit.inBlock, Exit.then]
    gi_wp2
    have hcL : (f0, c) ∈ L := hS.mem_iff.1 (List.mem_iff_getElem?.2 ⟨_, h2⟩)
    have hcw := hcl _ hcL
    have hne := hd.ne hcL
    have hDl := lt_of_block hDf
    have hput : ∀ {k : Nat} {o : Obj}, W''.heap[k]? = some o → k ≠ W5.heap.size → (W''.putObj W5.heap.size (.deferred none)).heap[k]? = some o := fun h hk => (World.putObj_heap_other hk).trans h
    have h1p := hput h1 (by omega)
    refine leave_one (D := W5.heap.size) (v := .int .i64 0) rfl hDf (by simp [results, Tryz.results18, go_sem, h1p]) ?_
    refine DRet.upd hd hcL (f' := { f0 with bytes := turnB f0.bytes i k }) rfl _ ?_ 0 ?_ ?_ ?_ rfl
    · simp only
      have hnd := sorted_nodup hd.sorted
      rw [hfl] at hnd ⊢
      simp only [List.map_append, List.map_cons, List.nodup_append, List.nodup_cons, List.mem_map, List.mem_cons] at hnd
      unfold setF
      rw [List.map_append, List.map_cons, if_pos rfl]
      congr 1
      · conv => lhs; rw [← List.map_id A]
        refine List.map_congr_left fun g hg => ?_
        rw [if_neg (fun e => hnd.2.2 _ ⟨g, hg, rfl⟩ _ (.inl rfl) e)]; rfl
      · congr 1
        conv => lhs; rw [← List.map_id B]
        refine List.map_congr_left fun g hg => ?_
        rw [if_neg (fun e => hnd.2.1.1 ⟨g, hg, e⟩)]; rfl
    · exact (h4.mono (G := [b, c]) (fun x hx => .inl (by simp at hx; simp [hx]))).trans' (frm_putObj _ _ _) (by simp; omega)
    · exact hput (h4.blk hd.own (by simpa using fun e => hne.1 e.symm)) (by omega)
    · exact hput h3 (by simp only at hcw; omega)
end Go.Proofs.YtlopfabbjilpnaaGreatDoor
