/- 'palaverlaw05.LogBits': the law answers true. -/
import Derived.Test.YtlopfabbjilpnaaGreatDoorLogY
import Derived.Test.YtlopfabbjilpnaaGreatDoorLogV
import Derived.BigQuiet
set_option linter.unusedSimpArgs false
set_option linter.unusedVariables false
namespace Go.Proofs.YtlopfabbjilpnaaGreatDoor
open Go.RowKit

/-- Eight bits for each byte of a frame behind its length. -/
def bitsOf : List Bytes → Nat
  | [] => 0
  | r :: l => 8 * (8 + r.length) + bitsOf l
theorem bitsOf_append : ∀ (l m : List Bytes), bitsOf (l ++ m) = bitsOf l + bitsOf m
  | [], m => by simp [bitsOf]
  | r :: l, m => by rw [List.cons_append, bitsOf, bitsOf, bitsOf_append]; omega
theorem bitsOf_le : ∀ (l : List Bytes), (∀ r ∈ l, r.length ≤ 200) → bitsOf l ≤ 1664 * l.length
  | [], _ => Nat.le_refl _
  | r :: l, h => by
    have h1 := h r (by simp)
    have h2 := bitsOf_le l (fun x hx => h x (by simp [hx]))
    rw [bitsOf, List.length_cons]; omega
theorem bitsOf_pos : ∀ (l : List Bytes), l ≠ [] → 0 < bitsOf l
  | [], h => absurd rfl h
  | r :: l, _ => by rw [bitsOf]; omega
theorem DGood.turn {D D' : ADisk} (h : DGood D) {A B : List AFile} {f0 : AFile} (i k : Nat) (hf : D.files = A ++ f0 :: B) (hf' : D'.files = A ++ { f0 with bytes := turnB f0.bytes i k } :: B) (hr : D'.room = D.room) (hu : D'.fuse = D.fuse) : DGood D' := by
  have hm := h.mass
  have hs : sumB D'.files = sumB D.files := by rw [hf, hf', sumB_append, sumB_append, sumB_cons, sumB_cons, turnB_len]
  have hnm : D'.files.map (·.name) = D.files.map (·.name) := by rw [hf, hf']; simp
  refine DGood.mk' (by unfold ADisk.mass at hm ⊢; rw [hs, hr]; exact hm) (by rw [hu]; exact h.lo) (by rw [hu]; exact h.hi) (fun f hm => ?_) ?_ ?_
  · rw [hf'] at hm
    rcases List.mem_append.1 hm with h1 | h1
    · exact h.fgood (by rw [hf]; simp [h1])
    · rcases List.mem_cons.1 h1 with rfl | h1
      · have := h.fgood (f := f0) (by rw [hf]; simp)
        exact ⟨this.name, by show f0.synced ≤ (turnB f0.bytes i k).length; rw [turnB_len]; exact this.syn, this.seg⟩
      · exact h.fgood (by rw [hf]; simp [h1])
  · have := congrArg List.length hnm
    rw [List.length_map, List.length_map] at this
    rw [this]; exact h.num
  · have h1 := h.sort
    unfold Sorted at h1 ⊢
    have e1 : (D.files.map (·.name)).Pairwise (· < ·) := by rw [List.pairwise_map]; exact h1
    rw [← hnm, List.pairwise_map] at e1
    exact e1

/-- A row of files of a call's own, which no block of a disk is. -/
def FRow (W : World) (F : List Nat) (a : Option Addr) (l : List AFile) : Prop := ∀ (i : Nat) (f : AFile), l[i]? = some f → ∃ g cur, a = some ⟨g, 0, none⟩ ∧ g ∉ F ∧ W.heap[g]? = some (.cells cur 37 (0, 0)) ∧ cur[i * 3]? = some (sv f.name) ∧ cur[i * 3 + 1]? = some (sv f.bytes) ∧ cur[i * 3 + 2]? = some (.int .i64 f.synced)
theorem FRow.went {W W' : World} {F F' : List Nat} {a : Option Addr} {l : List AFile} (h : FRow W F a l) (hw : Went W W' F F') : FRow W' F' a l := fun i f hf => by
  obtain ⟨g, cur, h1, h2, h3, h4⟩ := h i f hf
  exact ⟨g, cur, h1, (hw.blk h3 h2).2, (hw.blk h3 h2).1, h4⟩
theorem FRow.frm {W W' : World} {F : List Nat} {a : Option Addr} {l : List AFile} (h : FRow W F a l) (hw : Frm [] W W') : FRow W' F a l := fun i f hf => by
  obtain ⟨g, cur, h1, h2, h3, h4⟩ := h i f hf
  exact ⟨g, cur, h1, h2, hw.blk h3 (by simp), h4⟩
theorem Files_st (w0 w : World) (b : Nat) (D : ADisk) (F : List Nat) (st : DSt w0 w b D F) (hg : DGood D) : Calls Tryz.prog 16 #[.pointer (some ⟨b, 0, none⟩)] w fun e w' => ∃ a c, e = .returned (.slice a D.files.length c) ∧ FRow w' F a D.files ∧ Frm [] w w' :=
  (Files_any b D F w st.disk hg.names hg.num).mono (by
    rintro e w' ⟨v, rfl, hfs, hf⟩
    obtain ⟨a, c, rfl, hrow⟩ := FS_row hfs
    refine ⟨a, c, rfl, fun i f hi => ?_, hf⟩
    obtain ⟨g, cur, h1, h2, h3⟩ := hrow i f hi
    exact ⟨g, cur, h1, fun hm => by have := st.disk.lt g hm; omega, h3⟩)

/-- What holds ahead of a round of the first loop. -/
def BitsI (w : World) (l : List Bytes) (b lb : Nat) (bits ix : Value) (W : World) : Prop := ∃ (i : Nat) (D : ADisk) (F : List Nat) (s : Nat), ix = .int .i64 i ∧ bits = .int .i64 (bitsOf (l.take i) : Nat) ∧ i ≤ l.length ∧ (∀ r ∈ l.take i, 0 < r.length ∧ r.length ≤ 200) ∧ LSt w W b lb D F ∧ LogSt D 1 (l.take i) s ∧ DGood D ∧ D.dead = false ∧
  4194304 ≤ D.room + (frames (l.take i)).length ∧ D.fuse = -1
set_option maxRecDepth 100000 in
set_option maxHeartbeats 8000000 in
theorem logBits_walk (a0 : Option Addr) (c0 : Nat) (l : List Bytes) (at0 : Nat) (w : World) (hrow : StrRow w a0 l) (hcap : l.length ≤ c0) (hc0 : c0 ≤ 9223372036854775807) (hat : at0 < 4294967296) :
    Calls Tryz.prog 8 #[.slice a0 l.length c0, .int .u32 at0] w fun e w' => e = .returned (.bool true) ∧ Frm [] w w' := by
  by_cases h01 : l.length < 1 ∨ 40 < l.length
  · clear hrow
    by_cases h1 : l.length < 1
    · have t1 : decide ((l.length : Int) < 1) = true := dec_yes (by omega)
      clear h01
      go_enter Tryz.func8, Tryz.ntmps8
      go_wp2_with (go_at_call 25; refine (wakes05_any _).mono ?_; rintro e w6 ⟨rfl, hF6⟩)
      go_ret
      exact ⟨rfl, hF6⟩
    · have t1 : decide ((l.length : Int) < 1) = false := dec_no (by omega)
      have t2 : decide ((40 : Int) < l.length) = true := dec_yes (by omega)
      clear h01
      go_enter Tryz.func8, Tryz.ntmps8
      go_wp2_with (go_at_call 25; refine (wakes05_any _).mono ?_; rintro e w6 ⟨rfl, hF6⟩)
      go_ret
      exact ⟨rfl, hF6⟩
  have hl1 : 1 ≤ l.length := by omega
  have hl40 : l.length ≤ 40 := by omega
  have t1 : decide ((l.length : Int) < 1) = false := dec_no (by omega)
  have t2 : decide ((40 : Int) < l.length) = false := dec_no (by omega)
  clear h01
  have HROW := Lib.hid hrow
  clear hrow
  have c0n := Lib.hid fun b F W hW => openD_none (D := newD) rfl rfl ▸ Open_any b newD F W hW newD_good rfl
  go_enter Tryz.func8, Tryz.ntmps8
  go_wp2_with fail
  refine (New_st _).mono ?_
  rintro e w1 ⟨b, F0, rfl, s0⟩
  go_wp2_with fail
  refine (c0n.out b F0 _ s0.disk).mono ?_
  intro e w2 hq
  obtain ⟨F1, lb, v, rfl, s1, w1t, hss, hvF⟩ := s0.opens hq
  obtain ⟨a, c, rfl, _⟩ := SS_get hss
  clear hq hss hvF s0 w1t
  go_wp2_with fail
  go_loopw [9, 10] (BitsI w l b lb) (fun _ p _ => l.length - (intOf p).toNat)
  case atStart => exact ⟨0, newD, F1, 0, rfl, rfl, Nat.zero_le _, by simp, s1, newD_log, newD_good, rfl, by show 4194304 ≤ 4194304 + (frames (l.take 0)).length; omega, rfl⟩
  case round =>
    obtain ⟨i, D, F, s, rfl, rfl, hi, hok, st, hst, hg, hd, hroom, hfz⟩ := hrel
    by_cases hil : i < l.length
    · obtain ⟨x, hx⟩ : ∃ x, l[i]? = some x := ⟨_, List.getElem?_eq_getElem hil⟩
      obtain ⟨g1, o1, cur1, T1, fz1, rfl, hg1, hc1⟩ := HROW.out i x hx
      have hg3 := st.frm.blk hg1 (by simp)
      have hi0 : (0 : Int) ≤ (i : Int) := by omega
      have hi1 : (i : Int) < (l.length : Int) := by omega
      have HT1 := Lib.hid (take_succ_eq hx)
      have HOK := Lib.hid hok
      have eL : (ba x).toList = x := by rw [ByteArray.toList_eq, ba_toList]
      by_cases hx0 : x = []
      · have e2 : ((ba x).toList == (ba []).toList) = true := by rw [eL, hx0, ByteArray.toList_eq, ba_toList]; rfl
        have HF := Lib.hid st.frm
        clear eL hx hok hg1 st hst hg hd hroom hfz
        go_wp2_with (go_at_call 25; refine (wakes05_any _).mono ?_; rintro e w6 ⟨rfl, hF6⟩)
        go_ret
        exact ⟨by simp, HF.out.trans hF6⟩
      · have e2 : ((ba x).toList == (ba []).toList) = false := by rw [eL, ByteArray.toList_eq, ba_toList]; simpa using hx0
        have hxl : 0 < x.length := List.length_pos_iff.2 hx0
        have HX0 := Lib.hid hxl
        by_cases hx3 : 200 < x.length
        · have t3 : decide ((200 : Int) < x.length) = true := dec_yes (by omega)
          have HF := Lib.hid st.frm
          clear eL hx hok hg1 hx0 st hst hg hd hroom hfz
          go_wp2_with (go_at_call 25; refine (wakes05_any _).mono ?_; rintro e w6 ⟨rfl, hF6⟩)
          go_ret
          exact ⟨by simp, HF.out.trans hF6⟩
        · have t3 : decide ((200 : Int) < x.length) = false := dec_no (by omega)
          have hx2 : x.length ≤ 200 := by omega
          have hxok : RecOk x := ⟨hxl, by omega⟩
          have hfx := frameB_le' 200 (by decide) x hx2
          have hfl := frames_le' 200 (by decide) (l.take i) (fun r hr => (hok r hr).2)
          have hbl := bitsOf_le (l.take i) (fun r hr => (hok r hr).2)
          rw [List.length_take, Nat.min_eq_left hi] at hfl hbl
          have hnx := hst.next
          rw [List.length_take, Nat.min_eq_left hi] at hnx
          have hnl : 1 + (l.take i).length < 98 := by rw [List.length_take]; omega
          rcases hst.add x hd hxok (by omega) hnl (by omega) with ⟨D', s', ha1, ha2, ha3, ha4, ha5, ha6, ha7, ha8⟩ | ⟨_, _, _, _, _, _, _, hne, _⟩
          case inr => exact absurd hfz hne
          have q3 := Lib.hid fun F W hl nl hW => ha1 ▸ LogAdd_any lb b x D F W hl nl hW hg (by omega) (by omega)
          have hgA := Lib.hid (show DGood D' by have := hg.add x (by omega); rwa [ha1] at this)
          obtain ⟨nb, hnb⟩ : ∃ nb, nb = bitsOf (l.take i) := ⟨_, rfl⟩
          rw [← hnb]
          have hnb1 : nb ≤ 1664 * i := by omega
          have HNB := Lib.hid hnb
          have HRM := Lib.hid (And.intro hroom (And.intro hfl hfx))
          have HA := Lib.hid (And.intro ha2 (And.intro ha5 (And.intro ha6 (ha7 hfz))))
          have HG1 := Lib.hid hg1
          clear eL hx hok hg1 hx0 hst hg hd hroom hfz hnb ha1 ha2 ha3 ha4 ha5 ha6 ha7 ha8 hnx hnl hfx hfl hbl hxok
          go_wp2_with fail
          refine (q3.out F _ st.log st.out st.disk).mono ?_
          intro e w5 hq
          obtain ⟨rfl, F5, s5, _⟩ := st.step hq
          have hg5 := s5.frm.blk HG1.out (by simp)
          clear hq st hg3
          go_wp2_with fail
          go_roundw
          case rel =>
            refine ⟨i + 1, D', F5, s', by go_num, ?_, hil, fun r hr => ?_, s5, by rw [HT1.out]; exact HA.out.1, hgA.out, HA.out.2.2.1, ?_, HA.out.2.2.2⟩
            · rw [HT1.out, bitsOf_append, ← HNB.out]; simp [bitsOf]
            · rw [HT1.out] at hr
              rcases List.mem_append.1 hr with h | h
              · exact HOK.out r h
              · simp at h; subst h; exact ⟨HX0.out, hx2⟩
            · have h1 := HA.out.2.1
              have h2 := HRM.out
              rw [HT1.out, frames_snoc, List.length_append]; omega
          case measure => simp only [intOf]; omega
    · obtain rfl : i = l.length := by omega
      rw [List.take_length] at hst hroom hok
      obtain ⟨Ds, hs1, hs2, hs3, hs4, hs5⟩ := hst.sync hd
      have hT : LogT Ds 1 l l.length [] := by
        rcases hs2 with ⟨_, h, _, _⟩ | h
        · rw [h] at hl1; simp at hl1
        · exact h
      have hgs : DGood Ds := by have := hg.logSync; rwa [hs1] at this
      have q1 := Lib.hid fun W hl hW => hs1 ▸ LogSync_any lb b D F W hl hW hg
      rw [List.take_length]
      obtain ⟨nb, hnb⟩ : ∃ nb, nb = bitsOf l := ⟨_, rfl⟩
      rw [← hnb]
      have hnb1 : nb ≤ 1664 * 40 := by have := bitsOf_le l (fun r hr => (hok r hr).2); rw [hnb]; omega
      have hnb0 : 0 < nb := by rw [hnb]; exact bitsOf_pos l (fun e => by rw [e] at hl1; simp at hl1)
      obtain ⟨kk, hkk⟩ : ∃ kk, kk = at0 % nb := ⟨_, rfl⟩
      have hkl : kk < nb := by rw [hkk]; exact Nat.mod_lt _ hnb0
      have hsr : ((at0 : Int) % (nb : Int)) = (kk : Int) := by rw [hkk, Int.natCast_emod]
      have HK := Lib.hid (And.intro hnb hkl)
      have HL := Lib.hid (And.intro hT (And.intro hgs (And.intro hok hs5)))
      clear hst hg hd hroom hok hs1 hs2 hs3 hs4 hs5 hT hgs hnb hkk
      go_wp2_with fail
      refine (q1.out _ st.log st.disk).mono ?_
      intro e w3 hq
      obtain ⟨rfl, F2, s2, _⟩ := st.step hq
      clear hq st
      go_wp2_with fail
      rw [hsr]
      clear hsr hkl
      go_loopw [11, 12, 13] (fun k b0 p wr => ∃ (i kq bt : Nat), p = .int .i64 i ∧ k = .int .i64 kq ∧ b0 = .int .i64 bt ∧ i ≤ l.length ∧ kq + bitsOf (l.take i) = kk ∧ bt = (frames (l.take i)).length ∧ wr = w3) (fun _ _ p _ => l.length - (intOf p).toNat)
      case atStart => exact ⟨0, kk, 0, rfl, rfl, rfl, Nat.zero_le _, rfl, rfl, rfl⟩
      case round =>
        obtain ⟨i, kq, bt, rfl, rfl, rfl, hi, hkq, hbt, rfl⟩ := hrel
        by_cases hil : i < l.length
        · obtain ⟨x, hx⟩ : ∃ x, l[i]? = some x := ⟨_, List.getElem?_eq_getElem hil⟩
          obtain ⟨g1, o1, cur1, T1, fz1, rfl, hg1, hc1⟩ := HROW.out i x hx
          have hg3 := s2.frm.blk hg1 (by simp)
          have hi0 : (0 : Int) ≤ (i : Int) := by omega
          have hi1 : (i : Int) < (l.length : Int) := by omega
          have hx2 : x.length ≤ 200 := (HL.out.2.2.1 x (List.mem_iff_getElem?.2 ⟨i, hx⟩)).2
          have hfl := frames_le' 200 (by decide) (l.take i) (fun r hr => (HL.out.2.2.1 r (List.mem_of_mem_take hr)).2)
          rw [List.length_take, Nat.min_eq_left hi, ← hbt] at hfl
          have hkq2 : kq ≤ 1664 * 40 := by have := HK.out.2; omega
          have hbt2 : bt ≤ 217 * 40 := by omega
          have HX := Lib.hid (And.intro hx (And.intro hkq (And.intro hbt hg1)))
          clear hx hkq hbt hg1 hfl
          by_cases hlt : kq < 8 * (8 + x.length)
          · have t3 : decide ((kq : Int) < 8 * (8 + (x.length : Int))) = true := dec_yes (by omega)
            have hq8 : kq / 8 < 8 + x.length := by omega
            have hk8 : kq % 8 < 8 := Nat.mod_lt _ (by decide)
            obtain ⟨hcf, A, f0, B, i0, hfl, ht, hi00, hopen⟩ := bits_plain HL.out.1 (fun r hr => (HL.out.2.2.1 r hr).2) (l1 := l.take i) (l2 := l.drop (i + 1)) (r := x) (by
              obtain ⟨h1, h2⟩ := List.getElem?_eq_some_iff.1 HX.out.1
              rw [← h2, List.getElem_cons_drop, List.take_append_drop]) (kq / 8) (kq % 8) hq8 hk8
            rw [← HX.out.2.2.1] at ht
            obtain ⟨DC, hDC⟩ : ∃ DC, DC = crashed Ds 0 := ⟨_, rfl⟩
            have hcr : crashD Ds 0 = (0, DC) := by unfold crashD; rw [if_neg (by simp [HL.out.2.2.2]), hDC]
            have hgC : DGood DC := by rw [hDC]; exact HL.out.2.1.crashed 0
            rw [← hDC] at hcf
            have hdC : DC.dead = true := by rw [hDC]; rfl
            obtain ⟨DT, hDT⟩ : ∃ DT : ADisk, DT = { DC with files := A ++ { f0 with bytes := turnB f0.bytes i0 (kq % 8) } :: B } := ⟨_, rfl⟩
            have hgT : DGood DT := hgC.turn i0 (kq % 8) (hcf.trans hfl) (by rw [hDT]) (by rw [hDT]) (by rw [hDT])
            have hop := hopen (startD DT) (by rw [hDT]; rfl) rfl
            obtain ⟨DZ, hDZ⟩ : ∃ DZ, DZ = startD DT := ⟨_, rfl⟩
            rw [← hDZ] at hop
            have hgZ : DGood DZ := by rw [hDZ]; exact hgT.start
            have hdZ : DZ.dead = false := by rw [hDZ]; rfl
            have hnZ : DZ.files.length ≤ 1000 := hgZ.num
            have hturn := fun F W hW => Turn_any b DC F (8 * (bt + 1) + kq) (bt + (1 + kq / 8)) i0 (kq % 8) A B f0 W hW hgC.names hgC.num hgC.mass hdC (hcf.trans hfl) ht hi00 (by omega) hk8 (by omega)
            rw [← hDT, show ((8 * (bt + 1) + kq : Nat) : Int) = 8 * ((bt : Int) + 1) + (kq : Int) by omega] at hturn
            have q4 := Lib.hid fun F W hW => hcr ▸ Crash_any b Ds F 0 W hW HL.out.2.1.names HL.out.2.1.num HL.out.2.1.mass HL.out.2.1.syn (by decide)
            have q5 := Lib.hid hturn
            have q6 := Lib.hid fun F W hW => hDZ ▸ Start_any b DT F W hW
            have q7 := Lib.hid fun F W hW => hop ▸ Open_any b DZ F W hW hgZ hdZ
            have HG := Lib.hid hgZ
            clear hq8 hk8 hcf hfl ht hi00 hopen hDC hcr hgC hdC hDT hgT hop hDZ hgZ hdZ hturn
            go_wp2_with fail
            refine (q4.out _ _ s2.disk).mono ?_
            intro e w4 hq
            obtain ⟨rfl, F4, s4, _⟩ := s2.toDSt.step hq
            clear hq s2
            go_wp2_with fail
            refine (q5.out _ _ s4.disk).mono ?_
            intro e w5 hq
            obtain ⟨rfl, F5, s5, _⟩ := s4.step hq
            clear hq s4
            go_wp2_with fail
            refine (q6.out _ _ s5.disk).mono ?_
            intro e w6 hq
            obtain ⟨rfl, F6, s6, _⟩ := s5.step hq
            clear hq s5
            go_wp2_with fail
            refine (Files_st w _ b DZ F6 s6 HG.out).mono ?_
            rintro e w7 ⟨aw, cw, rfl, hrw, hF7⟩
            have s7 := s6.frm0 hF7
            clear s6 hF7
            go_wp2_with fail
            go_loopw [15] (fun p wr => ∃ (j : Nat) (F : List Nat), p = .int .i64 j ∧ j ≤ 2 ∧ DSt w wr b DZ F ∧ FRow wr F aw DZ.files) (fun p _ => 2 - (intOf p).toNat)
            case atStart => exact ⟨0, F6, rfl, by decide, s7, hrw⟩
            case round =>
              clear s7 hrw
              obtain ⟨j, F7, rfl, hj, s7, hrw⟩ := hrel
              by_cases hj2 : j < 2
              · have tj : decide ((j : Int) < 2) = true := dec_yes (by omega)
                go_wp2_with fail
                refine (q7.out _ _ s7.disk).mono ?_
                intro e w8 hq
                obtain ⟨F8, rfl, s8, wt8⟩ := s7.halts hq (by decide)
                have hrw8 := hrw.went wt8
                clear hq s7 hrw wt8
                go_wp2_with fail
                refine (Files_st w _ b DZ F8 s8 HG.out).mono ?_
                rintro e w9 ⟨a9, c9, rfl, hr9, hF9⟩
                have s9 := s8.frm0 hF9
                have hrw9 := hrw8.frm hF9
                have HR := Lib.hid (And.intro hr9 hrw9)
                clear s8 hF9 hrw8 hr9 hrw9
                go_wp2_with fail
                go_loopw [20] (fun p wr => ∃ (k : Nat), p = .int .i64 k ∧ k ≤ DZ.files.length ∧ Frm [] w9 wr) (fun p _ => DZ.files.length - (intOf p).toNat)
                case atStart => exact ⟨0, rfl, Nat.zero_le _, Frm.refl _ _⟩
                case round =>
                  obtain ⟨k, rfl, hk, hFk⟩ := hrel
                  by_cases hkl : k < DZ.files.length
                  · obtain ⟨f, hf⟩ : ∃ f, DZ.files[k]? = some f := ⟨_, List.getElem?_eq_getElem hkl⟩
                    obtain ⟨g9, cur9, rfl, _, hg9, e1, e2, e3⟩ := (HR.out.1.frm hFk) k f hf
                    obtain ⟨gw, curw, rfl, _, hgw, d1, d2, d3⟩ := (HR.out.2.frm hFk) k f hf
                    have hk0 : (0 : Int) ≤ (k : Int) := by omega
                    have hk1 : (k : Int) < (DZ.files.length : Int) := by omega
                    clear hf
                    go_wp2
                    go_quiet (fail)
                    go_wp2
                    go_roundw
                    case rel => exact ⟨k + 1, by go_num, hkl, hFk.drewN _⟩
                    case measure => simp only [intOf]; omega
                  · obtain rfl : k = DZ.files.length := by omega
                    go_wp2_with fail
                    go_roundw
                    case rel => exact ⟨j + 1, F8, by go_num, hj2, s9.frm0 hFk, HR.out.2.frm hFk⟩
                    case measure => simp only [intOf]; omega
              · obtain rfl : j = 2 := by omega
                go_wp2_with fail
                refine (wakes05_any _).mono ?_
                rintro e w18 ⟨rfl, hF18⟩
                go_wp2_with fail
                go_ret
                exact ⟨by simp, s7.frm.trans hF18⟩
          · have t3 : decide ((kq : Int) < 8 * (8 + (x.length : Int))) = false := dec_no (by omega)
            go_wp2_with fail
            go_roundw
            case rel =>
              refine ⟨i + 1, kq - 8 * (8 + x.length), bt + 9 + x.length, by go_num, ?_, ?_, hil, ?_, ?_, by first | rfl | trivial⟩
              · first | (congr 1; done) | (congr 1; omega)
              · first | (congr 1; done) | (congr 1; omega)
              · rw [take_succ_eq HX.out.1, bitsOf_append]
                have := HX.out.2.1
                simp [bitsOf]; omega
              · rw [take_succ_eq HX.out.1, frames_snoc, List.length_append, frameB_len hx2]
                have := HX.out.2.2.1
                omega
            case measure => simp only [intOf]; omega
        · obtain rfl : i = l.length := by omega
          rw [List.take_length] at hkq
          have := HK.out
          omega
end Go.Proofs.YtlopfabbjilpnaaGreatDoor
