/- 'palaverlaw05.LogRenews': the law answers true. -/
import Derived.Test.YtlopfabbjilpnaaGreatDoorLogZ
import Derived.Test.YtlopfabbjilpnaaGreatDoorEnds
import Derived.Test.YtlopfabbjilpnaaGreatDoorDiskM
import Derived.Deep.RegionWith
set_option linter.unusedSimpArgs false
set_option linter.unusedVariables false
namespace Go.Proofs.YtlopfabbjilpnaaGreatDoor
open Go.RowKit
attribute [local go_sem ↓] app_lock

/-- What holds ahead of a round of the first loop. -/
def RenewsI (w : World) (l : List Bytes) (b lb : Nat) (ix : Value) (W : World) : Prop := ∃ (i : Nat) (D : ADisk) (F : List Nat) (s : Nat), ix = .int .i64 i ∧ i ≤ l.length ∧ (∀ r ∈ l.take i, 0 < r.length ∧ r.length ≤ 300) ∧ LSt w W b lb D F ∧ LogSt D 1 (l.take i) s ∧ DGood D ∧ D.dead = false ∧
  4194304 ≤ D.room + (frames (l.take i)).length ∧ D.fuse = -1
set_option maxRecDepth 100000 in
set_option maxHeartbeats 8000000 in
theorem logRenews_walk (a0 a1 : Option Addr) (c0 c1 : Nat) (el l : List Bytes) (fuse keep : Int) (w : World) (hrow : StrRow w a0 el) (hcap : el.length ≤ c0) (hc0 : c0 ≤ 9223372036854775807) (hrow1 : StrRow w a1 l) (hcap1 : l.length ≤ c1) (hc1 : c1 ≤ 9223372036854775807)
    (hf1 : -9223372036854775808 ≤ fuse) (hf2 : fuse ≤ 9223372036854775807) (hk1 : -9223372036854775808 ≤ keep) (hk2 : keep ≤ 9223372036854775807) :
    Calls Tryz.prog 7 #[.slice a0 el.length c0, .slice a1 l.length c1, .int .i64 fuse, .int .i64 keep] w fun e w' => e = .returned (.bool true) ∧ Frm [] w w' := by
  by_cases h60 : 60 < el.length
  · have t1 : decide ((60 : Int) < el.length) = true := dec_yes (by omega)
    clear hrow hrow1
    go_enter Tryz.func7, Tryz.ntmps7
    go_wp2_with (go_at_call 25; refine (wakes05_any _).mono ?_; rintro e w6 ⟨rfl, hF6⟩)
    go_ret
    exact ⟨rfl, hF6⟩
  have t1 : decide ((60 : Int) < el.length) = false := dec_no (by omega)
  by_cases h61 : 60 < l.length
  · have t2 : decide ((60 : Int) < l.length) = true := dec_yes (by omega)
    clear hrow hrow1
    go_enter Tryz.func7, Tryz.ntmps7
    go_wp2_with (go_at_call 25; refine (wakes05_any _).mono ?_; rintro e w6 ⟨rfl, hF6⟩)
    go_ret
    exact ⟨rfl, hF6⟩
  have t2 : decide ((60 : Int) < l.length) = false := dec_no (by omega)
  have hel60 : el.length ≤ 60 := by omega
  have hl60 : l.length ≤ 60 := by omega
  clear h60 h61
  have HROW := Lib.hid hrow
  have HROW1 := Lib.hid hrow1
  clear hrow hrow1
  have c0n := Lib.hid fun b F W hW => openD_none (D := newD) rfl rfl ▸ Open_any b newD F W hW newD_good rfl
  go_enter Tryz.func7, Tryz.ntmps7
  go_wp2_with fail
  refine (New_st _).mono ?_
  rintro e w1 ⟨b, F0, rfl, s0⟩
  go_wp2_with fail
  refine (c0n.out b F0 _ s0.disk).mono ?_
  intro e w2 hq
  obtain ⟨F1, lb, v, rfl, s1, w1t, hss, hvF⟩ := s0.opens hq
  obtain ⟨a, c, rfl, _⟩ := SS_get hss
  clear hq hss hvF s0 w1t
  go_wp2_with fail
  go_loopw [13] (RenewsI w el b lb) (fun p _ => el.length - (intOf p).toNat)
  case atStart => exact ⟨0, newD, F1, 0, rfl, Nat.zero_le _, by simp, s1, newD_log, newD_good, rfl, by show 4194304 ≤ 4194304 + (frames (el.take 0)).length; omega, rfl⟩
  case round =>
    obtain ⟨i, D, F, s, rfl, hi, hok, st, hst, hg, hd, hroom, hfz⟩ := hrel
    by_cases hil : i < el.length
    · obtain ⟨x, hx⟩ : ∃ x, el[i]? = some x := ⟨_, List.getElem?_eq_getElem hil⟩
      obtain ⟨g1, o1, cur1, T1, fz1, rfl, hg1, hcc1⟩ := HROW.out i x hx
      have hg3 := st.frm.blk hg1 (by simp)
      have hi0 : (0 : Int) ≤ (i : Int) := by omega
      have hi1 : (i : Int) < (el.length : Int) := by omega
      have HT1 := Lib.hid (take_succ_eq hx)
      have HOK := Lib.hid hok
      have eL : (ba x).toList = x := by rw [ByteArray.toList_eq, ba_toList]
      by_cases hx0 : x = []
      · have e2 : ((ba x).toList == (ba []).toList) = true := by rw [eL, hx0, ByteArray.toList_eq, ba_toList]; rfl
        have HF := Lib.hid st.frm
        clear eL hx hok hg1 st hst hg hd hroom hfz
        go_wp2_with (go_at_call 25; refine (wakes05_any _).mono ?_; rintro e w6 ⟨rfl, hF6⟩)
        go_ret
        exact ⟨by simp, HF.out.trans hF6⟩
      · have e2 : ((ba x).toList == (ba []).toList) = false := by rw [eL, ByteArray.toList_eq, ba_toList]; simpa using hx0
        have hxl : 0 < x.length := List.length_pos_iff.2 hx0
        have HX0 := Lib.hid hxl
        by_cases hx3 : 300 < x.length
        · have t3 : decide ((300 : Int) < x.length) = true := dec_yes (by omega)
          have HF := Lib.hid st.frm
          clear eL hx hok hg1 hx0 st hst hg hd hroom hfz
          go_wp2_with (go_at_call 25; refine (wakes05_any _).mono ?_; rintro e w6 ⟨rfl, hF6⟩)
          go_ret
          exact ⟨by simp, HF.out.trans hF6⟩
        · have t3 : decide ((300 : Int) < x.length) = false := dec_no (by omega)
          have hx2 : x.length ≤ 300 := by omega
          have hxok : RecOk x := ⟨hxl, by omega⟩
          have hfx := frameB_le' 300 (by decide) x hx2
          have hfl := frames_le' 300 (by decide) (el.take i) (fun r hr => (hok r hr).2)
          rw [List.length_take, Nat.min_eq_left hi] at hfl
          have hnx := hst.next
          rw [List.length_take, Nat.min_eq_left hi] at hnx
          have hnl : 1 + (el.take i).length < 98 := by rw [List.length_take]; omega
          rcases hst.add x hd hxok (by omega) hnl (by omega) with ⟨D', s', ha1, ha2, ha3, ha4, ha5, ha6, ha7, ha8⟩ | ⟨_, _, _, _, _, _, _, hne, _⟩
          case inr => exact absurd hfz hne
          have q3 := Lib.hid fun F W hl nl hW => ha1 ▸ LogAdd_any lb b x D F W hl nl hW hg (by omega) (by omega)
          have hgA := Lib.hid (show DGood D' by have := hg.add x (by omega); rwa [ha1] at this)
          have HRM := Lib.hid (And.intro hroom (And.intro hfl hfx))
          have HA := Lib.hid (And.intro ha2 (And.intro ha5 (And.intro ha6 (ha7 hfz))))
          clear eL hx hok hg1 hx0 hst hg hd hroom hfz ha1 ha2 ha3 ha4 ha5 ha6 ha7 ha8 hnx hnl hfx hfl hxok
          go_wp2_with fail
          refine (q3.out F _ st.log st.out st.disk).mono ?_
          intro e w5 hq
          obtain ⟨rfl, F5, s5, _⟩ := st.step hq
          clear hq st hg3
          go_wp2_with fail
          go_roundw
          case rel =>
            refine ⟨i + 1, D', F5, s', by go_num, hil, fun r hr => ?_, s5, by rw [HT1.out]; exact HA.out.1, hgA.out, HA.out.2.2.1, ?_, HA.out.2.2.2⟩
            · rw [HT1.out] at hr
              rcases List.mem_append.1 hr with h | h
              · exact HOK.out r h
              · simp at h; subst h; exact ⟨HX0.out, hx2⟩
            · have h1 := HA.out.2.1
              have h2 := HRM.out
              rw [HT1.out, frames_snoc, List.length_append]; omega
          case measure => simp only [intOf]; omega
    · obtain rfl : i = el.length := by omega
      rw [List.take_length] at hst hroom hok
      obtain ⟨Ds, hs1, hs2, hs3, hs4, hs5⟩ := hst.sync hd
      obtain ⟨Df, hf⟩ : ∃ Df, fuseD Ds fuse = (0, Df) := ⟨_, by unfold fuseD; rw [hs5]; rfl⟩
      have hf' : Df = { Ds with fuse := if fuse < -1 then -1 else fuse } := by have h2 := congrArg Prod.snd hf; unfold fuseD at h2; rw [if_neg (by simp [hs5])] at h2; exact h2.symm
      have hgs : DGood Ds := by have := hg.logSync; rwa [hs1] at this
      have hgf : DGood Df := by have := hgs.fuse hf2; rwa [hf] at this
      have hlf : LogSt Df 1 el el.length := hs2.of (by rw [hf'])
      have hdf : Df.dead = false := by rw [hf']; exact hs5
      have hrf : Df.room = D.room := by rw [hf']; exact hs3
      have hlof : -1 ≤ Df.fuse := by rw [hf']; show -1 ≤ (if fuse < -1 then -1 else fuse); split <;> omega
      have hnx : nextSeg Df < 100 := by have := hlf.next; omega
      have hfl := frames_le' 300 (by decide) el (fun r hr => (hok r hr).2)
      have hroom2 : 2000000 ≤ Df.room := by omega
      have q1 := Lib.hid fun W hl hW => hs1 ▸ LogSync_any lb b D F W hl hW hg
      have q2 := Lib.hid fun F W hW => hf ▸ Fuse_any b Ds F fuse W hW
      have HL := Lib.hid (And.intro hgf (And.intro hlf (And.intro hdf (And.intro hlof (And.intro hnx hroom2)))))
      clear hs1 hs2 hs3 hs4 hs5 hf hf' hgs hgf hlf hdf hrf hlof hnx hfl hroom2 hst hg hd hroom hfz hok
      go_wp2_with fail
      go_loopw [14] (fun p W => ∃ (i : Nat), p = .int .i64 i ∧ i ≤ l.length ∧ (∀ r ∈ l.take i, 0 < r.length ∧ r.length ≤ 300) ∧ W = wr) (fun p _ => l.length - (intOf p).toNat)
      case atStart => exact ⟨0, rfl, Nat.zero_le _, by simp, rfl⟩
      case round =>
        obtain ⟨i, rfl, hi, hok, rfl⟩ := hrel
        by_cases hil : i < l.length
        · obtain ⟨x, hx⟩ : ∃ x, l[i]? = some x := ⟨_, List.getElem?_eq_getElem hil⟩
          obtain ⟨g1, o1, cur1, T1, fz1, rfl, hg1, hcc1⟩ := HROW1.out i x hx
          have hg3 := st.frm.blk hg1 (by simp)
          have hi0 : (0 : Int) ≤ (i : Int) := by omega
          have hi1 : (i : Int) < (l.length : Int) := by omega
          have HT1 := Lib.hid (take_succ_eq hx)
          have HOK := Lib.hid hok
          have eL : (ba x).toList = x := by rw [ByteArray.toList_eq, ba_toList]
          by_cases hx0 : x = []
          · have e2 : ((ba x).toList == (ba []).toList) = true := by rw [eL, hx0, ByteArray.toList_eq, ba_toList]; rfl
            have HF := Lib.hid st.frm
            clear eL hx hok hg1 st
            go_wp2_with (go_at_call 25; refine (wakes05_any _).mono ?_; rintro e w6 ⟨rfl, hF6⟩)
            go_ret
            exact ⟨by simp, HF.out.trans hF6⟩
          · have e2 : ((ba x).toList == (ba []).toList) = false := by rw [eL, ByteArray.toList_eq, ba_toList]; simpa using hx0
            have hxl : 0 < x.length := List.length_pos_iff.2 hx0
            have HX0 := Lib.hid hxl
            by_cases hx3 : 300 < x.length
            · have t3 : decide ((300 : Int) < x.length) = true := dec_yes (by omega)
              have HF := Lib.hid st.frm
              clear eL hx hok hg1 hx0 st
              go_wp2_with (go_at_call 25; refine (wakes05_any _).mono ?_; rintro e w6 ⟨rfl, hF6⟩)
              go_ret
              exact ⟨by simp, HF.out.trans hF6⟩
            · have t3 : decide ((300 : Int) < x.length) = false := dec_no (by omega)
              have hx2 : x.length ≤ 300 := by omega
              clear eL hx hok hg1 hx0
              go_wp2_with fail
              go_roundw
              case rel =>
                refine ⟨i + 1, by go_num, hil, fun r hr => ?_, by first | rfl | trivial⟩
                rw [HT1.out] at hr
                rcases List.mem_append.1 hr with h | h
                · exact HOK.out r h
                · simp at h; subst h; exact ⟨HX0.out, hx2⟩
              case measure => simp only [intOf]; omega
        · obtain rfl : i = l.length := by omega
          rw [List.take_length] at hok
          have hokr : ∀ r ∈ l, RecOk r := fun r hr => ⟨(hok r hr).1, by have := (hok r hr).2; omega⟩
          have hfl := frames_le' 300 (by decide) l (fun r hr => (hok r hr).2)
          have hren := renew_plain (l := l) HL.out.2.1 HL.out.2.2.1 HL.out.2.2.2.1 (by have := HL.out.2.2.2.2.2; omega) hel60 hokr
          have q3 := Lib.hid fun F W hl nl hW hrw => LogRenew_any lb b a1 c1 l Df F W hl nl hW HL.out.1 hrw (by omega) (fun r hr => by have := (hok r hr).2; omega) HL.out.2.2.2.2.1
          have hgR := Lib.hid (HL.out.1.renew l HL.out.2.2.2.2.1)
          have HRW1 := Lib.hid (HROW1.out.frm st.frm)
          have HOKR := Lib.hid hokr
          clear hok hfl hokr
          go_wp2_with fail
          refine (q1.out _ st.log st.disk).mono ?_
          intro e w3 hq
          obtain ⟨rfl, F2, s2, _⟩ := st.step hq
          clear hq st
          go_wp2_with fail
          refine (q2.out F2 _ s2.disk).mono ?_
          intro e w4 hq
          obtain ⟨rfl, F3, s3, _⟩ := s2.step hq
          clear hq s2
          rcases hren with ⟨D', n, hr1, hr2, hr3⟩ | ⟨D', m, D4, hr1, hr2, hr3, hr4⟩
          · have HR1 := Lib.hid hr1
            have hgd : DGood D' := by have := hgR.out; rwa [hr1] at this
            obtain ⟨D4, ho1, ho2⟩ := renew_open hr2 HOKR.out keep
            have hcr : crashD D' keep = (0, crashed D' keep) := by unfold crashD; rw [if_neg (by simp [hr3])]
            have q4 := Lib.hid fun F W hW => hcr ▸ Crash_any b D' F keep W hW hgd.names hgd.num hgd.mass hgd.syn hk2
            obtain ⟨DZ, hDZ⟩ : ∃ DZ, DZ = crashed D' keep := ⟨_, rfl⟩
            have hgz : DGood DZ := by rw [hDZ]; exact hgd.crashed keep
            have hg4 : DGood D4 := by have := hgz.start.open; rw [hDZ, ho1] at this; exact this
            have q5 := Lib.hid fun F W hW => ho1 ▸ Open_any b (startD (crashed D' keep)) F W hW (hgd.crashed keep).start rfl
            have q6 := Lib.hid fun lb F W hl hW => ho2 ▸ LogSegments_any lb b D4 F W hl hW hg4
            have HD3 := Lib.hid hr3
            clear hr1 hr2 hr3 hgd ho1 ho2 hcr hgz hg4 hDZ
            go_wp2_with fail
            refine (q3.out F3 _ s3.log s3.out s3.disk (HROW1.out.frm s3.frm)).mono ?_
            rw [HR1.out]
            intro e w5 hq
            obtain ⟨rfl, F5, s5, _⟩ := s3.step hq
            clear hq s3
            go_wp2_with fail
            have hde := Dead_any b D' F5 _ s5.disk
            rw [HD3.out] at hde
            refine hde.mono ?_
            rintro e w6 ⟨rfl, rfl⟩
            clear hde
            go_wp2_with fail
            refine (q4.out _ _ s5.disk).mono ?_
            intro e w6 hq
            obtain ⟨rfl, F6, s6, _⟩ := s5.step hq
            clear hq s5
            go_wp2_with fail
            refine (Start_any b _ F6 _ s6.disk).mono ?_
            intro e w7 hq
            obtain ⟨rfl, F7, s7, _⟩ := s6.step hq
            clear hq s6
            go_wp2_with fail
            refine (q5.out F7 _ s7.disk).mono ?_
            intro e w8 hq
            obtain ⟨F8, lb8, v8, rfl, s8, _, hss8, hv8⟩ := s7.toDSt.opens hq
            obtain ⟨a8, c8', rfl, hrow8, hb8⟩ := SS_str hss8
            have HRW := Lib.hid (And.intro hrow8 (HROW1.out.frm s8.frm))
            clear hq s7 hss8 hrow8 hv8 hb8
            go_wp2_with fail
            refine (Same_n _ _ _ _ _ _ l l _ rfl rfl HRW.out.1 HRW.out.2 (by omega) (by omega)).mono ?_
            rintro e w10 ⟨rfl, hF10⟩
            have s10 := s8.frm0 hF10
            have t9 : decide (l = l) = true := decide_eq_true rfl
            clear s8
            go_wp2_with fail
            refine (q6.out lb8 F8 _ s10.log s10.disk).mono ?_
            rintro e w11 ⟨rfl, hF11⟩
            go_wp2_with fail
            refine (wakes05_any _).mono ?_
            rintro e w18 ⟨rfl, hF18⟩
            go_wp2_with fail
            go_ret
            exact ⟨by simp, s10.frm.trans (hF11.trans hF18)⟩
          · have HR1 := Lib.hid hr1
            have hgd : DGood D' := by have := hgR.out; rwa [hr1] at this
            have q5 := Lib.hid fun F W hW => hr4 ▸ Open_any b (startD D') F W hW hgd.start rfl
            have HD3 := Lib.hid hr3
            obtain ⟨gl, hgl⟩ : ∃ gl, gl = el ++ l.take m := ⟨_, rfl⟩
            obtain ⟨gn, hgn⟩ : ∃ gn, gn = gl.length := ⟨_, rfl⟩
            have hgn2 : gn = el.length + m := by rw [hgn, hgl, List.length_append, List.length_take, Nat.min_eq_left hr2]
            rw [← hgl] at q5
            have HGL := Lib.hid (And.intro hgl hgn)
            clear hr1 hr3 hr4 hgd hgl hgn
            go_wp2_with fail
            refine (q3.out F3 _ s3.log s3.out s3.disk (HROW1.out.frm s3.frm)).mono ?_
            rw [HR1.out]
            intro e w5 hq
            obtain ⟨rfl, F5, s5, _⟩ := s3.step hq
            clear hq s3
            go_wp2_with fail
            have hde := Dead_any b D' F5 _ s5.disk
            rw [HD3.out] at hde
            refine hde.mono ?_
            rintro e w6 ⟨rfl, rfl⟩
            clear hde
            go_wp2_with fail
            refine (Start_any b _ F5 _ s5.disk).mono ?_
            intro e w7 hq
            obtain ⟨rfl, F7, s7, _⟩ := s5.step hq
            clear hq s5
            go_wp2_with fail
            refine (q5.out F7 _ s7.disk).mono ?_
            intro e w8 hq
            obtain ⟨F8, lb8, v8, rfl, s8, _, hss8, hv8⟩ := s7.toDSt.opens hq
            obtain ⟨a8, c8', rfl, hrow8, hb8⟩ := SS_str hss8
            rw [← HGL.out.2]
            have HRW := Lib.hid (And.intro hrow8 (And.intro (HROW.out.frm s8.frm) (And.intro (HROW1.out.frm s8.frm) (And.intro s8.frm hss8))))
            clear hq s7 hss8 hrow8 hv8 hb8 s8
            go_wp2_with fail
            rw [show ((el.length : Int) + (m : Int) - (el.length : Int)) = (m : Int) by omega]
            have hm0 : (0 : Int) ≤ (m : Int) := by omega
            have hm1 : (m : Int) ≤ (l.length : Int) := by omega
            have hm2 : (m : Int) ≤ (c1 : Int) := by omega
            have tm0 : decide ((0 : Int) ≤ (m : Int)) = true := dec_yes hm0
            have tm1 : decide ((m : Int) ≤ (l.length : Int)) = true := dec_yes hm1
            have tmx : max (m : Int) 0 = (m : Int) := by omega
            obtain ⟨v1, w9, a2, c2, w10, hap1, hap2, hF10, hrow10⟩ := run_joined (c := c0) (d := c1) (k := m) (HRW.out.2.1.frm (Frm.drew (Frm.refl [] w8))) ((HRW.out.2.2.1.take' m).frm (Frm.drew (Frm.refl [] w8))) (by rw [List.length_take]; omega) (by omega) (by rw [List.length_take]; omega)
            have HX10 := Lib.hid (And.intro hF10 hrow10)
            clear hF10 hrow10
            have hs2 : decide (gl = el ++ l.take m) = true := decide_eq_true HGL.out.1
            have hsame := Same_n a8 a2 c8' c2 (el.length + m) (el.length + m) gl (el ++ l.take m) w10 (by rw [← hgn2]; exact HGL.out.2.symm) (by rw [List.length_append, List.length_take]; omega) (HRW.out.1.frm (Frm.trans (Frm.drew (Frm.refl [] w8)) HX10.out.1)) HX10.out.2 (by omega) (by omega)
            rw [hs2] at hsame
            have HSAME := Lib.hid hsame
            clear hsame hs2
            refine wp_region_any (by kernel_rfl) ?_
            rw [show ({ w8 with drawn := w8.drawn + 1 } : World) = w8.drew from rfl]
            refine wpAny_take (i := 0) (v := ?_) rfl (by kernel_rfl) (by kernel_rfl) (by kernel_rfl) (fun _ _ _ h => h) (Or.inl ⟨by kernel_rfl, ?_⟩) ?_
            rotate_left
            · intro w; go_simp; all_goals (with_reducible rfl)
            refine wpAny_take (i := 1) (v := ?_) rfl (by kernel_rfl) (by kernel_rfl) (by kernel_rfl) (fun _ _ _ h => h) (Or.inl ⟨by kernel_rfl, ?_⟩) ?_
            rotate_left
            · intro w; go_simp; all_goals (with_reducible rfl)
            refine wpAny_take (i := 2) (v := ?_) rfl (by kernel_rfl) (by kernel_rfl) (by kernel_rfl) (fun _ _ _ h => h) (Or.inl ⟨by kernel_rfl, ?_⟩) ?_
            rotate_left
            · intro w; go_simp; all_goals (with_reducible rfl)
            refine wpAny_take (i := 3) (v := ?_) rfl (by kernel_rfl) (by kernel_rfl) (by kernel_rfl) (fun _ _ _ h => h) (Or.inl ⟨by kernel_rfl, ?_⟩) ?_
            rotate_left
            · intro w; go_simp; all_goals (with_reducible rfl)
            refine wpAny_take (i := 4) (v := ?_) rfl (by kernel_rfl) (by kernel_rfl) (by kernel_rfl) (fun _ _ _ h => h) (Or.inl ⟨by kernel_rfl, ?_⟩) ?_
            rotate_left
            · intro w; go_simp; all_goals (with_reducible rfl)
            refine wpAny_take (i := 5) (v := ?_) rfl (by kernel_rfl) (by kernel_rfl) (by kernel_rfl) (fun _ _ _ h => h) (Or.inl ⟨by kernel_rfl, ?_⟩) ?_
            rotate_left
            · intro w; go_simp; all_goals (with_reducible rfl)
            refine wpAny_take (i := 6) (v := ?_) rfl (by kernel_rfl) (by kernel_rfl) (by kernel_rfl) (fun _ _ _ h => h) (Or.inl ⟨by kernel_rfl, ?_⟩) ?_
            rotate_left
            · intro w; go_simp; all_goals (with_reducible rfl)
            refine wpAny_take (i := 7) (v := ?_) rfl (by kernel_rfl) (by kernel_rfl) (by kernel_rfl) (fun _ _ _ h => h) (Or.inl ⟨by kernel_rfl, ?_⟩) ?_
            rotate_left
            · intro w; go_simp; all_goals (with_reducible rfl)
            refine wpAny_take (i := 8) (v := ?_) rfl (by kernel_rfl) (by kernel_rfl) (by kernel_rfl) (fun _ _ _ h => h) (Or.inl ⟨by kernel_rfl, ?_⟩) ?_
            rotate_left
            · intro w; go_simp; all_goals (with_reducible rfl)
            refine wpAny_take (i := 9) (v := ?_) rfl (by kernel_rfl) (by kernel_rfl) (by kernel_rfl) (fun _ _ _ h => h) (Or.inl ⟨by kernel_rfl, ?_⟩) ?_
            rotate_left
            · intro w; go_simp; all_goals (with_reducible rfl)
            refine wpAny_take (i := 10) (v := ?_) rfl (by kernel_rfl) (by kernel_rfl) (by kernel_rfl) (fun _ _ _ h => h) (Or.inl ⟨by kernel_rfl, ?_⟩) ?_
            rotate_left
            · intro w; go_simp; all_goals (with_reducible rfl)
            refine wpAny_take (i := 12) (v := ?_) rfl (by kernel_rfl) (by kernel_rfl) (by kernel_rfl) (fun _ _ _ h => h) (Or.inl ⟨by kernel_rfl, ?_⟩) ?_
            rotate_left
            · intro w; go_simp; all_goals (with_reducible rfl)
            refine wpAny_take (i := 13) (v := ?_) rfl (by kernel_rfl) (by kernel_rfl) (by kernel_rfl) (fun _ _ _ h => h) (Or.inl ⟨by kernel_rfl, ?_⟩) ?_
            rotate_left
            · intro w; go_simp; all_goals (with_reducible rfl)
            refine wpAny_take (i := 14) (v := ?_) rfl (by kernel_rfl) (by kernel_rfl) (by kernel_rfl) (fun _ _ _ h => h) (Or.inl ⟨by kernel_rfl, ?_⟩) ?_
            rotate_left
            · intro w; go_simp; all_goals (with_reducible rfl)
            refine wpAny_take (i := 15) (v := ?_) rfl (by kernel_rfl) (by kernel_rfl) (by kernel_rfl) (fun _ _ _ h => h) (Or.inl ⟨by kernel_rfl, ?_⟩) ?_
            rotate_left
            · intro w; go_simp; all_goals (with_reducible rfl)
            refine wpAny_ready (rs := [11]) (by kernel_rfl) (by simp) ?_
            refine AllReady.cons rfl (fun K hK => ?_) AllReady.nil
            go_simp
            refine hK _ _ ?_
            clear hK K
            refine wpAny_ready (rs := [16]) (by kernel_rfl) (by simp) ?_
            refine AllReady.cons rfl (fun K hK => ?_) AllReady.nil
            go_simp
            refine hK _ _ ?_
            clear hK K
            refine wpAny_ready (rs := [17]) (by kernel_rfl) (by simp) ?_
            refine AllReady.cons rfl (fun K hK => ?_) AllReady.nil
            go_simp
            go_at_call 30
            refine (HSAME.out).mono ?_
            rintro e w11 ⟨rfl, hF11⟩
            go_simp
            refine hK _ _ ?_
            clear hK K
            refine wpAny_take (i := 18) (v := ?_) rfl (by kernel_rfl) (by kernel_rfl) (by kernel_rfl) (fun _ _ _ h => h) (Or.inl ⟨by kernel_rfl, ?_⟩) ?_
            rotate_left
            · intro w; go_simp; all_goals (with_reducible rfl)
            refine wpAny_take (i := 19) (v := ?_) rfl (by kernel_rfl) (by kernel_rfl) (by kernel_rfl) (fun _ _ _ h => h) (Or.inl ⟨by kernel_rfl, ?_⟩) ?_
            rotate_left
            · intro w; go_simp; all_goals (with_reducible rfl)
            refine wpAny_done (by kernel_rfl) ?_ _
            have hF12 : Frm [] w8 w11 := Frm.trans (Frm.trans (Frm.drew (Frm.refl [] w8)) HX10.out.1) hF11
            have HW11 := Lib.hid (And.intro (HRW.out.1.frm hF12) (And.intro (HRW.out.2.1.frm hF12) (And.intro (HRW.out.2.2.1.frm hF12) (HRW.out.2.2.2.1.trans hF12))))
            clear hF12 hF11 hap1 hap2 HX10 HSAME
            by_cases hkk : l.length ≤ el.length + m
            · obtain ⟨kn, hkn⟩ : ∃ kn, kn = el.length + m - l.length := ⟨_, rfl⟩
              have hk1 : (el.length : Int) + (m : Int) - (l.length : Int) = (kn : Int) := by omega
              have tk : decide ((0 : Int) ≤ (kn : Int)) = true := dec_yes (by omega)
              have tk2 : decide ((l.length : Int) ≤ (el.length : Int) + (m : Int)) = true := dec_yes (by omega)
              have tmk : max (kn : Int) 0 = (kn : Int) := by omega
              have hcap8 : el.length + m ≤ c8' := by have := SS_cap HRW.out.2.2.2.2; rw [← HGL.out.2] at this; omega
              have hkc : kn ≤ c8' := by omega
              have hkc1 : (kn : Int) ≤ (c8' : Int) := by omega
              have HG8 := Lib.hid (show el.length + m = gl.length by rw [← hgn2]; exact HGL.out.2)
              have hk0 : (0 : Int) ≤ (kn : Int) := by omega
              go_wp2_with fail
              · generalize hX : gl.take (el.length + m - (el.length + m - l.length)) = X
                have hXl : X.length = el.length + m - (el.length + m - l.length) := by rw [← hX, List.length_take, ← HG8.out]; omega
                have hXr : StrRow w11 a8 X := by rw [← hX]; exact HW11.out.1.take' _
                refine (Same_n _ _ _ _ _ _ X l _ hXl rfl hXr HW11.out.2.2.1 (by omega) (by omega)).mono ?_
                rintro e w12 ⟨rfl, hF12⟩
                clear hX hXl hXr
                generalize decide (X = l) = r
                cases r
                · go_wp2_with fail
                  refine (wakes05_any _).mono ?_
                  rintro e w18 ⟨rfl, hF18⟩
                  go_wp2_with fail
                  go_ret
                  exact ⟨by simp, HW11.out.2.2.2.trans (hF12.trans hF18)⟩
                · go_wp2_with fail
                  refine (ends_any _ _ _ _ _ _ (gl.take (el.length + m - l.length)) el _ (by have := HG8.out; rw [List.length_take]; omega) rfl ((HW11.out.1.take' _).frm hF12) (HW11.out.2.1.frm hF12) (by omega) (by omega) (by omega)).mono ?_
                  rintro e w13 ⟨⟨r2, rfl⟩, hF13⟩
                  go_wp2_with fail
                  refine (wakes05_any _).mono ?_
                  rintro e w18 ⟨rfl, hF18⟩
                  go_wp2_with fail
                  go_ret
                  exact ⟨by simp, HW11.out.2.2.2.trans (hF12.trans (hF13.trans hF18))⟩
              · generalize hX : gl.drop (el.length + m - l.length) = X
                have hXl : X.length = el.length + m - (el.length + m - l.length) := by rw [← hX, List.length_drop, ← HG8.out]
                have hXr : StrRow w11 (Option.map (fun x => x.add (el.length + m - l.length)) a8) X := by rw [← hX]; exact HW11.out.1.drop _
                refine (Same_n _ _ _ _ _ _ X l _ hXl rfl hXr HW11.out.2.2.1 (by omega) (by omega)).mono ?_
                rintro e w12 ⟨rfl, hF12⟩
                clear hX hXl hXr
                generalize decide (X = l) = r
                cases r
                · go_wp2_with fail
                  refine (wakes05_any _).mono ?_
                  rintro e w18 ⟨rfl, hF18⟩
                  go_wp2_with fail
                  go_ret
                  exact ⟨by simp, HW11.out.2.2.2.trans (hF12.trans hF18)⟩
                · go_wp2_with fail
                  refine (ends_any _ _ _ _ _ _ (gl.take (el.length + m - l.length)) el _ (by have := HG8.out; rw [List.length_take]; omega) rfl ((HW11.out.1.take' _).frm hF12) (HW11.out.2.1.frm hF12) (by omega) (by omega) (by omega)).mono ?_
                  rintro e w13 ⟨⟨r2, rfl⟩, hF13⟩
                  go_wp2_with fail
                  refine (wakes05_any _).mono ?_
                  rintro e w18 ⟨rfl, hF18⟩
                  go_wp2_with fail
                  go_ret
                  exact ⟨by simp, HW11.out.2.2.2.trans (hF12.trans (hF13.trans hF18))⟩
            · have tk : decide ((0 : Int) ≤ (el.length : Int) + (m : Int) - (l.length : Int)) = false := dec_no (by omega)
              have tk2 : decide ((l.length : Int) ≤ (el.length : Int) + (m : Int)) = false := dec_no (by omega)
              go_wp2_with fail
              refine (wakes05_any _).mono ?_
              rintro e w18 ⟨rfl, hF18⟩
              go_wp2_with fail
              go_ret
              exact ⟨by simp, HW11.out.2.2.2.trans hF18⟩
end Go.Proofs.YtlopfabbjilpnaaGreatDoor
