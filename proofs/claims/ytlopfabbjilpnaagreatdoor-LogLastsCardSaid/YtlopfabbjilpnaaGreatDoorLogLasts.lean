/- 'palaverlaw05.LogLasts': the law answers true. -/
import Derived.Test.YtlopfabbjilpnaaGreatDoorLogX
import Derived.Test.YtlopfabbjilpnaaGreatDoorLogV
import Derived.Test.YtlopfabbjilpnaaGreatDoorDiskM
set_option linter.unusedSimpArgs false
set_option linter.unusedVariables false
namespace Go.Proofs.YtlopfabbjilpnaaGreatDoor
open Go.RowKit
attribute [local go_sem ↓] app_lock

theorem StrRow.take {w : World} {a : Option Addr} {l : List Bytes} (h : StrRow w a l) (n : Nat) : StrRow w a (l.take n) := fun i x hx => h i x (by
  rcases Nat.lt_or_ge i n with hi | hi
  · rw [List.getElem?_take_of_lt hi] at hx; exact hx
  · rw [List.getElem?_eq_none (by rw [List.length_take]; omega)] at hx; cases hx)
theorem Same_yes (a b : Option Addr) (c d : Nat) (l : List Bytes) (w : World) (ha : StrRow w a l) (hb : StrRow w b l) (hl : l.length ≤ 1000000) :
    Calls Tryz.prog 30 #[.slice a l.length c, .slice b l.length d] w fun e w' => e = .returned (.bool true) ∧ Frm [] w w' :=
  (Same_any a b c d l l w ha hb hl hl).mono (by rintro e w' ⟨rfl, h⟩; exact ⟨by simp, h⟩)
theorem Same_yesN (a b : Option Addr) (c d n : Nat) (l : List Bytes) (w : World) (hn : l.length = n) (ha : StrRow w a l) (hb : StrRow w b l) (hl : n ≤ 1000000) :
    Calls Tryz.prog 30 #[.slice a n c, .slice b n d] w fun e w' => e = .returned (.bool true) ∧ Frm [] w w' := by
  subst hn; exact Same_yes a b c d l w ha hb hl
theorem Start_st (w0 w : World) (b lb : Nat) (D : ADisk) (F : List Nat) (st : LSt w0 w b lb D F) : Calls Tryz.prog 19 #[.pointer (some ⟨b, 0, none⟩)] w fun e w' => e = .returned (.int .i64 0) ∧ ∃ F', LSt w0 w' b lb (startD D) F' :=
  (Start_any b D F w st.disk).mono (by
    intro e w' hq
    obtain ⟨rfl, F', h, _⟩ := st.step hq
    exact ⟨rfl, F', h⟩)
/-- append(append([]string(nil), got...), more). -/
theorem run_more {base : Nat} {w : World} {v : Value} {l : List Bytes} (h : SS base w v l) (hl : l.length ≤ 1000000) (hb : base ≤ w.heap.size) (m : Bytes) : ∃ v1 w1 g c w2, (appL #[42, 42] 42 #[.slice none 0 0, v]).run Tryz.prog w = .ok v1 w1 ∧
    (appL #[42, 42] 42 #[v1, .slice (some ⟨w1.heap.size, 0, none⟩) 1 1]).run Tryz.prog (w1.alloc (.cells #[sv m] 9)) = .ok (.slice (some ⟨g, 0, none⟩) (l ++ [m]).length c) w2 ∧ Frm [] w w2 ∧ SS w.heap.size w2 (.slice (some ⟨g, 0, none⟩) (l ++ [m]).length c) (l ++ [m]) := by
  obtain ⟨v1, w1, h1, h2, h3, _⟩ := run_app elS w.heap.size 42 42 (.slice none 0 0) 0 [] w (World.ownsRow_nil w _ _ _) v l.length (l.map sv) (SS_src h) (by unfold maxLen; omega) (by omega) (Nat.le_refl _)
  rw [app_lock] at h1
  have hf1 : Frm [] w w1 := (Frm.refl [] w).grown h3 (fun k hk => by cases hk)
  obtain ⟨v2, w2, k1, k2, k3⟩ := run_app1 elS w.heap.size 42 v1 _ _ #[sv m] 9 w1 h2 rfl (by simp [Value.oneCell']) (by omega) (by unfold maxLen; omega) hf1.size
  obtain ⟨g, c, rfl⟩ := ownsRow_succ k2
  have e : 0 + l.length + 1 = (l ++ [m]).length := by simp
  rw [e] at k1 k2
  refine ⟨v1, w1, g, c, w2, h1, k1, (hf1.alloc _).grown k3 (fun k hk => .inr (own_lt h2 hk).1), ?_⟩
  unfold SS
  simpa using k2

theorem DSt.rebase {w0 w1 W : World} {b : Nat} {D : ADisk} {F : List Nat} (h : DSt w1 W b D F) (hf : Frm [] w0 w1) : DSt w0 W b D F := ⟨h.disk, fun x hx => Nat.le_trans hf.size (h.new x hx), hf.trans h.frm⟩
/-- What holds ahead of a round of the second loop. -/
def LastsI (w : World) (l : List Bytes) (sure b lb : Nat) (ad ix : Value) (W : World) : Prop := ∃ (i : Nat) (D : ADisk) (F : List Nat) (s : Nat), ad = .int .i64 i ∧ ix = .int .i64 i ∧ i ≤ l.length ∧ LSt w W b lb D F ∧ LogSt D 1 (l.take i) s ∧ DGood D ∧ D.dead = false ∧
  4194304 ≤ D.room + (frames (l.take i)).length ∧ -1 ≤ D.fuse ∧ (i ≤ sure → D.fuse = -1) ∧ (sure < i → sure ≤ s)
set_option maxRecDepth 100000 in
set_option maxHeartbeats 8000000 in
theorem logLasts_walk (a0 : Option Addr) (c0 : Nat) (l : List Bytes) (sync : Nat) (fuse keep : Int) (w : World) (hrow : StrRow w a0 l) (hcap : l.length ≤ c0) (hc0 : c0 ≤ 9223372036854775807) (hsy : sync < 256) (hf1 : -9223372036854775808 ≤ fuse) (hf2 : fuse ≤ 9223372036854775807) (hk1 : -9223372036854775808 ≤ keep) (hk2 : keep ≤ 9223372036854775807) :
    Calls Tryz.prog 6 #[.slice a0 l.length c0, .int .u8 sync, .int .i64 fuse, .int .i64 keep] w fun e w' => e = .returned (.bool true) ∧ Frm [] w w' := by
  by_cases h60 : 60 < l.length
  · clear hrow
    go_enter Tryz.func6, Tryz.ntmps6
    go_wp2_with (go_at_call 25; refine (wakes05_any _).mono ?_; rintro e w6 ⟨rfl, hF6⟩)
    go_ret
    exact ⟨rfl, hF6⟩
  have HROW := Lib.hid hrow
  clear hrow
  obtain ⟨sure, hsure⟩ : ∃ s : Nat, s = sync % (l.length + 1) := ⟨_, rfl⟩
  have hsl : sure ≤ l.length := by have := Nat.mod_lt sync (show 0 < l.length + 1 by omega); omega
  have hsr : ((sync : Int) % ((l.length : Int) + 1)) = (sure : Int) := by rw [hsure, Int.natCast_emod]; rfl
  have c0n := Lib.hid fun b F W hW => openD_none (D := newD) rfl rfl ▸ Open_any b newD F W hW newD_good rfl
  have HSU := Lib.hid hsure
  clear hsure
  go_enter Tryz.func6, Tryz.ntmps6
  go_wp2
  go_loopw [9] (fun p wr => ∃ (i : Nat), p = .int .i64 i ∧ i ≤ l.length ∧ (∀ r ∈ l.take i, 0 < r.length ∧ r.length ≤ 300) ∧ Frm [] w wr) (fun p _ => l.length - (intOf p).toNat)
  case atStart => exact ⟨0, rfl, Nat.zero_le _, by simp, Frm.refl _ _⟩
  case round =>
    obtain ⟨i, rfl, hi, hok, hFr⟩ := hrel
    by_cases hil : i < l.length
    · obtain ⟨x, hx⟩ : ∃ x, l[i]? = some x := ⟨_, List.getElem?_eq_getElem hil⟩
      obtain ⟨g1, o1, cur1, T1, fz1, rfl, hg1, hc1⟩ := HROW.out i x hx
      have hg3 := hFr.blk hg1 (by simp)
      have hi0 : (0 : Int) ≤ (i : Int) := by omega
      have hi1 : (i : Int) < (l.length : Int) := by omega
      have HT1 := Lib.hid (take_succ_eq hx)
      have HOK := Lib.hid hok
      have eL : (ba x).toList = x := by rw [ByteArray.toList_eq, ba_toList]
      by_cases hx0 : x = []
      · have e2 : ((ba x).toList == (ba []).toList) = true := by rw [eL, hx0, ByteArray.toList_eq, ba_toList]; rfl
        clear eL hx hok hg1
        go_wp2_with (go_at_call 25; refine (wakes05_any _).mono ?_; rintro e w6 ⟨rfl, hF6⟩)
        go_ret
        exact ⟨by simp, hFr.trans hF6⟩
      · have e2 : ((ba x).toList == (ba []).toList) = false := by rw [eL, ByteArray.toList_eq, ba_toList]; simpa using hx0
        have hxl : 0 < x.length := List.length_pos_iff.2 hx0
        have HX0 := Lib.hid hxl
        by_cases hx3 : 300 < x.length
        · have t3 : decide ((300 : Int) < x.length) = true := dec_yes (by omega)
          clear eL hx hok hg1 hx0
          go_wp2_with (go_at_call 25; refine (wakes05_any _).mono ?_; rintro e w6 ⟨rfl, hF6⟩)
          go_ret
          exact ⟨by simp, hFr.trans hF6⟩
        · have t3 : decide ((300 : Int) < x.length) = false := dec_no (by omega)
          clear eL hx hok hg1 hx0
          go_wp2
          go_roundw
          case rel =>
            refine ⟨i + 1, by go_num, hil, fun r hr => ?_, hFr⟩
            rw [HT1.out] at hr
            rcases List.mem_append.1 hr with h | h
            · exact HOK.out r h
            · simp at h; subst h; exact ⟨HX0.out, by omega⟩
          case measure => simp only [intOf]; omega
    · obtain rfl : i = l.length := by omega
      rw [List.take_length] at hok
      have HOK := Lib.hid hok
      have HFR := Lib.hid hFr
      clear hok
      have hl60 : l.length ≤ 60 := by omega
      go_wp2_with fail
      refine (New_st _).mono ?_
      rintro e w1 ⟨b, F0, rfl, s0'⟩
      have s0 := s0'.rebase HFR.out
      clear s0'
      go_wp2_with fail
      refine (c0n.out b F0 _ s0.disk).mono ?_
      intro e w2 hq
      obtain ⟨F1, lb, v, rfl, s1, w1t, hss, hvF⟩ := s0.opens hq
      obtain ⟨a, c, rfl, _⟩ := SS_get hss
      clear hq hss hvF s0 w1t
      go_wp2_with fail
      rw [hsr]
      clear hsr
      go_loopw [15, 16] (LastsI w l sure b lb) (fun _ p _ => l.length - (intOf p).toNat)
      case atStart => exact ⟨0, newD, F1, 0, rfl, rfl, Nat.zero_le _, s1, newD_log, newD_good, rfl, by show 4194304 ≤ 4194304 + (frames (l.take 0)).length; omega, by decide, fun _ => rfl, fun h => by omega⟩
      case round =>
        obtain ⟨i, D, F, s, rfl, rfl, hi, st, hst, hg, hd, hroom, hlo, hfz, hss⟩ := hrel
        by_cases hil : i < l.length
        · obtain ⟨x, hx⟩ : ∃ x, l[i]? = some x := ⟨_, List.getElem?_eq_getElem hil⟩
          obtain ⟨g1, o1, cur1, T1, fz1, rfl, hg1, hc1⟩ := HROW.out i x hx
          have hi0 : (0 : Int) ≤ (i : Int) := by omega
          have hi1 : (i : Int) < (l.length : Int) := by omega
          have hxm := HOK.out x (List.mem_iff_getElem?.2 ⟨i, hx⟩)
          have hxok : RecOk x := ⟨hxm.1, by omega⟩
          have htk := take_succ_eq hx
          have hfx := frameB_le' 300 (by decide) x hxm.2
          have hfl := frames_le' 300 (by decide) (l.take i) (fun r hr => (HOK.out r (List.mem_of_mem_take hr)).2)
          rw [List.length_take, Nat.min_eq_left hi] at hfl
          have hst' := hst.next
          rw [List.length_take, Nat.min_eq_left hi] at hst'
          have hnl : 1 + (l.take i).length < 98 := by rw [List.length_take]; omega
          have HG1 := Lib.hid hg1
          have HX := Lib.hid hx
          have HTK := Lib.hid htk
          clear hx htk hg1
          by_cases his : i = sure
          · have his1 : sure ≤ i := by omega
            have his2 : i ≤ sure := by omega
            have t1 : ((i : Int) == (sure : Int)) = true := int_eq (by omega)
            clear his
            obtain ⟨Ds, hs1, hs2, hs3, hs4, hs5⟩ := hst.sync hd
            obtain ⟨Df, hf⟩ : ∃ Df, fuseD Ds fuse = (0, Df) := ⟨_, by unfold fuseD; rw [hs5]; rfl⟩
            have hf' : Df = { Ds with fuse := if fuse < -1 then -1 else fuse } := by have h2 := congrArg Prod.snd hf; unfold fuseD at h2; rw [if_neg (by simp [hs5])] at h2; exact h2.symm
            have hgs : DGood Ds := by have := hg.logSync; rwa [hs1] at this
            have hgf : DGood Df := by have := hgs.fuse hf2; rwa [hf] at this
            have hlf : LogSt Df 1 (l.take i) (l.take i).length := hs2.of (by rw [hf'])
            have hdf : Df.dead = false := by rw [hf']; exact hs5
            have hrf : Df.room = D.room := by rw [hf']; exact hs3
            have hlof : -1 ≤ Df.fuse := by rw [hf']; show -1 ≤ (if fuse < -1 then -1 else fuse); split <;> omega
            have hnx : nextSeg Df < 100 := by have := hlf.next; rw [List.length_take] at this; omega
            have q1 := Lib.hid fun W hl hW => hs1 ▸ LogSync_any lb b D F W hl hW hg
            have q2 := Lib.hid fun F W hW => hf ▸ Fuse_any b Ds F fuse W hW
            have q3 := Lib.hid fun F W hl nl hW => LogAdd_any lb b x Df F W hl nl hW hgf (by omega) hnx
            have hadd := hlf.add x hdf hxok (by omega) hnl hlof
            have hgA := Lib.hid (hgf.add x hnx)
            have HS1 := Lib.hid hs1
            clear hs1 hs2 hf hf' hst hlf hs5 hd
            go_wp2_with fail
            refine (q1.out _ st.log st.disk).mono ?_
            intro e w3 hq
            obtain ⟨rfl, F2, s2, _⟩ := st.step hq
            clear hq st
            go_wp2_with fail
            refine (q2.out F2 _ s2.disk).mono ?_
            intro e w4 hq
            obtain ⟨rfl, F3, s3, _⟩ := s2.step hq
            clear hq s2
            have hg4 := s3.frm.blk HG1.out (by simp)
            rcases hadd with ⟨D', s', ha1, ha2, ha3, ha4, ha5, ha6, ha7, ha8⟩ | ⟨D', s', pp, ha1, ha2, ha3, ha4, ha5, ha6, ha7⟩
            · have HA1 := Lib.hid ha1
              go_wp2_with fail
              refine (q3.out F3 _ s3.log s3.out s3.disk).mono ?_
              rw [HA1.out]
              intro e w5 hq
              obtain ⟨rfl, F5, s5, _⟩ := s3.step hq
              clear hq s3 ha1 hg4
              go_wp2_with fail
              go_roundw
              case rel =>
                have hgd := hgA.out
                rw [HA1.out] at hgd
                refine ⟨i + 1, D', F5, s', by go_num, by go_num, hil, s5, by rw [HTK.out]; exact ha2, hgd, ha6, ?_, ha8, fun h => by omega, fun _ => ?_⟩
                · rw [HTK.out, frames_snoc, List.length_append]; omega
                · rw [List.length_take] at ha3; omega
              case measure => simp only [intOf]; omega
            · have HA1 := Lib.hid ha1
              go_wp2_with fail
              refine (q3.out F3 _ s3.log s3.out s3.disk).mono ?_
              rw [HA1.out]
              intro e w5 hq
              obtain ⟨rfl, F5, s5, _⟩ := s3.step hq
              have hgd := hgA.out
              rw [HA1.out] at hgd
              have hroom5 : 1000 ≤ D'.room := by omega
              clear hq s3 ha1 hg4 hlof hnx hrf hgf hgs hfl hfx hxok hxm ha5 ha6 hroom
              have HT := Lib.hid ha2
              clear ha2
              have t5 : ((sure : Int) == (l.length : Int)) = false := int_ne (by omega)
              have hde := Dead_any b D' F5 _ s5.disk
              rw [ha4] at hde
              go_wp2_with fail
              refine hde.mono ?_
              rintro e w6 ⟨rfl, rfl⟩
              clear hde
              go_wp2_with fail
              refine (Start_st w _ b lb D' F5 s5).mono ?_
              rintro e w7 ⟨rfl, F7, s7⟩
              obtain ⟨D4, D5, D6, D7, D8, k1, k2, k3, k4, k5, kd4, kd7, kn, g4, g5, g6, g7⟩ := lasts_tail (D := startD D') (recs := l.take i) (s := s') (p := pp) (.inr (HT.out.of rfl)) rfl ha7 hroom5 (by rw [List.length_take]; omega) (DGood.start hgd)
              obtain ⟨DZ, hDZ⟩ : ∃ DZ, DZ = D' := ⟨_, rfl⟩
              have hgz : DGood DZ := by rw [hDZ]; exact hgd
              rw [← hDZ] at k1 s7
              obtain ⟨recs, hrecs⟩ : ∃ recs, recs = l.take i := ⟨_, rfl⟩
              have hrl : recs.length = i := by rw [hrecs, List.length_take]; omega
              rw [← hrecs] at k1 k2 k5
              have hrl1 : sure ≤ recs.length := by omega
              have hrl2 : recs.length ≤ i + 1 := by omega
              have hrl3 : recs.length ≤ l.length := by omega
              clear hgd hroom5 s5 ha4 hrl hDZ ha3 ha7
              have hrow0 : StrRow w (some ⟨g1, o1, none⟩) recs := by rw [hrecs]; exact HROW.out.take _
              have q4 := Lib.hid fun F W hW => k1 ▸ Open_any b (startD DZ) F W hW hgz.start rfl
              have q5 := Lib.hid fun F W hW => k2 ▸ Open_any b D4 F W hW g4 kd4
              have q6 := Lib.hid fun lb F W hl nl hW => k3 ▸ LogAdd_any lb b [109, 111, 114, 101] D5 F W hl nl hW g5 (by simp) kn
              have q7 := Lib.hid fun lb F W hl hW => k4 ▸ LogSync_any lb b D6 F W hl hW g6
              have q8 := Lib.hid fun F W hW => k5 ▸ Open_any b D7 F W hW g7 kd7
              have HR0 := Lib.hid hrow0
              clear k1 k2 k3 k4 k5 kd4 kd7 kn g4 g5 g6 g7 hrow0 hgz hrecs
              go_wp2_with fail
              refine (q4.out F7 _ s7.disk).mono ?_
              intro e w8 hq
              obtain ⟨F8, lb8, v8, rfl, s8, _, hss8, hv8⟩ := s7.toDSt.opens hq
              obtain ⟨a8, c8', rfl, hrow8, hb8⟩ := SS_str hss8
              clear hq s7
              go_wp2_with fail
              refine (q5.out F8 _ s8.disk).mono ?_
              intro e w9 hq
              obtain ⟨F9, lb9, v9, rfl, s9, wt9, hss9, hv9⟩ := s8.toDSt.opens hq
              obtain ⟨a9, c9, rfl, hrow9, hb9⟩ := SS_str hss9
              have hss8b : SS w.heap.size w9 (.slice a8 recs.length c8') recs := own_frm hss8 wt9.frm hv8
              have hrow8b := hrow8.frm' wt9.frm (fun g o hg => hv8 g (hb8 g o hg))
              have hout8 : ∀ g, (Value.slice a8 recs.length c8').ownBlock = some g → g ∉ F9 := fun g hg => wt9.out (hv8 g hg) (own_lt hss8 hg).2
              have hrow0b := HR0.out.frm s9.frm
              have HX9 := Lib.hid (And.intro hss8b (And.intro hrow8b (And.intro hrow9 (And.intro hrow0b hout8))))
              clear hq hss8 hrow8 wt9 s8 hss9 hv9 hb9 hb8 hv8 hss8b hrow8b hrow9 hrow0b hout8
              go_wp2_with fail
              refine (Same_yes _ _ _ _ recs _ HX9.out.2.1 HX9.out.2.2.2.1 (by omega)).mono ?_
              rintro e w10 ⟨rfl, hF10⟩
              go_wp2_with fail
              refine (Same_yes _ _ _ _ recs _ (HX9.out.2.2.1.frm hF10) (HX9.out.2.1.frm hF10) (by omega)).mono ?_
              rintro e w11 ⟨rfl, hF11⟩
              have s11 := s9.frm0 (hF10.trans hF11)
              have hss11 : SS w.heap.size w11 (.slice a8 recs.length c8') recs := own_frm HX9.out.1 (hF10.trans hF11) (fun _ _ h => by cases h)
              clear s9
              go_wp2_with fail
              refine (q6.out lb9 F9 _ s11.log s11.out s11.disk).mono ?_
              intro e w12 hq
              obtain ⟨rfl, F12, s12, wt12⟩ := s11.step hq
              have hss12 : SS w.heap.size w12 (.slice a8 recs.length c8') recs := own_frm hss11 wt12.frm HX9.out.2.2.2.2
              have hout12 : ∀ g, (Value.slice a8 recs.length c8').ownBlock = some g → g ∉ F12 := fun g hg => wt12.out (HX9.out.2.2.2.2 g hg) (own_lt hss11 hg).2
              clear hq s11 hss11 wt12
              go_wp2_with fail
              refine (q7.out lb9 F12 _ s12.log s12.disk).mono ?_
              intro e w13 hq
              obtain ⟨rfl, F13, s13, wt13⟩ := s12.step hq
              have hss13 : SS w.heap.size w13 (.slice a8 recs.length c8') recs := own_frm hss12 wt13.frm hout12
              have hout13 : ∀ g, (Value.slice a8 recs.length c8').ownBlock = some g → g ∉ F13 := fun g hg => wt13.out (hout12 g hg) (own_lt hss12 hg).2
              clear hq s12 hss12 wt13 hout12
              go_wp2_with fail
              refine (q8.out F13 _ s13.disk).mono ?_
              intro e w14 hq
              obtain ⟨F14, lb14, v14, rfl, s14, wt14, hss14, hv14⟩ := s13.toDSt.opens hq
              obtain ⟨a14, c14, rfl, hrow14, _⟩ := SS_str hss14
              have hss14b : SS w.heap.size w14 (.slice a8 recs.length c8') recs := own_frm hss13 wt14.frm hout13
              obtain ⟨v15, w15, g15, c15, w16, hrun1, hrun2, hF16, hss16⟩ := run_more hss14b (by omega) s14.frm.size [109, 111, 114, 101]
              obtain ⟨a16, c16, he16, hrow16, _⟩ := SS_str hss16
              injection he16 with he1 he2 he3
              subst he1
              have HX14 := Lib.hid (And.intro hrow14 (And.intro hF16 (And.intro hrow16 s14.frm)))
              clear hq s13 hss13 wt14 hout13 hss14 hss14b hv14 hrow14 hF16 hss16 hrow16 he2 he3 s14
              go_wp2_with fail
              (with_reducible refine (Same_yesN _ _ _ _ (recs.length + 1) (recs ++ [[109, 111, 114, 101]]) _ (by simp) (HX14.out.1.frm HX14.out.2.1) HX14.out.2.2.1 (by omega)).mono ?_)
              rintro e w17 ⟨rfl, hF17⟩
              go_wp2_with fail
              refine (wakes05_any _).mono ?_
              rintro e w18 ⟨rfl, hF18⟩
              go_wp2_with fail
              go_ret
              exact ⟨by simp, HX14.out.2.2.2.trans (HX14.out.2.1.trans (hF17.trans hF18))⟩
          · have t1 : ((i : Int) == (sure : Int)) = false := int_ne (by omega)
            have hnx : nextSeg D < 100 := by omega
            have q3 := Lib.hid fun W hl nl hW => LogAdd_any lb b x D F W hl nl hW hg (by omega) hnx
            have hadd := hst.add x hd hxok (by omega) hnl hlo
            have hgA := Lib.hid (hg.add x hnx)
            have hg4 := st.frm.blk HG1.out (by simp)
            clear hst hd
            rcases hadd with ⟨D', s', ha1, ha2, ha3, ha4, ha5, ha6, ha7, ha8⟩ | ⟨D', s', pp, ha1, ha2, ha3, ha4, ha5, ha6, ha7⟩
            · have HA1 := Lib.hid ha1
              clear ha1
              go_wp2_with fail
              refine (q3.out _ st.log st.out st.disk).mono ?_
              rw [HA1.out]
              intro e w5 hq
              obtain ⟨rfl, F5, s5, _⟩ := st.step hq
              clear hq st hg4
              go_wp2_with fail
              go_roundw
              case rel =>
                have hgd := hgA.out
                rw [HA1.out] at hgd
                refine ⟨i + 1, D', F5, s', by go_num, by go_num, hil, s5, by rw [HTK.out]; exact ha2, hgd, ha6, ?_, ha8, fun h => ha7 (hfz (by omega)), fun h => ?_⟩
                · rw [HTK.out, frames_snoc, List.length_append]; omega
                · have := hss (by omega); omega
              case measure => simp only [intOf]; omega
            · have HA1 := Lib.hid ha1
              have hsi : sure < i := by
                rcases Nat.lt_or_ge sure i with h | h
                · exact h
                · exact absurd (hfz h) ha5
              have hsss := hss hsi
              clear ha1
              go_wp2_with fail
              refine (q3.out _ st.log st.out st.disk).mono ?_
              rw [HA1.out]
              intro e w5 hq
              obtain ⟨rfl, F5, s5, _⟩ := st.step hq
              have hgd := hgA.out
              rw [HA1.out] at hgd
              have hroom5 : 1000 ≤ D'.room := by omega
              clear hq st hg4 hg hss hfz hnx hfl hfx hxok hxm ha5 ha6 hroom hlo
              have HT := Lib.hid ha2
              clear ha2
              have t5 : ((sure : Int) == (l.length : Int)) = false := int_ne (by omega)
              have hde := Dead_any b D' F5 _ s5.disk
              rw [ha4] at hde
              go_wp2_with fail
              refine hde.mono ?_
              rintro e w6 ⟨rfl, rfl⟩
              clear hde
              go_wp2_with fail
              refine (Start_st w _ b lb D' F5 s5).mono ?_
              rintro e w7 ⟨rfl, F7, s7⟩
              obtain ⟨D4, D5, D6, D7, D8, k1, k2, k3, k4, k5, kd4, kd7, kn, g4, g5, g6, g7⟩ := lasts_tail (D := startD D') (recs := l.take i) (s := s') (p := pp) (.inr (HT.out.of rfl)) rfl ha7 hroom5 (by rw [List.length_take]; omega) (DGood.start hgd)
              obtain ⟨DZ, hDZ⟩ : ∃ DZ, DZ = D' := ⟨_, rfl⟩
              have hgz : DGood DZ := by rw [hDZ]; exact hgd
              rw [← hDZ] at k1 s7
              obtain ⟨recs, hrecs⟩ : ∃ recs, recs = l.take i := ⟨_, rfl⟩
              have hrl : recs.length = i := by rw [hrecs, List.length_take]; omega
              rw [← hrecs] at k1 k2 k5
              have hrl1 : sure ≤ recs.length := by omega
              have hrl2 : recs.length ≤ i + 1 := by omega
              have hrl3 : recs.length ≤ l.length := by omega
              clear hgd hroom5 s5 ha4 hrl hDZ ha3 ha7
              have hrow0 : StrRow w (some ⟨g1, o1, none⟩) recs := by rw [hrecs]; exact HROW.out.take _
              have q4 := Lib.hid fun F W hW => k1 ▸ Open_any b (startD DZ) F W hW hgz.start rfl
              have q5 := Lib.hid fun F W hW => k2 ▸ Open_any b D4 F W hW g4 kd4
              have q6 := Lib.hid fun lb F W hl nl hW => k3 ▸ LogAdd_any lb b [109, 111, 114, 101] D5 F W hl nl hW g5 (by simp) kn
              have q7 := Lib.hid fun lb F W hl hW => k4 ▸ LogSync_any lb b D6 F W hl hW g6
              have q8 := Lib.hid fun F W hW => k5 ▸ Open_any b D7 F W hW g7 kd7
              have HR0 := Lib.hid hrow0
              clear k1 k2 k3 k4 k5 kd4 kd7 kn g4 g5 g6 g7 hrow0 hgz hrecs
              go_wp2_with fail
              refine (q4.out F7 _ s7.disk).mono ?_
              intro e w8 hq
              obtain ⟨F8, lb8, v8, rfl, s8, _, hss8, hv8⟩ := s7.toDSt.opens hq
              obtain ⟨a8, c8', rfl, hrow8, hb8⟩ := SS_str hss8
              clear hq s7
              go_wp2_with fail
              refine (q5.out F8 _ s8.disk).mono ?_
              intro e w9 hq
              obtain ⟨F9, lb9, v9, rfl, s9, wt9, hss9, hv9⟩ := s8.toDSt.opens hq
              obtain ⟨a9, c9, rfl, hrow9, hb9⟩ := SS_str hss9
              have hss8b : SS w.heap.size w9 (.slice a8 recs.length c8') recs := own_frm hss8 wt9.frm hv8
              have hrow8b := hrow8.frm' wt9.frm (fun g o hg => hv8 g (hb8 g o hg))
              have hout8 : ∀ g, (Value.slice a8 recs.length c8').ownBlock = some g → g ∉ F9 := fun g hg => wt9.out (hv8 g hg) (own_lt hss8 hg).2
              have hrow0b := HR0.out.frm s9.frm
              have HX9 := Lib.hid (And.intro hss8b (And.intro hrow8b (And.intro hrow9 (And.intro hrow0b hout8))))
              clear hq hss8 hrow8 wt9 s8 hss9 hv9 hb9 hb8 hv8 hss8b hrow8b hrow9 hrow0b hout8
              go_wp2_with fail
              refine (Same_yes _ _ _ _ recs _ HX9.out.2.1 HX9.out.2.2.2.1 (by omega)).mono ?_
              rintro e w10 ⟨rfl, hF10⟩
              go_wp2_with fail
              refine (Same_yes _ _ _ _ recs _ (HX9.out.2.2.1.frm hF10) (HX9.out.2.1.frm hF10) (by omega)).mono ?_
              rintro e w11 ⟨rfl, hF11⟩
              have s11 := s9.frm0 (hF10.trans hF11)
              have hss11 : SS w.heap.size w11 (.slice a8 recs.length c8') recs := own_frm HX9.out.1 (hF10.trans hF11) (fun _ _ h => by cases h)
              clear s9
              go_wp2_with fail
              refine (q6.out lb9 F9 _ s11.log s11.out s11.disk).mono ?_
              intro e w12 hq
              obtain ⟨rfl, F12, s12, wt12⟩ := s11.step hq
              have hss12 : SS w.heap.size w12 (.slice a8 recs.length c8') recs := own_frm hss11 wt12.frm HX9.out.2.2.2.2
              have hout12 : ∀ g, (Value.slice a8 recs.length c8').ownBlock = some g → g ∉ F12 := fun g hg => wt12.out (HX9.out.2.2.2.2 g hg) (own_lt hss11 hg).2
              clear hq s11 hss11 wt12
              go_wp2_with fail
              refine (q7.out lb9 F12 _ s12.log s12.disk).mono ?_
              intro e w13 hq
              obtain ⟨rfl, F13, s13, wt13⟩ := s12.step hq
              have hss13 : SS w.heap.size w13 (.slice a8 recs.length c8') recs := own_frm hss12 wt13.frm hout12
              have hout13 : ∀ g, (Value.slice a8 recs.length c8').ownBlock = some g → g ∉ F13 := fun g hg => wt13.out (hout12 g hg) (own_lt hss12 hg).2
              clear hq s12 hss12 wt13 hout12
              go_wp2_with fail
              refine (q8.out F13 _ s13.disk).mono ?_
              intro e w14 hq
              obtain ⟨F14, lb14, v14, rfl, s14, wt14, hss14, hv14⟩ := s13.toDSt.opens hq
              obtain ⟨a14, c14, rfl, hrow14, _⟩ := SS_str hss14
              have hss14b : SS w.heap.size w14 (.slice a8 recs.length c8') recs := own_frm hss13 wt14.frm hout13
              obtain ⟨v15, w15, g15, c15, w16, hrun1, hrun2, hF16, hss16⟩ := run_more hss14b (by omega) s14.frm.size [109, 111, 114, 101]
              obtain ⟨a16, c16, he16, hrow16, _⟩ := SS_str hss16
              injection he16 with he1 he2 he3
              subst he1
              have HX14 := Lib.hid (And.intro hrow14 (And.intro hF16 (And.intro hrow16 s14.frm)))
              clear hq s13 hss13 wt14 hout13 hss14 hss14b hv14 hrow14 hF16 hss16 hrow16 he2 he3 s14
              go_wp2_with fail
              (with_reducible refine (Same_yesN _ _ _ _ (recs.length + 1) (recs ++ [[109, 111, 114, 101]]) _ (by simp) (HX14.out.1.frm HX14.out.2.1) HX14.out.2.2.1 (by omega)).mono ?_)
              rintro e w17 ⟨rfl, hF17⟩
              go_wp2_with fail
              refine (wakes05_any _).mono ?_
              rintro e w18 ⟨rfl, hF18⟩
              go_wp2_with fail
              go_ret
              exact ⟨by simp, HX14.out.2.2.2.trans (HX14.out.2.1.trans (hF17.trans hF18))⟩
        · obtain rfl : i = l.length := by omega
          rw [List.take_length] at hst hroom
          have hfl := frames_le' 300 (by decide) l (fun r hr => (HOK.out r hr).2)
          have hroom5 : 1000 ≤ D.room := by omega
          clear hroom hfl hfz hlo
          by_cases hse : sure = l.length
          · have hse1 : sure ≤ l.length := by omega
            have hse2 : l.length ≤ sure := by omega
            clear hse
            have t5 : ((sure : Int) == (l.length : Int)) = true := int_eq (by omega)
            obtain ⟨Dy, hs1, hs2, hs3, hs4, hs5⟩ := hst.sync hd
            have hgy : DGood Dy := by have := hg.logSync; rwa [hs1] at this
            have q1 := Lib.hid fun W hl hW => hs1 ▸ LogSync_any lb b D F W hl hW hg
            have hroom6 : 1000 ≤ Dy.room := by omega
            have hsy2 : sure ≤ l.length := by omega
            clear hs1 hst hg hd hroom5 hs3 hs4
            go_wp2_with fail
            refine (q1.out _ st.log st.disk).mono ?_
            intro e w3 hq
            obtain ⟨rfl, F2, s2, _⟩ := st.step hq
            clear hq st
            go_wp2_with fail
            have hde := Dead_any b Dy F2 _ s2.disk
            rw [hs5] at hde
            refine hde.mono ?_
            rintro e w6 ⟨rfl, rfl⟩
            clear hde
            have hcr : crashD Dy keep = (0, crashed Dy keep) := by unfold crashD; rw [if_neg (by simp [hs5])]
            have q9 := Lib.hid fun W hW => hcr ▸ Crash_any b Dy F2 keep W hW hgy.names hgy.num hgy.mass hgy.syn hk2
            obtain ⟨n, pp, hn1, hn2, hT⟩ := hs2.crash keep
            have hgz : DGood (crashed Dy keep) := hgy.crashed keep
            have hroom7 : 1000 ≤ (crashed Dy keep).room := by show 1000 ≤ Dy.room + _; omega
            clear hcr hgy hs2 hs5 hroom6
            go_wp2_with fail
            refine (q9.out _ s2.disk).mono ?_
            intro e w6 hq
            obtain ⟨rfl, F6, s6, _⟩ := s2.step hq
            clear hq s2
            go_wp2_with fail
            refine (Start_st w _ b lb _ F6 s6).mono ?_
            rintro e w7 ⟨rfl, F7, s7⟩
            obtain ⟨DZ, hDZ⟩ : ∃ DZ, DZ = crashed Dy keep := ⟨_, rfl⟩
            have hfz7 : DZ.fuse = -1 := by rw [hDZ]; rfl
            rw [← hDZ] at hT hgz hroom7 s7
            obtain ⟨D4, D5, D6, D7, D8, k1, k2, k3, k4, k5, kd4, kd7, kn, g4, g5, g6, g7⟩ := lasts_tail (D := startD DZ) (recs := l.take n) (s := l.length) (p := pp) (by
              rcases hT with ⟨h1, h2, _, _⟩ | h
              · exact .inl ⟨h1, by rw [h2, List.take_nil]⟩
              · exact .inr (h.of rfl)) rfl hfz7 hroom7 (by rw [List.length_take]; omega) hgz.start
            obtain ⟨recs, hrecs⟩ : ∃ recs, recs = l.take n := ⟨_, rfl⟩
            have hrl : recs.length = n := by rw [hrecs, List.length_take]; omega
            rw [← hrecs] at k1 k2 k5
            have hrl1 : sure ≤ recs.length := by omega
            have hrl2 : recs.length ≤ l.length := by omega
            clear hroom7 s6 hrl hDZ hT hfz7
            have hrow0 : StrRow w (a0) recs := by rw [hrecs]; exact HROW.out.take _
            have q4 := Lib.hid fun F W hW => k1 ▸ Open_any b (startD DZ) F W hW hgz.start rfl
            have q5 := Lib.hid fun F W hW => k2 ▸ Open_any b D4 F W hW g4 kd4
            have q6 := Lib.hid fun lb F W hl nl hW => k3 ▸ LogAdd_any lb b [109, 111, 114, 101] D5 F W hl nl hW g5 (by simp) kn
            have q7 := Lib.hid fun lb F W hl hW => k4 ▸ LogSync_any lb b D6 F W hl hW g6
            have q8 := Lib.hid fun F W hW => k5 ▸ Open_any b D7 F W hW g7 kd7
            have HR0 := Lib.hid hrow0
            clear k1 k2 k3 k4 k5 kd4 kd7 kn g4 g5 g6 g7 hrow0 hgz hrecs
            go_wp2_with fail
            refine (q4.out F7 _ s7.disk).mono ?_
            intro e w8 hq
            obtain ⟨F8, lb8, v8, rfl, s8, _, hss8, hv8⟩ := s7.toDSt.opens hq
            obtain ⟨a8, c8', rfl, hrow8, hb8⟩ := SS_str hss8
            clear hq s7
            go_wp2_with fail
            refine (q5.out F8 _ s8.disk).mono ?_
            intro e w9 hq
            obtain ⟨F9, lb9, v9, rfl, s9, wt9, hss9, hv9⟩ := s8.toDSt.opens hq
            obtain ⟨a9, c9, rfl, hrow9, hb9⟩ := SS_str hss9
            have hss8b : SS w.heap.size w9 (.slice a8 recs.length c8') recs := own_frm hss8 wt9.frm hv8
            have hrow8b := hrow8.frm' wt9.frm (fun g o hg => hv8 g (hb8 g o hg))
            have hout8 : ∀ g, (Value.slice a8 recs.length c8').ownBlock = some g → g ∉ F9 := fun g hg => wt9.out (hv8 g hg) (own_lt hss8 hg).2
            have hrow0b := HR0.out.frm s9.frm
            have HX9 := Lib.hid (And.intro hss8b (And.intro hrow8b (And.intro hrow9 (And.intro hrow0b hout8))))
            clear hq hss8 hrow8 wt9 s8 hss9 hv9 hb9 hb8 hv8 hss8b hrow8b hrow9 hrow0b hout8
            go_wp2_with fail
            refine (Same_yes _ _ _ _ recs _ HX9.out.2.1 HX9.out.2.2.2.1 (by omega)).mono ?_
            rintro e w10 ⟨rfl, hF10⟩
            go_wp2_with fail
            refine (Same_yes _ _ _ _ recs _ (HX9.out.2.2.1.frm hF10) (HX9.out.2.1.frm hF10) (by omega)).mono ?_
            rintro e w11 ⟨rfl, hF11⟩
            have s11 := s9.frm0 (hF10.trans hF11)
            have hss11 : SS w.heap.size w11 (.slice a8 recs.length c8') recs := own_frm HX9.out.1 (hF10.trans hF11) (fun _ _ h => by cases h)
            clear s9
            go_wp2_with fail
            refine (q6.out lb9 F9 _ s11.log s11.out s11.disk).mono ?_
            intro e w12 hq
            obtain ⟨rfl, F12, s12, wt12⟩ := s11.step hq
            have hss12 : SS w.heap.size w12 (.slice a8 recs.length c8') recs := own_frm hss11 wt12.frm HX9.out.2.2.2.2
            have hout12 : ∀ g, (Value.slice a8 recs.length c8').ownBlock = some g → g ∉ F12 := fun g hg => wt12.out (HX9.out.2.2.2.2 g hg) (own_lt hss11 hg).2
            clear hq s11 hss11 wt12
            go_wp2_with fail
            refine (q7.out lb9 F12 _ s12.log s12.disk).mono ?_
            intro e w13 hq
            obtain ⟨rfl, F13, s13, wt13⟩ := s12.step hq
            have hss13 : SS w.heap.size w13 (.slice a8 recs.length c8') recs := own_frm hss12 wt13.frm hout12
            have hout13 : ∀ g, (Value.slice a8 recs.length c8').ownBlock = some g → g ∉ F13 := fun g hg => wt13.out (hout12 g hg) (own_lt hss12 hg).2
            clear hq s12 hss12 wt13 hout12
            go_wp2_with fail
            refine (q8.out F13 _ s13.disk).mono ?_
            intro e w14 hq
            obtain ⟨F14, lb14, v14, rfl, s14, wt14, hss14, hv14⟩ := s13.toDSt.opens hq
            obtain ⟨a14, c14, rfl, hrow14, _⟩ := SS_str hss14
            have hss14b : SS w.heap.size w14 (.slice a8 recs.length c8') recs := own_frm hss13 wt14.frm hout13
            obtain ⟨v15, w15, g15, c15, w16, hrun1, hrun2, hF16, hss16⟩ := run_more hss14b (by omega) s14.frm.size [109, 111, 114, 101]
            obtain ⟨a16, c16, he16, hrow16, _⟩ := SS_str hss16
            injection he16 with he1 he2 he3
            subst he1
            have HX14 := Lib.hid (And.intro hrow14 (And.intro hF16 (And.intro hrow16 s14.frm)))
            clear hq s13 hss13 wt14 hout13 hss14 hss14b hv14 hrow14 hF16 hss16 hrow16 he2 he3 s14
            go_wp2_with fail
            (with_reducible refine (Same_yesN _ _ _ _ (recs.length + 1) (recs ++ [[109, 111, 114, 101]]) _ (by simp) (HX14.out.1.frm HX14.out.2.1) HX14.out.2.2.1 (by omega)).mono ?_)
            rintro e w17 ⟨rfl, hF17⟩
            go_wp2_with fail
            refine (wakes05_any _).mono ?_
            rintro e w18 ⟨rfl, hF18⟩
            go_wp2_with fail
            go_ret
            exact ⟨by simp, HX14.out.2.2.2.trans (HX14.out.2.1.trans (hF17.trans hF18))⟩
          · have hse1 : sure < l.length := by omega
            clear hse
            have t5 : ((sure : Int) == (l.length : Int)) = false := int_ne (by omega)
            obtain ⟨Dy, hDy⟩ : ∃ Dy, Dy = D := ⟨_, rfl⟩
            obtain ⟨F2, hF2⟩ : ∃ F2, F2 = F := ⟨_, rfl⟩
            have s2 : LSt w wr b lb Dy F2 := by rw [hDy, hF2]; exact st
            have hs2 : LogSt Dy 1 l s := by rw [hDy]; exact hst
            have hs5 : Dy.dead = false := by rw [hDy]; exact hd
            have hgy : DGood Dy := by rw [hDy]; exact hg
            have hroom6 : 1000 ≤ Dy.room := by rw [hDy]; exact hroom5
            have hss2 : sure ≤ s := hss (by omega)
            clear hDy hF2 st hst hd hg hroom5 hss
            go_wp2_with fail
            have hde := Dead_any b Dy F2 _ s2.disk
            rw [hs5] at hde
            refine hde.mono ?_
            rintro e w6 ⟨rfl, rfl⟩
            clear hde
            have hcr : crashD Dy keep = (0, crashed Dy keep) := by unfold crashD; rw [if_neg (by simp [hs5])]
            have q9 := Lib.hid fun W hW => hcr ▸ Crash_any b Dy F2 keep W hW hgy.names hgy.num hgy.mass hgy.syn hk2
            obtain ⟨n, pp, hn1, hn2, hT⟩ := hs2.crash keep
            have hgz : DGood (crashed Dy keep) := hgy.crashed keep
            have hroom7 : 1000 ≤ (crashed Dy keep).room := by show 1000 ≤ Dy.room + _; omega
            clear hcr hgy hs2 hs5 hroom6
            go_wp2_with fail
            refine (q9.out _ s2.disk).mono ?_
            intro e w6 hq
            obtain ⟨rfl, F6, s6, _⟩ := s2.step hq
            clear hq s2
            go_wp2_with fail
            refine (Start_st w _ b lb _ F6 s6).mono ?_
            rintro e w7 ⟨rfl, F7, s7⟩
            obtain ⟨DZ, hDZ⟩ : ∃ DZ, DZ = crashed Dy keep := ⟨_, rfl⟩
            have hfz7 : DZ.fuse = -1 := by rw [hDZ]; rfl
            rw [← hDZ] at hT hgz hroom7 s7
            obtain ⟨D4, D5, D6, D7, D8, k1, k2, k3, k4, k5, kd4, kd7, kn, g4, g5, g6, g7⟩ := lasts_tail (D := startD DZ) (recs := l.take n) (s := s) (p := pp) (by
              rcases hT with ⟨h1, h2, _, _⟩ | h
              · exact .inl ⟨h1, by rw [h2, List.take_nil]⟩
              · exact .inr (h.of rfl)) rfl hfz7 hroom7 (by rw [List.length_take]; omega) hgz.start
            obtain ⟨recs, hrecs⟩ : ∃ recs, recs = l.take n := ⟨_, rfl⟩
            have hrl : recs.length = n := by rw [hrecs, List.length_take]; omega
            rw [← hrecs] at k1 k2 k5
            have hrl1 : sure ≤ recs.length := by omega
            have hrl2 : recs.length ≤ l.length := by omega
            clear hroom7 s6 hrl hDZ hT hfz7
            have hrow0 : StrRow w (a0) recs := by rw [hrecs]; exact HROW.out.take _
            have q4 := Lib.hid fun F W hW => k1 ▸ Open_any b (startD DZ) F W hW hgz.start rfl
            have q5 := Lib.hid fun F W hW => k2 ▸ Open_any b D4 F W hW g4 kd4
            have q6 := Lib.hid fun lb F W hl nl hW => k3 ▸ LogAdd_any lb b [109, 111, 114, 101] D5 F W hl nl hW g5 (by simp) kn
            have q7 := Lib.hid fun lb F W hl hW => k4 ▸ LogSync_any lb b D6 F W hl hW g6
            have q8 := Lib.hid fun F W hW => k5 ▸ Open_any b D7 F W hW g7 kd7
            have HR0 := Lib.hid hrow0
            clear k1 k2 k3 k4 k5 kd4 kd7 kn g4 g5 g6 g7 hrow0 hgz hrecs
            go_wp2_with fail
            refine (q4.out F7 _ s7.disk).mono ?_
            intro e w8 hq
            obtain ⟨F8, lb8, v8, rfl, s8, _, hss8, hv8⟩ := s7.toDSt.opens hq
            obtain ⟨a8, c8', rfl, hrow8, hb8⟩ := SS_str hss8
            clear hq s7
            go_wp2_with fail
            refine (q5.out F8 _ s8.disk).mono ?_
            intro e w9 hq
            obtain ⟨F9, lb9, v9, rfl, s9, wt9, hss9, hv9⟩ := s8.toDSt.opens hq
            obtain ⟨a9, c9, rfl, hrow9, hb9⟩ := SS_str hss9
            have hss8b : SS w.heap.size w9 (.slice a8 recs.length c8') recs := own_frm hss8 wt9.frm hv8
            have hrow8b := hrow8.frm' wt9.frm (fun g o hg => hv8 g (hb8 g o hg))
            have hout8 : ∀ g, (Value.slice a8 recs.length c8').ownBlock = some g → g ∉ F9 := fun g hg => wt9.out (hv8 g hg) (own_lt hss8 hg).2
            have hrow0b := HR0.out.frm s9.frm
            have HX9 := Lib.hid (And.intro hss8b (And.intro hrow8b (And.intro hrow9 (And.intro hrow0b hout8))))
            clear hq hss8 hrow8 wt9 s8 hss9 hv9 hb9 hb8 hv8 hss8b hrow8b hrow9 hrow0b hout8
            go_wp2_with fail
            refine (Same_yes _ _ _ _ recs _ HX9.out.2.1 HX9.out.2.2.2.1 (by omega)).mono ?_
            rintro e w10 ⟨rfl, hF10⟩
            go_wp2_with fail
            refine (Same_yes _ _ _ _ recs _ (HX9.out.2.2.1.frm hF10) (HX9.out.2.1.frm hF10) (by omega)).mono ?_
            rintro e w11 ⟨rfl, hF11⟩
            have s11 := s9.frm0 (hF10.trans hF11)
            have hss11 : SS w.heap.size w11 (.slice a8 recs.length c8') recs := own_frm HX9.out.1 (hF10.trans hF11) (fun _ _ h => by cases h)
            clear s9
            go_wp2_with fail
            refine (q6.out lb9 F9 _ s11.log s11.out s11.disk).mono ?_
            intro e w12 hq
            obtain ⟨rfl, F12, s12, wt12⟩ := s11.step hq
            have hss12 : SS w.heap.size w12 (.slice a8 recs.length c8') recs := own_frm hss11 wt12.frm HX9.out.2.2.2.2
            have hout12 : ∀ g, (Value.slice a8 recs.length c8').ownBlock = some g → g ∉ F12 := fun g hg => wt12.out (HX9.out.2.2.2.2 g hg) (own_lt hss11 hg).2
            clear hq s11 hss11 wt12
            go_wp2_with fail
            refine (q7.out lb9 F12 _ s12.log s12.disk).mono ?_
            intro e w13 hq
            obtain ⟨rfl, F13, s13, wt13⟩ := s12.step hq
            have hss13 : SS w.heap.size w13 (.slice a8 recs.length c8') recs := own_frm hss12 wt13.frm hout12
            have hout13 : ∀ g, (Value.slice a8 recs.length c8').ownBlock = some g → g ∉ F13 := fun g hg => wt13.out (hout12 g hg) (own_lt hss12 hg).2
            clear hq s12 hss12 wt13 hout12
            go_wp2_with fail
            refine (q8.out F13 _ s13.disk).mono ?_
            intro e w14 hq
            obtain ⟨F14, lb14, v14, rfl, s14, wt14, hss14, hv14⟩ := s13.toDSt.opens hq
            obtain ⟨a14, c14, rfl, hrow14, _⟩ := SS_str hss14
            have hss14b : SS w.heap.size w14 (.slice a8 recs.length c8') recs := own_frm hss13 wt14.frm hout13
            obtain ⟨v15, w15, g15, c15, w16, hrun1, hrun2, hF16, hss16⟩ := run_more hss14b (by omega) s14.frm.size [109, 111, 114, 101]
            obtain ⟨a16, c16, he16, hrow16, _⟩ := SS_str hss16
            injection he16 with he1 he2 he3
            subst he1
            have HX14 := Lib.hid (And.intro hrow14 (And.intro hF16 (And.intro hrow16 s14.frm)))
            clear hq s13 hss13 wt14 hout13 hss14 hss14b hv14 hrow14 hF16 hss16 hrow16 he2 he3 s14
            go_wp2_with fail
            (with_reducible refine (Same_yesN _ _ _ _ (recs.length + 1) (recs ++ [[109, 111, 114, 101]]) _ (by simp) (HX14.out.1.frm HX14.out.2.1) HX14.out.2.2.1 (by omega)).mono ?_)
            rintro e w17 ⟨rfl, hF17⟩
            go_wp2_with fail
            refine (wakes05_any _).mono ?_
            rintro e w18 ⟨rfl, hF18⟩
            go_wp2_with fail
            go_ret
            exact ⟨by simp, HX14.out.2.2.2.trans (HX14.out.2.1.trans (hF17.trans hF18))⟩
end Go.Proofs.YtlopfabbjilpnaaGreatDoor
