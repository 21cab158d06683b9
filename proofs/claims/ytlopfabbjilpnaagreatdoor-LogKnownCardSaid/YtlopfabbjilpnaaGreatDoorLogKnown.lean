/- 'palaverlaw05.LogKnown': the law answers true. -/
import Derived.Test.YtlopfabbjilpnaaGreatDoorLogKnownP
import Derived.Laws.OwnMore
set_option linter.unusedSimpArgs false
set_option linter.unusedVariables false
namespace Go.Proofs.YtlopfabbjilpnaaGreatDoor
open Go.ChangeShapes Go.WideShapes Go.ChangeAt Go.WideMaps Go.WideElems Go.RowKit Go.ChangeMaps

theorem big_len : big.length = 1024 := List.length_replicate
theorem madeBig : (madeCells #[.int .u8 0] 1024).toList.take 1024 = big.map u8 ∧ (madeCells #[.int .u8 0] 1024).size = 1024 := by
  constructor
  · rw [toList_madeCells_one, List.take_of_length_le (by rw [List.length_replicate]; exact Nat.le_refl _)]
    unfold big; rw [List.map_replicate]; rfl
  · exact size_madeCells _ _
theorem SB_big (w : World) : SB w.heap.size (w.alloc (.cells (madeCells #[.int .u8 0] 1024) 5)) (.slice (some ⟨w.heap.size, 0, none⟩) 1024 1024) big :=
  ⟨by rw [List.length_map, Nat.mul_one], .inr ⟨w.heap.size, 1024, _, by rw [big_len], Nat.le_refl _, heap_alloc_new _ _, by rw [big_len]; exact Nat.le_refl _, by unfold maxLen; omega, by rw [madeBig.2], by rw [big_len]; exact madeBig.1⟩⟩
set_option maxRecDepth 100000 in
set_option maxHeartbeats 8000000 in
theorem logKnown_walk (w : World) : Calls Tryz.prog 5 #[] w fun e w' => e = .returned (.bool true) ∧ Frm [] w w' := by
  obtain ⟨D1, D2, D3, D4, D5, D6, D7, D8, D9, D10, D11, D12, D13, D14, D15, D16, D17, D18, ⟨h1, h1n⟩, ⟨h2, h2n⟩, ⟨h3, h3n⟩, h4, h5, h6, h7, h8, ⟨h9, h9n⟩, h10, ⟨h11, h11n⟩, h12, ⟨h13, h13n⟩, h14, h15, ⟨h16, h16n⟩, h17, ⟨h18, h18n⟩, hf3, hs3⟩ := kn_ex
  have g0 := newD_good
  have g1 : DGood D1 := by have := g0.add big h1n; rwa [h1] at this
  have g2 : DGood D2 := by have := g1.add big h2n; rwa [h2] at this
  have g3 : DGood D3 := by have := g2.add big h3n; rwa [h3] at this
  have g4 : DGood D4 := by have := g3.logSync; rwa [h4] at this
  have g5 : DGood D5 := by have := g4.append [116, 48, 48, 48, 48, 48, 48, 48, 49] [106, 117, 110, 107] (seg_dec (by decide +kernel)); rwa [h5] at this
  have g6 : DGood D6 := by have := g5.append [115, 49] [106, 117, 110, 107] (seg_dec (by decide +kernel)); rwa [h6] at this
  have g7 : DGood D7 := by have := g6.append [115, 48, 48, 48, 48, 48, 48, 48, 48, 52] [106, 117, 110, 107] (seg_dec (by decide +kernel)); rwa [h7] at this
  have g8 : DGood D8 := by have := g7.append [115, 48, 48, 48, 48, 48, 48, 48, 48] [106, 117, 110, 107] (seg_dec (by decide +kernel)); rwa [h8] at this
  have g9 : DGood D9 := by have := g8.open; rwa [h9] at this
  have g10 : DGood D10 := by have := g9.append [115, 48, 48, 48, 48, 48, 48, 48, 52] [7] (seg_dec (by decide +kernel)); rwa [h10] at this
  have g11 : DGood D11 := by have := g10.open; rwa [h11] at this
  have g12 : DGood D12 := by have := g11.append [115, 48, 48, 48, 48, 48, 48, 48, 54] [] (seg_dec (by decide +kernel)); rwa [h12] at this
  have g13 : DGood D13 := by have := g12.open; rwa [h13] at this
  have g14 : DGood D14 := by have := g13.remove [115, 48, 48, 48, 48, 48, 48, 48, 54]; rwa [h14] at this
  have g15 : DGood D15 := by have := g14.append [115, 48, 48, 48, 48, 48, 48, 48, 53] [] (seg_dec (by decide +kernel)); rwa [h15] at this
  have g16 : DGood D16 := by have := g15.open; rwa [h16] at this
  have g17 : DGood D17 := by have := g16.append [115, 48, 48, 48, 48, 48, 48, 48, 52] [120] (seg_dec (by decide +kernel)); rwa [h17] at this
  have g18 : DGood D18 := by have := g17.open; rwa [h18] at this
  have c0 := Lib.hid fun b F W hW => openD_none (D := newD) rfl rfl ▸ Open_any b newD F W hW g0 rfl
  have c1 := Lib.hid fun lb b F W hl nl hW => h1 ▸ LogAdd_any lb b big newD F W hl nl hW g0 (by decide) h1n
  have c2 := Lib.hid fun lb b F W hl nl hW => h2 ▸ LogAdd_any lb b big D1 F W hl nl hW g1 (by decide) h2n
  have c3 := Lib.hid fun lb b F W hl nl hW => h3 ▸ LogAdd_any lb b big D2 F W hl nl hW g2 (by decide) h3n
  have c4 := Lib.hid fun lb b F W hl hW => h4 ▸ LogSync_any lb b D3 F W hl hW g3
  have c5 := Lib.hid fun b F W hW => h5 ▸ Append_any b D4 F [116, 48, 48, 48, 48, 48, 48, 48, 49] [106, 117, 110, 107] W hW g4.ok (by simp) (by simp) (by have := g4.num; omega)
  have c6 := Lib.hid fun b F W hW => h6 ▸ Append_any b D5 F [115, 49] [106, 117, 110, 107] W hW g5.ok (by simp) (by simp) (by have := g5.num; omega)
  have c7 := Lib.hid fun b F W hW => h7 ▸ Append_any b D6 F [115, 48, 48, 48, 48, 48, 48, 48, 48, 52] [106, 117, 110, 107] W hW g6.ok (by simp) (by simp) (by have := g6.num; omega)
  have c8 := Lib.hid fun b F W hW => h8 ▸ Append_any b D7 F [115, 48, 48, 48, 48, 48, 48, 48, 48] [106, 117, 110, 107] W hW g7.ok (by simp) (by simp) (by have := g7.num; omega)
  have c9 := Lib.hid fun b F W hW => h9 ▸ Open_any b D8 F W hW g8 h9n
  have c10 := Lib.hid fun b F W hW => h10 ▸ Append_any b D9 F [115, 48, 48, 48, 48, 48, 48, 48, 52] [7] W hW g9.ok (by simp) (by simp) (by have := g9.num; omega)
  have c11 := Lib.hid fun b F W hW => h11 ▸ Open_any b D10 F W hW g10 h11n
  have c12 := Lib.hid fun b F W hW => h12 ▸ Append_any b D11 F [115, 48, 48, 48, 48, 48, 48, 48, 54] [] W hW g11.ok (by simp) (by simp) (by have := g11.num; omega)
  have c13 := Lib.hid fun b F W hW => h13 ▸ Open_any b D12 F W hW g12 h13n
  have c14 := Lib.hid fun b F W hW => h14 ▸ Remove_any b D13 F [115, 48, 48, 48, 48, 48, 48, 48, 54] W hW g13.ok
  have c15 := Lib.hid fun b F W hW => h15 ▸ Append_any b D14 F [115, 48, 48, 48, 48, 48, 48, 48, 53] [] W hW g14.ok (by simp) (by simp) (by have := g14.num; omega)
  have c16 := Lib.hid fun b F W hW => h16 ▸ Open_any b D15 F W hW g15 h16n
  have c17 := Lib.hid fun b F W hW => h17 ▸ Append_any b D16 F [115, 48, 48, 48, 48, 48, 48, 48, 52] [120] W hW g16.ok (by simp) (by simp) (by have := g16.num; omega)
  have c18 := Lib.hid fun b F W hW => h18 ▸ Open_any b D17 F W hW g17 h18n
  have c3f := Lib.hid fun b F W hW => Files_any b D3 F W hW g3.names g3.num
  have c3s := Lib.hid fun lb b F W hl hW => hs3 ▸ LogSegments_any lb b D3 F W hl hW g3
  have HF := Lib.hid hf3
  clear h1  h1n h2  h2n h3  h3n h4 h5 h6 h7 h8 h9  h9n h10 h11  h11n h12 h13  h13n h14 h15 h16  h16n h17 h18  h18n hf3 hs3 g0 g1 g2 g3 g4 g5 g6 g7 g8 g9 g10 g11 g12 g13 g14 g15 g16 g17 g18
  have hmk : ∀ W : World, (Instr.makeSlice 49 (.int .i64 1024) (.int .i64 1024)).run Tryz.prog W = .ok (.slice (some ⟨W.heap.size, 0, none⟩) 1024 1024) (W.alloc (.cells (madeCells #[.int .u8 0] 1024) 5)) := fun W => by
    obtain ⟨i0, hi0, hz0, hs0, hb0⟩ := elB.hi
    have := run_make (P := Tryz.prog) W 49 5 i0 (.int .u8 0) elB.ht hi0 hz0 .i64 .i64 1024 1024 (by omega) (by omega) (by rw [hb0]; omega) (by omega)
    simpa [hs0, Value.cells] using this
  have hcv : ∀ W : World, (convert 49 9 (.slice (some ⟨W.heap.size, 0, none⟩) 1024 1024)).run Tryz.prog (W.alloc (.cells (madeCells #[.int .u8 0] 1024) 5)) = .ok (sv big) (W.alloc (.cells (madeCells #[.int .u8 0] 1024) 5)) := fun W => conv_SB _ (SB_big W)
  go_enter Tryz.func5, Tryz.ntmps5
  go_wp2_with fail
  refine (New_st _).mono ?_
  rintro e w1 ⟨b, F0, rfl, s0⟩
  go_wp2_with fail
  refine (c0.out b F0 _ s0.disk).mono ?_
  intro e w2 hq
  obtain ⟨F1, lb, v, rfl, s1, w1t, hss, hvF⟩ := s0.opens hq
  obtain ⟨a, c, rfl, _⟩ := SS_get hss
  clear hq hss hvF
  go_wp2_with fail
  have s1b := s1.frm0 (W' := _) ((Frm.refl [] w2).alloc (.cells (madeCells #[.int .u8 0] 1024) 5))
  clear s0 w1t
  go_loopw [6] (fun p wr => (∃ F, p = .int .i64 0 ∧ LSt w wr b lb newD F) ∨ (∃ F, p = .int .i64 1 ∧ LSt w wr b lb D1 F) ∨ (∃ F, p = .int .i64 2 ∧ LSt w wr b lb D2 F) ∨ (∃ F, p = .int .i64 3 ∧ LSt w wr b lb D3 F)) (fun p _ => 3 - (intOf p).toNat)
  case atStart => exact .inl ⟨F1, rfl, s1b⟩
  case round =>
    rcases hrel with ⟨F, rfl, st⟩ | ⟨F, rfl, st⟩ | ⟨F, rfl, st⟩ | ⟨F, rfl, s3⟩
    · go_wp2_with fail
      refine (c1.out lb b F wr st.log st.out st.disk).mono ?_
      intro e w3 hq
      obtain ⟨rfl, F', st', _⟩ := st.step hq
      clear hq st
      go_wp2_with fail
      go_roundw
      case rel => exact Or.inr (Or.inl ⟨F', rfl, st'⟩)
      case measure => simp [intOf]
    · go_wp2_with fail
      refine (c2.out lb b F wr st.log st.out st.disk).mono ?_
      intro e w3 hq
      obtain ⟨rfl, F', st', _⟩ := st.step hq
      clear hq st
      go_wp2_with fail
      go_roundw
      case rel => exact Or.inr (Or.inr (Or.inl ⟨F', rfl, st'⟩))
      case measure => simp [intOf]
    · go_wp2_with fail
      refine (c3.out lb b F wr st.log st.out st.disk).mono ?_
      intro e w3 hq
      obtain ⟨rfl, F', st', _⟩ := st.step hq
      clear hq st
      go_wp2_with fail
      go_roundw
      case rel => exact Or.inr (Or.inr (Or.inr ⟨F', rfl, st'⟩))
      case measure => simp [intOf]
    · go_wp2_with fail
      refine (c3f.out b F _ s3.disk).mono ?_
      rintro e w4 ⟨v9, rfl, hfs, hF9⟩
      obtain ⟨f1, f2, f3, hD3⟩ : ∃ f1 f2 f3, D3.files = [f1, f2, f3] := by
        have h := congrArg List.length HF.out
        rw [List.length_map] at h
        match hh : D3.files, h with
        | [f1, f2, f3], _ => exact ⟨f1, f2, f3, rfl⟩
      have hfn : f3.name = [115, 48, 48, 48, 48, 48, 48, 48, 51] ∧ f3.synced = 0 := by
        have h := HF.out
        rw [hD3] at h
        simp only [List.map_cons, List.map_nil, List.cons.injEq, Prod.mk.injEq] at h
        exact ⟨h.2.2.1.1, h.2.2.1.2⟩
      rw [hD3] at hfs
      obtain ⟨a9, n9, rfl, hrow9⟩ := FS_row hfs
      obtain ⟨g9, cur9, rfl, _, hg9, e1, e2, e3⟩ := hrow9 2 f3 rfl
      rw [hfn.1] at e1
      rw [hfn.2] at e3
      have s4 := s3.frm0 hF9
      clear hfs hrow9 hfn hD3 s3
      go_wp2_with fail
      refine (c3s.out lb b F w4 s4.log s4.disk).mono ?_
      rintro e w5 ⟨rfl, hF10⟩
      have s5 := s4.frm0 hF10
      clear s4
      go_wp2_with fail
      refine (c4.out lb b F _ s5.log s5.disk).mono ?_
      intro e w6 hq
      obtain ⟨rfl, Fa, t4, _⟩ := s5.step hq
      clear hq s5
      go_wp2_with fail
      refine (c5.out b Fa _ t4.disk).mono ?_
      intro e v5 hq
      obtain ⟨rfl, F5, t5, _⟩ := t4.step hq
      clear hq t4
      go_wp2_with fail
      refine (c6.out b F5 _ t5.disk).mono ?_
      intro e v6 hq
      obtain ⟨rfl, F6, t6, _⟩ := t5.step hq
      clear hq t5
      go_wp2_with fail
      refine (c7.out b F6 _ t6.disk).mono ?_
      intro e v7 hq
      obtain ⟨rfl, F7, t7, _⟩ := t6.step hq
      clear hq t6
      go_wp2_with fail
      refine (c8.out b F7 _ t7.disk).mono ?_
      intro e v8 hq
      obtain ⟨rfl, F8, t8, _⟩ := t7.step hq
      clear hq t7
      go_wp2_with fail
      refine (c9.out b F8 _ t8.disk).mono ?_
      intro e v9 hq
      obtain ⟨F9, lb9, r9, rfl, t9', wt9, hss, hvF⟩ := t8.toDSt.opens hq
      obtain ⟨a9, c9', rfl, _⟩ := SS_get hss
      have t9 : LSt w v9 b lb D9 F9 := t8.went t9'.disk wt9
      clear hq hss hvF t8 t9' wt9
      go_wp2_with fail
      refine (c10.out b F9 _ t9.disk).mono ?_
      intro e v10 hq
      obtain ⟨rfl, F10, t10, _⟩ := t9.step hq
      clear hq t9
      go_wp2_with fail
      refine (c11.out b F10 _ t10.disk).mono ?_
      intro e v11 hq
      obtain ⟨F11, lb11, r11, rfl, t11', wt11, hss, hvF⟩ := t10.toDSt.opens hq
      obtain ⟨a11, c11', rfl, _⟩ := SS_get hss
      have t11 : LSt w v11 b lb D11 F11 := t10.went t11'.disk wt11
      clear hq hss hvF t10 t11' wt11
      go_wp2_with fail
      refine (c12.out b F11 _ t11.disk).mono ?_
      intro e v12 hq
      obtain ⟨rfl, F12, t12, _⟩ := t11.step hq
      clear hq t11
      go_wp2_with fail
      refine (c13.out b F12 _ t12.disk).mono ?_
      intro e v13 hq
      obtain ⟨F13, rfl, t13', wt13⟩ := t12.toDSt.halts hq (by decide)
      have t13 : LSt w v13 b lb D13 F13 := t12.went t13'.disk wt13
      clear hq t12 t13' wt13
      go_wp2_with fail
      refine (c14.out b F13 _ t13.disk).mono ?_
      intro e v14 hq
      obtain ⟨rfl, F14, t14, _⟩ := t13.step hq
      clear hq t13
      go_wp2_with fail
      refine (c15.out b F14 _ t14.disk).mono ?_
      intro e v15 hq
      obtain ⟨rfl, F15, t15, _⟩ := t14.step hq
      clear hq t14
      go_wp2_with fail
      refine (c16.out b F15 _ t15.disk).mono ?_
      intro e v16 hq
      obtain ⟨F16, lb16, r16, rfl, t16', wt16, hss, hvF⟩ := t15.toDSt.opens hq
      obtain ⟨a16, c16', rfl, _⟩ := SS_get hss
      have t16 : LSt w v16 b lb D16 F16 := t15.went t16'.disk wt16
      clear hq hss hvF t15 t16' wt16
      go_wp2_with fail
      refine (c17.out b F16 _ t16.disk).mono ?_
      intro e v17 hq
      obtain ⟨rfl, F17, t17, _⟩ := t16.step hq
      clear hq t16
      go_wp2_with fail
      refine (c18.out b F17 _ t17.disk).mono ?_
      intro e v18 hq
      obtain ⟨F18, rfl, t18', wt18⟩ := t17.toDSt.halts hq (by decide)
      have t18 : LSt w v18 b lb D18 F18 := t17.went t18'.disk wt18
      clear hq t17 t18' wt18
      go_wp2_with fail
      refine (wakes05_any _).mono ?_
      rintro e v20 ⟨rfl, hF20⟩
      go_wp2_with fail
      go_ret
      exact ⟨by simp, t18.frm.trans hF20⟩
end Go.Proofs.YtlopfabbjilpnaaGreatDoor
