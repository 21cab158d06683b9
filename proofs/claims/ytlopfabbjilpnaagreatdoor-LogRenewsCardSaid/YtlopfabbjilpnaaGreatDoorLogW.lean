/- The known world of the statements on logs. -/
import Derived.Test.YtlopfabbjilpnaaGreatDoorLogL
import Derived.Test.YtlopfabbjilpnaaGreatDoorLogS
set_option linter.unusedSimpArgs false
set_option linter.unusedVariables false
namespace Go.Proofs.YtlopfabbjilpnaaGreatDoor
open Go.RowKit

def wkName (c : UInt8) : Bytes := [115, 48, 48, 48, 48, 48, 48, 48, c]
theorem wk_ex : ∃ D1 D2 D3 D4 D5 : ADisk, (openD newD = (0, [], newD)) ∧ addD newD [97] = (0, D1) ∧ addD D1 [] = (6, D1) ∧ logSyncD D1 = (0, D2) ∧ appendD D2 [115, 48, 48, 48, 48, 48, 48, 48, 49] [5, 120] = (0, D3) ∧ D3.dead = false ∧ openD D3 = (0, [[97]], D4) ∧ renewD D4 [[98]] = (0, D5) ∧
    D5.files.map (fun f => (f.name, f.synced)) = [([115, 48, 48, 48, 48, 48, 48, 48, 50], 10)] ∧ nextSeg newD < 100 ∧ nextSeg D1 < 100 ∧ nextSeg D4 < 100 ∧ (segsF D5.files).length = 1 := by
  refine ⟨_, _, _, _, _, openD_none rfl rfl, Prod.ext (by decide +kernel) rfl, rfl, Prod.ext (by decide +kernel) rfl, Prod.ext (by decide +kernel) rfl, by decide +kernel, Prod.ext (by decide +kernel) (Prod.ext (by decide +kernel) rfl), Prod.ext (by decide +kernel) rfl, by decide +kernel, by decide +kernel, by decide +kernel, by decide +kernel, by decide +kernel⟩

theorem segName1 : segName 1 = [115, 48, 48, 48, 48, 48, 48, 48, 49] := by decide +kernel
theorem StrRow.one {w : World} {g : Nat} {x : Bytes} {T : TypeId} (h : w.heap[g]? = some (.cells #[sv x] T (0, 0))) : StrRow w (some ⟨g, 0, none⟩) [x] := fun i y hy => by
  match i, hy with
  | 0, hy => simp at hy; subst hy; exact ⟨g, 0, _, T, _, rfl, h, rfl⟩
set_option maxRecDepth 100000 in
set_option maxHeartbeats 4000000 in
theorem wakes05_any (w : World) : Calls Tryz.prog 25 #[] w fun e w' => e = .returned (.bool true) ∧ Frm [] w w' := by
  obtain ⟨D1, D2, D3, D4, D5, h0, h1, h1b, h2, h3, hd3, h4, h5, hf5, hn0, hn1, hn4, hs5⟩ := wk_ex
  have g0 := newD_good
  have g1 : DGood D1 := by have := g0.add [97] hn0; rwa [h1] at this
  have g2 : DGood D2 := by have := g1.logSync; rwa [h2] at this
  have g3 : DGood D3 := by have := g2.append [115, 48, 48, 48, 48, 48, 48, 48, 49] [5, 120] (segName1 ▸ segName_seg 1 (by decide) (by decide)); rwa [h3] at this
  have g4 : DGood D4 := by have := g3.open; rwa [h4] at this
  have g5 : DGood D5 := by have := g4.renew [[98]] hn4; rwa [h5] at this
  have c0 := Lib.hid fun b F W hW => h0 ▸ Open_any b newD F W hW g0 rfl
  have c1 := Lib.hid fun lb b F W hl nl hW => h1 ▸ LogAdd_any lb b [97] newD F W hl nl hW g0 (by simp) hn0
  have c1b := Lib.hid fun lb b F W hl nl hW => h1b ▸ LogAdd_any lb b [] D1 F W hl nl hW g1 (by simp) hn1
  have c2 := Lib.hid fun lb b F W hl hW => h2 ▸ LogSync_any lb b D1 F W hl hW g1
  have c3 := Lib.hid fun b F W hW => h3 ▸ Append_any b D2 F [115, 48, 48, 48, 48, 48, 48, 48, 49] [5, 120] W hW g2.ok (by simp) (by simp) (by have := g2.num; omega)
  have c4 := Lib.hid fun b F W hW => h4 ▸ Open_any b D3 F W hW g3 hd3
  have c5 := Lib.hid fun lb b a c F W hl nl hW hr => h5 ▸ LogRenew_any lb b a c [[98]] D4 F W hl nl hW g4 hr (by simp) (by simp) hn4
  have c6 := Lib.hid fun b F W hW => Files_any b D5 F W hW g5.names g5.num
  have c7 := Lib.hid fun lb b F W hl hW => hs5 ▸ LogSegments_any lb b D5 F W hl hW g5
  have HF := Lib.hid hf5
  clear h0 h1 h1b h2 h3 hd3 h4 h5 hf5 hn0 hn1 hn4 hs5 g0 g1 g2 g3 g4 g5
  go_enter Tryz.func25, Tryz.ntmps25
  go_wp2_with fail
  refine (New_st _).mono ?_
  rintro e w1 ⟨b, F0, rfl, s0⟩
  go_wp2_with fail
  refine (c0.out b F0 _ s0.disk).mono ?_
  intro e w2 hq
  obtain ⟨F1, lb, v, rfl, s1, w1t, hss, hvF⟩ := s0.opens hq
  obtain ⟨a, c, rfl, _⟩ := SS_get hss
  clear hq hss hvF
  go_wp2_with fail
  refine (c1.out lb b F1 _ s1.log s1.out s1.disk).mono ?_
  intro e w3 hq
  obtain ⟨rfl, F2, s2, w2t⟩ := s1.step hq
  clear hq
  go_wp2_with fail
  have c1c := c1b.out lb b F2 w3 s2.log s2.out s2.disk
  refine (c1c).mono ?_
  intro e w4 hq
  obtain ⟨rfl, F3, s3, w3t⟩ := s2.step hq
  clear hq c1c
  go_wp2_with fail
  refine (c2.out lb b F3 _ s3.log s3.disk).mono ?_
  intro e w5 hq
  obtain ⟨rfl, F4, s4, w4t⟩ := s3.step hq
  clear hq
  go_wp2_with fail
  refine (c3.out b F4 _ s4.disk).mono ?_
  intro e w6 hq
  obtain ⟨rfl, F5, s5, w5t⟩ := s4.step hq
  clear hq
  go_wp2_with fail
  refine (c4.out b F5 _ s5.disk).mono ?_
  intro e w7 hq
  obtain ⟨F6, lb2, v2, rfl, s6, w6t, hss, hvF⟩ := s5.toDSt.opens hq
  obtain ⟨a2, n2, rfl, hrow⟩ := SS_get hss
  obtain ⟨g2, cur2, rfl, hg2, hgc, hgv⟩ := hrow 0 [97] rfl
  have hvF2 := hvF g2 rfl
  have hlg := w6t.blk s5.log s5.out
  clear hq hss hrow hvF
  go_wp2_with fail
  have hfa : Frm [] w7 (w7.alloc (.cells #[sv [98]] 9)) := (Frm.refl _ _).alloc _
  have s7 := s6.toDSt.frm0 hfa
  have hg7 := hfa.blk hgc (by simp)
  refine (c5.out lb b (some ⟨w7.heap.size, 0, none⟩) 1 F6 _ (hfa.blk hlg.1 (by simp)) hlg.2 s7.disk (StrRow.one (heap_alloc_new _ _))).mono ?_
  intro e w8 hq
  obtain ⟨rfl, F7, s8, w8t⟩ := s7.step hq
  have hg8 := w8t.blk hg7 hvF2
  have hl8 := w8t.blk (hfa.blk hlg.1 (by simp)) hlg.2
  clear hq
  go_wp2_with fail
  refine (c6.out b F7 _ s8.disk).mono ?_
  rintro e w9 ⟨v9, rfl, hfs, hF9⟩
  obtain ⟨f9, hf9⟩ : ∃ f, D5.files = [f] := by
    have := congrArg List.length HF.out
    rw [List.length_map] at this
    exact List.length_eq_one_iff.1 (by simpa using this)
  have hfn : f9.name = [115, 48, 48, 48, 48, 48, 48, 48, 50] ∧ f9.synced = 10 := by
    have := HF.out
    rw [hf9] at this
    simpa using this
  rw [hf9] at hfs
  obtain ⟨a9, n9, rfl, hrow9⟩ := FS_row hfs
  obtain ⟨g9, cur9, rfl, _, hg9, e1, e2, e3⟩ := hrow9 0 f9 rfl
  rw [hfn.1] at e1
  rw [hfn.2] at e3
  have hg9b := hF9.blk hg8.1 (by simp)
  have hl9 := hF9.blk hl8.1 (by simp)
  have hd9 := s8.disk.frm0 hF9
  have hw9 : Frm [] w w9 := s8.frm.trans hF9
  clear hfs hrow9 hfn
  have HC7 := Lib.hid (c7.out lb b F7 w9 hl9 hd9)
  go_wp2_with (go_at_call 24; refine HC7.out.mono ?_; rintro e w10 ⟨rfl, hF10⟩)
  go_ret
  exact ⟨by simp, hw9.trans hF10⟩
end Go.Proofs.YtlopfabbjilpnaaGreatDoor
