/- 'palaverlaw05.LogNil': whatever the text, the law answers true, and the text reads as it did. -/
import Derived.Test.YtlopfabbjilpnaaGreatDoorLogW
import Derived.Test.YtlopfabbjilpnaaGreatDoorDoor
import Derived.Test.YtlopfabbjilpnaaGreatDoorCards
set_option linter.unusedSimpArgs false
set_option linter.unusedVariables false
namespace Go.Proofs.YtlopfabbjilpnaaGreatDoor
open Go.ChangeShapes Go.WideShapes Go.ChangeAt Go.WideMaps Go.WideElems Go.RowKit Go.ChangeMaps

set_option maxRecDepth 100000 in
set_option maxHeartbeats 4000000 in
theorem logNil_walk (s : Bytes) (w : World) : Calls Tryz.prog 4 #[sv s] w fun e w' => e = .returned (.bool true) ∧ Frm [] w w' := by
  go_enter Tryz.func4, Tryz.ntmps4
  go_wp2_with (first
    | (go_at_call 20; refine (LogOpen_nil _).mono ?_; rintro e w1 ⟨rfl, hF1⟩)
    | (go_at_call 21; refine (LogAdd_nil s _).mono ?_; rintro e w2 ⟨rfl, hF2⟩)
    | (go_at_call 22; refine (LogSync_nil _).mono ?_; rintro e w3 ⟨rfl, hF3⟩)
    | (go_at_call 23; refine (LogRenew_nil _ _ _ _).mono ?_; rintro e w4 ⟨rfl, hF4⟩)
    | (go_at_call 24; refine (LogSegments_nil _).mono ?_; rintro e w5 ⟨rfl, hF5⟩)
    | (go_at_call 25; refine (wakes05_any _).mono ?_; rintro e w6 ⟨rfl, hF6⟩))
  go_ret
  exact ⟨by simp, (((hF1.trans hF2).trans hF3).trans (Frm.trans (by (repeat (first | (with_reducible exact Frm.refl _ _) | assumption | (with_reducible refine Frm.alloc ?_ _) | ((with_reducible refine Frm.setCell ?_ ?_ _); rotate_left; (first | (focus (left; simp; done)) | (focus (right; simp; done)) | (focus (right; simp; omega)))) | ((with_reducible refine Frm.put ?_ _ ?_); rotate_left; (first | (focus (left; simp; done)) | (focus (right; simp; done)) | (focus (right; simp; omega)))) | (with_reducible refine Frm.drew ?_) | (with_reducible refine Frm.drewN ?_ _)))) hF4)).trans (hF5.trans hF6)⟩

namespace LogNilN
set_option maxRecDepth 100000 in
theorem lifted (os : Os) (started : os.Started) (H : Type) (enc : TypeId × Value → H) :
    ReturnsInHanded {} Tryz.checked os 4 .any (fun w args => (Rows.logNilSpec.pre enc Tryz.prog Tryz.f4 [] false w args ∧ laidMetH Tryz.prog laid5 w) ∧ sizedMet enc Tryz.prog Tryz.f4 (OpenSpec.ofChange Rows.logNilSpec) false w args)
      (Rows.logNilSpec.post enc Tryz.prog Tryz.f4 false true false false) := by
  refine returnsInHanded_of_change_and (C := Tryz.checked) (X := fun w _ => laidMetH Tryz.prog laid5 w) (fun _ _ _ hh h => h.of_heap hh) own started (by kernel_rfl) Tryz.func4
    (ChangeSpec.witness_shaped (enc := enc) (C := Tryz.checked) (os := os) (X := fun w _ => laidMetH Tryz.prog laid5 w) false (World.doorLaid Tryz.prog 62 os) #[.string ByteArray.empty] 8 rfl (World.shaped_of_RefB (by kernel_rfl) (by kernel_rfl)) (by kernel_rfl) (by kernel_rfl) (by kernel_rfl) (door_met os _)) ?_
  intro W base args ds gs before hval0 hW _ _ hL _
  have hval : ∀ (j : Nat) t v, Tryz.f4.params[j]? = some t → args[j]? = some v → Value.okWide Tryz.prog W .any base t v := hval0
  have hW' := hW
  obtain ⟨p, q, hA0, hV, rfl, hfz, hnd⟩ := hW
  have hA : DataW.TrodAll enc Tryz.prog W 0 (fun _ => true) true Tryz.f4.params.toList args.toList ds p := hA0
  rw [Tryz.params4] at hA hval
  obtain ⟨v0, d0, rfl, rfl, h0⟩ := trodAll_one hA
  obtain ⟨s, rfl, rfl, rfl, hs⟩ := open_string Tryz.underlying9 (hval 0 9 v0 rfl rfl) h0
  obtain ⟨l, rfl⟩ := ba_surj s
  refine (logNil_walk l W).mono fun e W' ⟨he, hw⟩ => ?_
  subst he
  exact ⟨_, rfl, law_post (by kernel_rfl) (by decide +kernel) hW' rfl rfl rfl Tryz.underlying4 hw⟩
theorem said : Rows.LogNilSaid :=
  OpenClaim.holds_of_wide 4 Tryz.f4 rfl rfl rfl rfl rfl rfl rfl ⟨rfl, rfl, rfl, rfl, rfl⟩ rfl rfl rfl rfl rfl (by kernel_rfl) Tryz.func4 (by kernel_rfl)
    (of_decide_eq_true (by kernel_rfl)) (by unfold Func.isWrapper; first | (rw [if_pos (by decide +kernel)]; kernel_rfl) | (rw [if_neg (by decide +kernel)]; exact ⟨rfl, rfl⟩))
    (fun os started H enc _ => lifted os started H enc)
theorem card : Rows.LogNilCardSaid :=
  Claim7.holds_tied_plain_at .later [] _ _ _ _ said (fun _ h => by cases h) (by kernel_rfl) (fun _ h => by cases h) logNil_row_tie rfl ⟨rfl, rfl⟩ (by kernel_rfl) rfl
    (fun f fn hf hfn => by
      obtain rfl : f = 4 := Option.some.inj ((show Tryz.prog.funcNamed "palaver/palaverlaw05.LogNil" = some 4 by kernel_rfl).symm.trans hf) |>.symm
      obtain rfl : fn = Tryz.f4 := (Option.some.inj (Tryz.func4.symm.trans hfn)).symm
      exact ⟨by kernel_rfl, fun j t ht => by
        rw [Tryz.params4] at ht
        have hm : t ∈ [9] := by simpa using Array.mem_of_getElem? ht
        have hall : ([9].all fun u => !Tryz.prog.wantsStandIn u) = true := by kernel_rfl
        exact (show Tryz.prog.wantsStandIn t = false by simpa using List.all_eq_true.1 hall t hm)⟩)
    (by kernel_rfl)
end LogNilN
theorem logNil_holds : Rows.LogNilCardSaid := LogNilN.card
#print axioms logNil_holds
end Go.Proofs.YtlopfabbjilpnaaGreatDoor
