/- Package disk: the files in the order of their names. -/
import Derived.Test.YtlopfabbjilpnaaGreatDoorDiskG
import Derived.Test.YtlopfabbjilpnaaGreatDoorRangeZ
import Derived.Test.YtlopfabbjilpnaaGreatDoorShelfM
set_option linter.unusedSimpArgs false
set_option linter.unusedVariables false
namespace Go.Proofs.YtlopfabbjilpnaaGreatDoor
open Go.RowKit Go.MapKept
open Go.WideElems (Fit rd rg)
open Go.WideShapes (sorted_perm)

theorem SS_cases {base : Nat} {w : World} {v : Value} {l : List Bytes} (h : SS base w v l) :
    (l = [] ∧ ∃ a c, v = .slice a 0 c) ∨ ∃ g cap cur, v = .slice (some ⟨g, 0, none⟩) l.length cap ∧ base ≤ g ∧ w.heap[g]? = some (.cells cur 9 (0, 0)) ∧ ∀ (i : Nat) (x : Bytes), l[i]? = some x → cur[i]? = some (sv x) := by
  rcases h.2 with ⟨rfl, h0⟩ | ⟨g, cap, cur, rfl, h1, h2, h3, h4, h5, h6⟩
  · exact .inl ⟨List.eq_nil_of_length_eq_zero h0, _, _, rfl⟩
  · refine .inr ⟨g, cap, cur, rfl, h1, h2, fun i x hx => ?_⟩
    have hi : i < l.length := (List.getElem?_eq_some_iff.1 hx).1
    have h7 : (l.map sv)[i]? = some (sv x) := by rw [List.getElem?_map, hx]; rfl
    rw [← h6, List.getElem?_take_of_lt (by omega), Array.getElem?_toList] at h7
    exact h7

theorem map_inj {α β : Type} {f : α → β} (hf : ∀ a b, f a = f b → a = b) : ∀ {l m : List α}, l.map f = m.map f → l = m
  | [], [], _ => rfl
  | a :: l, b :: m, h => by
    simp only [List.map_cons, List.cons.injEq] at h
    rw [hf _ _ h.1, map_inj hf h.2]
/-- A map with such entries is one of the shelf's. -/
theorem ents_owns {w : World} {m : Nat} {es : Array MapEntry} {clk : Nat} {L : List (Bytes × Value)} (hm : w.heap[m]? = some (.map es clk)) (hE : Ents sv es clk L) (hk : ∀ x ∈ L, x.1.length ≤ 24) (hn : L.length ≤ 1000) :
    ∃ D0 : DataW Unit, w.ownsMap Tryz.prog 9 (fun _ => some (.nil, [])) m 1000 D0 ∧ (strKeys D0).Perm (L.map (·.1)) ∧ Maps.size D0 = L.length := by
  have hrd : ∀ e ∈ es.toList, ∃ x ∈ L, rd (H := Unit) Tryz.prog 9 (fun _ => some (.nil, [])) e = some (.string x.1, .nil) ∧ e.key = sv x.1 := by
    intro e he
    obtain ⟨j, hj⟩ := List.mem_iff_getElem?.1 he
    obtain ⟨x, hx, hxk, _⟩ := hE.at hj
    have hxl : x ∈ L := List.mem_iff_getElem?.2 ⟨j, hx⟩
    refine ⟨x, hxl, ?_, hxk⟩
    have h24 := hk x hxl
    have : keyOf Tryz.prog 9 (sv x.1) = some (.string x.1) := by
      simp [keyOf, Tryz.underlying9, mapKey, sv, maxLen]
      omega
    simp only [rd, hxk, this, Option.bind_some, Option.map_some]
  have hF : Fit (H := Unit) Tryz.prog 9 (fun _ => some (.nil, [])) es clk := ⟨by have := hE.size; unfold maxLen; omega, hE.stamped, fun e he => by obtain ⟨x, _, h, _⟩ := hrd e he; exact ⟨_, h⟩⟩
  have hkeys : es.toList.map (fun e => strOf (rg (H := Unit) Tryz.prog 9 (fun _ => some (.nil, [])) e).1) = L.map (·.1) := by
    have h1 : es.toList.map (fun e => encStr (strOf (rg (H := Unit) Tryz.prog 9 (fun _ => some (.nil, [])) e).1)) = es.toList.map (·.key) := by
      refine List.map_congr_left fun e he => ?_
      obtain ⟨x, _, h, hk⟩ := hrd e he
      rw [hk]
      simp only [rg, h, Option.getD_some, strOf, encStr, sv, ba_mk]
    rw [hE.keys] at h1
    have h2 : (es.toList.map (fun e => strOf (rg (H := Unit) Tryz.prog 9 (fun _ => some (.nil, [])) e).1)).map encStr = (L.map (·.1)).map encStr := by
      rw [List.map_map, List.map_map]
      refine h1.trans ?_
      refine List.map_congr_left fun x _ => ?_
      simp only [Function.comp_apply, encStr, sv, ba_mk]
    exact map_inj (fun a b h => encStr_inj h) h2
  refine ⟨_, ⟨es, clk, hm, hF, by rw [hE.size]; exact hn, rfl⟩, ?_, ?_⟩
  · rw [← hkeys]
    refine ((sorted_perm (es.toList.map _)).map fun p : Lit × DataW Unit => strOf p.1).trans ?_
    rw [List.map_map]
    simp only [Function.comp_def, List.Perm.refl]
  · rw [Maps.size_eq, (sorted_perm _).length_eq, List.length_map, Array.length_toList, hE.size]

theorem keys_any (m : Nat) (W : World) : Calls Tryz.prog 92 #[.map (some m)] W fun en w' =>
    en = .returned (.func (.func 125) #[] #[.pointer (some ⟨W.heap.size, 0, none⟩)]) ∧ w' = W.alloc (.cells #[.map (some m)] 83) :=
  (callsIn_wide (n := 5)).1 (Tryz.maps_Keys_92 (some m) W)

theorem sortedKeys_any (m : Nat) (es : Array MapEntry) (clk : Nat) (L : List (Bytes × Value)) (W : World) (hm : W.heap[m]? = some (.map es clk)) (hE : Ents sv es clk L) (hk : ∀ x ∈ L, x.1.length ≤ 24) (hn : L.length ≤ 1000) :
    Calls Tryz.prog 91 #[.func (.func 125) #[] #[.pointer (some ⟨W.heap.size, 0, none⟩)]] (W.alloc (.cells #[.map (some m)] 83)) fun en w' =>
      ∃ v, en = .returned v ∧ SS (W.heap.size + 1) w' v ((L.map (·.1)).mergeSort Go.leB) ∧ Frm [] (W.alloc (.cells #[.map (some m)] 83)) w' := by
  obtain ⟨D0, h1, h2, h3⟩ := ents_owns hm hE hk hn
  refine ((callsIn_wide (n := 5)).1 (Tryz.slices_Sorted_keys_91_92 m 1000 D0 _ W h1 (by rw [h3]; unfold maxLen; omega) (by rw [h3]; omega))).mono ?_
  rintro en w' ⟨v, ss, rfl, hp, hrow, _, hb⟩
  refine ⟨v, rfl, ?_, Frm.of_below hb⟩
  have e1 : ss.mergeSort Go.leB = (L.map (·.1)).mergeSort Go.leB := mergeSort_of_perm (hp.trans h2)
  have e2 : ss.length = ((L.map (·.1)).mergeSort Go.leB).length := by rw [List.length_mergeSort, (hp.trans h2).length_eq]
  unfold SS
  rw [← e1, List.length_mergeSort]
  have e3 : ((ss.mergeSort Go.leB).map sv) = (ss.mergeSort fun x y => decide (x ≤ y)).map encStr := List.map_congr_left fun x _ => by simp only [encStr, sv, ba_mk]
  rw [e3]
  simpa using hrow
end Go.Proofs.YtlopfabbjilpnaaGreatDoor
