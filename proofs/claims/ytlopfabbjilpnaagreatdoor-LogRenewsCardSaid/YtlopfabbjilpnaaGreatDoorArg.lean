/- A slice of texts that came in, as a row of texts. -/
import Derived.Test.YtlopfabbjilpnaaGreatDoorDoor
import Derived.Test.YtlopfabbjilpnaaGreatDoorLogV
import Derived.SliceStrings
set_option linter.unusedSimpArgs false
set_option linter.unusedVariables false
namespace Go.Proofs.YtlopfabbjilpnaaGreatDoor
open Go.ChangeShapes Go.WideShapes Go.ChangeAt Go.WideMaps Go.WideElems Go.RowKit Go.ChangeMaps

theorem cell_inv {W : World} {b o : Nat} {p : Option Nat} {v : Value} (h : W.cell? ⟨b, o, p⟩ = some v) : p = none := by
  cases p with
  | none => rfl
  | some q =>
    unfold World.cell? at h
    rcases hb : W.heap[b]? with _ | (_ | _) <;> simp [hb] at h
theorem cell_heap {W : World} {b o : Nat} {v : Value} (h : W.cell? ⟨b, o, none⟩ = some v) : ∃ cur T fz, W.heap[b]? = some (.cells cur T fz) ∧ cur[o]? = some v := by
  rw [cell?_heap] at h
  rcases hb : W.heap[b]? with _ | (⟨cur, T, fz⟩ | _)
  · simp [hb] at h
  · rw [hb] at h; exact ⟨cur, T, fz, rfl, h⟩
  all_goals simp [hb] at h
theorem strRow_of {W : World} {a : Addr} {l : List Bytes} (h : ∀ (i : Nat) (x : Bytes), l[i]? = some x → W.cell? (a.add i) = some (sv x)) : StrRow W (some a) l := fun i x hx => by
  obtain ⟨b, o, p⟩ := a
  have hi : 0 < l.length := Nat.lt_of_le_of_lt (Nat.zero_le _) (List.getElem?_eq_some_iff.1 hx).1
  have h0 := h 0 _ (List.getElem?_eq_getElem hi)
  have e0 : (⟨b, o, p⟩ : Addr).add 0 = ⟨b, o, p⟩ := by unfold Addr.add; rw [if_pos rfl]
  rw [e0] at h0
  obtain rfl := cell_inv h0
  have h1 := h i x hx
  have e1 : (⟨b, o, none⟩ : Addr).add i = ⟨b, o + i, none⟩ := by unfold Addr.add; split <;> simp_all
  rw [e1] at h1
  obtain ⟨cur, T, fz, h2, h3⟩ := cell_heap h1
  exact ⟨b, o, cur, T, fz, rfl, h2, h3⟩


theorem cells_string : Tryz.prog.cellsOf 9 = 1 := by kernel_rfl
set_option maxRecDepth 100000 in
theorem open_texts {H : Type} {enc : TypeId × Value → H} {W : World} {base : Nat} {spare : Nat → Bool} {held : Bool} {v : Value} {d : DataW H} {ps : List MemPlace} {b0 : Nat} {r : Reach}
    (hv : Value.okWide Tryz.prog W r b0 42 v) (h : DataW.Trod enc Tryz.prog W base spare held 42 v d ps) :
    ∃ (a : Option Addr) (c : Nat) (l : List Bytes), v = .slice a l.length c ∧ StrRow W a l ∧ l.length ≤ c ∧ c ≤ 9223372036854775807 ∧ ∀ x ∈ l, x.length ≤ 9223372036854775807 := by
  obtain ⟨a0, len, cap, rfl⟩ := okWide_slice Tryz.underlying42 hv
  obtain ⟨fuel, hf⟩ := h
  rcases open_strings Tryz.underlying42 Tryz.underlying9 cells_string hf with ⟨hcs, hx⟩ | ⟨a, len', cap', ss, hcs, _, hl, hm, hz, hx, hcell, hws⟩
  · simp [Value.cells] at hcs
    obtain ⟨rfl, rfl, rfl⟩ := hcs
    exact ⟨none, 0, [], rfl, fun i x hx => by simp at hx, Nat.le_refl _, by omega, by simp⟩
  · simp [Value.cells] at hcs
    obtain ⟨rfl, rfl, rfl⟩ := hcs
    unfold maxLen at hm hws
    have hlen : len ≤ ss.length := by rw [hz]; split <;> omega
    refine ⟨some a, cap, (ss.take len).map fun s => s.data.toList, by rw [List.length_map, List.length_take, Nat.min_eq_left hlen], strRow_of fun i x hx => ?_, by rw [List.length_map, List.length_take]; omega, by omega, fun x hx => ?_⟩
    · rw [List.getElem?_map] at hx
      obtain ⟨s, hs, rfl⟩ := Option.map_eq_some_iff.1 hx
      have hi : i < len := by have := (List.getElem?_eq_some_iff.1 hs).1; rw [List.length_take] at this; omega
      rw [List.getElem?_take_of_lt hi] at hs
      have := hcell i (by omega)
      rw [this, sv, ba_eta]
      simp [List.getD, hs]
    · obtain ⟨s, hs, rfl⟩ := List.mem_map.1 hx
      have := hws s (List.mem_of_mem_take hs)
      simpa using this
end Go.Proofs.YtlopfabbjilpnaaGreatDoor
