/- Rows of texts: are they the same? -/
import Derived.Test.YtlopfabbjilpnaaGreatDoorLogW
import Derived.BigQuiet
import Derived.Deep.QuietTactic
set_option linter.unusedSimpArgs false
set_option linter.unusedVariables false
namespace Go.Proofs.YtlopfabbjilpnaaGreatDoor
open Go.RowKit

theorem take_succ_eq {l : List Bytes} {i : Nat} {x : Bytes} (h : l[i]? = some x) : l.take (i + 1) = l.take i ++ [x] := by rw [List.take_add_one, h]; rfl
theorem SS_str {base : Nat} {w : World} {v : Value} {l : List Bytes} (h : SS base w v l) : ∃ a c, v = .slice a l.length c ∧ StrRow w a l ∧ ∀ g o, a = some ⟨g, o, none⟩ → v.ownBlock = some g := by
  rcases SS_cases h with ⟨rfl, a, c, rfl⟩ | ⟨g, cap, cur, rfl, h1, h2, h3⟩
  · refine ⟨a, c, rfl, fun i x hx => by simp at hx, ?_⟩
    rcases h.2 with ⟨he, _⟩ | ⟨g, _, _, he, _⟩
    · injection he with h1; subst h1; intro g o hg; cases hg
    · injection he with h1; subst h1; intro g' o hg; injection hg with hg; injection hg with hg1 hg2; subst hg1; rfl
  · refine ⟨_, _, rfl, fun i x hx => ⟨g, 0, cur, _, _, rfl, h2, by rw [Nat.zero_add]; exact h3 i x hx⟩, ?_⟩
    intro g' o hg; injection hg with hg; injection hg with hg1 hg2; subst hg1; rfl
theorem StrRow.frm' {F : List Nat} {w w' : World} {a : Option Addr} {l : List Bytes} (h : StrRow w a l) (hf : Frm F w w') (hn : ∀ g o, a = some ⟨g, o, none⟩ → g ∉ F) : StrRow w' a l := fun i x hx => by
  obtain ⟨g, o, cur, T, fz, h1, h2, h3⟩ := h i x hx
  exact ⟨g, o, cur, T, fz, h1, hf.blk h2 (hn g o h1), h3⟩

set_option maxRecDepth 100000 in
set_option maxHeartbeats 2000000 in
theorem Same_any (a b : Option Addr) (c d : Nat) (l m : List Bytes) (w : World) (ha : StrRow w a l) (hb : StrRow w b m) (hl : l.length ≤ 1000000) (hm : m.length ≤ 1000000) :
    Calls Tryz.prog 30 #[.slice a l.length c, .slice b m.length d] w fun e w' => e = .returned (.bool (decide (l = m))) ∧ Frm [] w w' := by
  by_cases hlen : l.length = m.length
  · have t1 : ((l.length : Int) != m.length) = false := by rw [hlen]; simp
    have HL := Lib.hid hlen
    go_enter Tryz.func30, Tryz.ntmps30
    go_wp2
    go_loopw [5] (fun p wr => ∃ (i : Nat), p = .int .i64 i ∧ i ≤ l.length ∧ l.take i = m.take i ∧ Frm [] w wr) (fun p _ => l.length - (intOf p).toNat)
    case atStart => exact ⟨0, rfl, Nat.zero_le _, rfl, Frm.refl _ _⟩
    case round =>
      obtain ⟨i, rfl, hi, heq, hFr⟩ := hrel
      by_cases hil : i < l.length
      · obtain ⟨x, hx⟩ : ∃ x, l[i]? = some x := ⟨_, List.getElem?_eq_getElem hil⟩
        obtain ⟨y, hy⟩ : ∃ y, m[i]? = some y := ⟨_, List.getElem?_eq_getElem (by omega)⟩
        obtain ⟨g1, o1, cur1, T1, fz1, rfl, hg1, hc1⟩ := ha i x hx
        obtain ⟨g2, o2, cur2, T2, fz2, rfl, hg2, hc2⟩ := hb i y hy
        have hg3 := hFr.blk hg1 (by simp)
        have hg4 := hFr.blk hg2 (by simp)
        have hi0 : (0 : Int) ≤ (i : Int) := by omega
        have hi1 : (i : Int) < (l.length : Int) := by omega
        have hi2 : (i : Int) < (m.length : Int) := by omega
        have hi3 : i < m.length := by omega
        have HX := Lib.hid hx
        have HY := Lib.hid hy
        have HE := Lib.hid heq
        have HT1 := Lib.hid (take_succ_eq hx)
        have HT2 := Lib.hid (take_succ_eq hy)
        by_cases hxy : x = y
        · subst hxy
          clear ha hb hx hy heq hg1 hg2
          go_wp2
          go_quiet (fail)
          go_wp2
          go_roundw
          case rel => exact ⟨i + 1, by go_num, hil, by rw [HT1.out, HT2.out, HE.out], by (repeat (first | (with_reducible exact Frm.refl _ _) | assumption | (with_reducible refine Frm.alloc ?_ _) | ((with_reducible refine Frm.setCell ?_ ?_ _); rotate_left; (first | (focus (left; simp; done)) | (focus (right; simp; done)) | (focus (right; simp; omega)))) | ((with_reducible refine Frm.put ?_ _ ?_); rotate_left; (first | (focus (left; simp; done)) | (focus (right; simp; done)) | (focus (right; simp; omega)))) | (with_reducible refine Frm.drew ?_) | (with_reducible refine Frm.drewN ?_ _)))⟩
          case measure => simp only [intOf]; omega
        · have t2 : ((ba x).toList == (ba y).toList) = false := by rw [ByteArray.toList_eq, ByteArray.toList_eq, ba_toList, ba_toList]; simpa using hxy
          have hR := Lib.hid (show decide (l = m) = false by
            refine decide_eq_false fun e => hxy ?_
            have h1 := HX.out
            rw [e, HY.out] at h1
            exact (Option.some.inj h1).symm)
          clear ha hb hx hy heq hg1 hg2
          go_wp2
          go_quiet (fail)
          go_wp2
          go_ret
          rw [hR.out]
          exact ⟨rfl, by (repeat (first | (with_reducible exact Frm.refl _ _) | assumption | (with_reducible refine Frm.alloc ?_ _) | ((with_reducible refine Frm.setCell ?_ ?_ _); rotate_left; (first | (focus (left; simp; done)) | (focus (right; simp; done)) | (focus (right; simp; omega)))) | ((with_reducible refine Frm.put ?_ _ ?_); rotate_left; (first | (focus (left; simp; done)) | (focus (right; simp; done)) | (focus (right; simp; omega)))) | (with_reducible refine Frm.drew ?_) | (with_reducible refine Frm.drewN ?_ _)))⟩
      · obtain rfl : i = l.length := by omega
        have hR := Lib.hid (show decide (l = m) = true by
          rw [List.take_length, hlen, List.take_length] at heq
          exact decide_eq_true heq)
        clear ha hb heq
        go_wp2
        go_ret
        rw [hR.out]
        exact ⟨rfl, hFr⟩
  · have t1 : ((l.length : Int) != m.length) = true := by simp; omega
    have hR := Lib.hid (show decide (l = m) = false from decide_eq_false fun e => hlen (by rw [e]))
    clear ha hb
    go_enter Tryz.func30, Tryz.ntmps30
    go_wp2
    go_ret
    rw [hR.out]
    exact ⟨rfl, Frm.refl _ _⟩
end Go.Proofs.YtlopfabbjilpnaaGreatDoor
