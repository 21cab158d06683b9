/- 'palaverlaw05.ends'; rows of texts, cut. -/
import Derived.Test.YtlopfabbjilpnaaGreatDoorLogV
set_option linter.unusedSimpArgs false
set_option linter.unusedVariables false
namespace Go.Proofs.YtlopfabbjilpnaaGreatDoor
open Go.RowKit

theorem Same_n (a b : Option Addr) (c d n k : Nat) (l m : List Bytes) (w : World) (hn : l.length = n) (hk : m.length = k) (ha : StrRow w a l) (hb : StrRow w b m) (hl : n ≤ 1000000) (hm : k ≤ 1000000) :
    Calls Tryz.prog 30 #[.slice a n c, .slice b k d] w fun e w' => e = .returned (.bool (decide (l = m))) ∧ Frm [] w w' := by
  subst hn; subst hk; exact Same_any a b c d l m w ha hb hl hm
theorem StrRow.drop {w : World} {a : Option Addr} {l : List Bytes} (h : StrRow w a l) (k : Nat) : StrRow w (Option.map (fun x => x.add k) a) (l.drop k) := fun i x hx => by
  rw [List.getElem?_drop] at hx
  obtain ⟨g, o, cur, T, fz, rfl, h2, h3⟩ := h _ x hx
  exact ⟨g, o + k, cur, T, fz, by simp [Addr.add_lit], h2, by rw [show o + k + i = o + (k + i) by omega]; exact h3⟩
theorem StrRow.take' {w : World} {a : Option Addr} {l : List Bytes} (h : StrRow w a l) (n : Nat) : StrRow w a (l.take n) := fun i x hx => h i x (by
  rcases Nat.lt_or_ge i n with hi | hi
  · rw [List.getElem?_take_of_lt hi] at hx; exact hx
  · rw [List.getElem?_eq_none (by rw [List.length_take]; omega)] at hx; cases hx)
theorem StrRow.src {w : World} {a : Option Addr} {l : List Bytes} (h : StrRow w a l) (c : Nat) : Src Tryz.prog 1 42 (.slice a l.length c) l.length (l.map sv) w := by
  rcases a with _ | ⟨g, o, k⟩
  · have hl : l = [] := by
      rcases l with _ | ⟨x, l⟩
      · rfl
      · obtain ⟨_, _, _, _, _, he, _⟩ := h 0 x rfl
        cases he
    subst hl
    exact Src.ofNil w elS.ht c
  · refine Src.ofSlice w elS.ht ⟨g, o, k⟩ _ _ (l.map sv) (by simp) (fun j u hu => ?_) (fun u hu => by obtain ⟨_, _, rfl⟩ := List.mem_map.1 hu; rfl)
    rw [List.getElem?_map] at hu
    obtain ⟨x, hx, rfl⟩ := Option.map_eq_some_iff.1 hu
    obtain ⟨g2, o2, cur, T, fz, he, h2, h3⟩ := h j x hx
    injection he with he
    injection he with e1 e2 e3
    subst e1; subst e2; subst e3
    rw [Addr.add_lit, cell?_heap, h2]
    exact h3
/-- append(append([]string(nil), l...), m...). -/
theorem run_joined {w : World} {a b : Option Addr} {c d k : Nat} {l m : List Bytes} (ha : StrRow w a l) (hb : StrRow w b m) (hk : m.length = k) (hl : l.length ≤ 1000000) (hm : m.length ≤ 1000000) : ∃ v1 w1 a2 c2 w2, (appL #[42, 42] 42 #[.slice none 0 0, .slice a l.length c]).run Tryz.prog w = .ok v1 w1 ∧
    (appL #[42, 42] 42 #[v1, .slice b k d]).run Tryz.prog w1 = .ok (.slice a2 (l.length + k) c2) w2 ∧ Frm [] w w2 ∧ StrRow w2 a2 (l ++ m) := by
  subst hk
  obtain ⟨v1, w1, h1, h2, h3, _⟩ := run_app elS w.heap.size 42 42 (.slice none 0 0) 0 [] w (World.ownsRow_nil w _ _ _) _ l.length (l.map sv) (ha.src c) (by unfold maxLen; omega) (by omega) (Nat.le_refl _)
  rw [app_lock] at h1
  have hf1 : Frm [] w w1 := (Frm.refl [] w).grown h3 (fun k hk => by cases hk)
  obtain ⟨v2, w2, k1, k2, k3, _⟩ := run_app elS w.heap.size 42 42 v1 _ _ w1 h2 _ m.length (m.map sv) ((hb.frm hf1).src d) (by unfold maxLen; omega) (by omega) hf1.size
  rw [app_lock] at k1
  have hss : SS w.heap.size w2 v2 (l ++ m) := by
    unfold SS
    simpa using k2
  obtain ⟨a2, c2, rfl, hrow, _⟩ := SS_str hss
  rw [List.length_append] at k1
  exact ⟨v1, w1, a2, c2, w2, h1, k1, (hf1.grown k3 (fun k hk => .inr (own_lt h2 hk).1)), hrow⟩
theorem SS_cap {base : Nat} {w : World} {a : Option Addr} {n c : Nat} {l : List Bytes} (h : SS base w (.slice a n c) l) : l.length ≤ c := by
  rcases h.2 with ⟨he, h0⟩ | ⟨g, cap, cur, he, h1, h2, h3, h4, h5, h6⟩
  · omega
  · injection he with e1 e2 e3
    omega
theorem StrRow.nil (w : World) (a : Option Addr) : StrRow w a [] := fun i x hx => by simp at hx

set_option maxRecDepth 100000 in
set_option maxHeartbeats 2000000 in
theorem ends_any (a b : Option Addr) (c d n k : Nat) (l m : List Bytes) (w : World) (hn : l.length = n) (hk : m.length = k) (ha : StrRow w a l) (hb : StrRow w b m) (hl : n ≤ 1000000) (hm : k ≤ 1000000) (hd : k ≤ d) :
    Calls Tryz.prog 31 #[.slice a n c, .slice b k d] w fun e w' => (∃ r, e = .returned (.bool r)) ∧ Frm [] w w' := by
  have HA := Lib.hid (And.intro hn (And.intro hk (And.intro ha hb)))
  clear hn hk ha hb
  by_cases hlm : n ≤ k
  · have t1 : decide ((n : Int) ≤ k) = true := dec_yes (by omega)
    go_enter Tryz.func31, Tryz.ntmps31
    go_wp2_with fail
    · refine (Same_n _ _ _ _ _ _ l [] _ HA.out.1 (by simp only [List.length_nil]; omega) HA.out.2.2.1 (StrRow.nil _ _) hl (by omega)).mono ?_
      rintro e w1 ⟨rfl, hF1⟩
      go_wp2
      go_ret
      exact ⟨⟨_, rfl⟩, hF1⟩
    · refine (Same_n _ _ _ _ _ _ l (m.drop (k - n)) _ HA.out.1 (by rw [List.length_drop, HA.out.2.1]) HA.out.2.2.1 (HA.out.2.2.2.drop _) hl (by omega)).mono ?_
      rintro e w1 ⟨rfl, hF1⟩
      go_wp2
      go_ret
      exact ⟨⟨_, rfl⟩, hF1⟩
  · have t1 : decide ((n : Int) ≤ k) = false := dec_no (by omega)
    go_enter Tryz.func31, Tryz.ntmps31
    go_wp2
    go_ret
    exact ⟨⟨_, rfl⟩, Frm.refl _ _⟩
end Go.Proofs.YtlopfabbjilpnaaGreatDoor
