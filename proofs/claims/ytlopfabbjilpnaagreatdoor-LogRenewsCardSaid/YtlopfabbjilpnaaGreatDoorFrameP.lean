/- Frames, as plain texts: what is put is taken; a frame that is not whole, or of which a bit turned, is told. -/
import Derived.Test.YtlopfabbjilpnaaGreatDoorSplitB
import Derived.Lib.ItoaNum
set_option linter.unusedSimpArgs false
set_option linter.unusedVariables false
namespace Go.Proofs.YtlopfabbjilpnaaGreatDoor

theorem bitLen_lt (n : Nat) (h : n < 18446744073709551616) : n < 2 ^ Lib.bitLen n := by
  by_cases h0 : n = 0
  · subst h0; exact Nat.pow_pos (by decide)
  · exact (Lib.bitLenAux_bounds 64 n h h0).2.2
theorem numW_lt (n : Nat) (h : n < 18446744073709551616) : n < 256 ^ numW n := by
  refine Nat.lt_of_lt_of_le (bitLen_lt n h) ?_
  rw [show (256 : Nat) = 2 ^ 8 from rfl, ← Nat.pow_mul]
  exact Nat.pow_le_pow_right (by decide) (by unfold numW; omega)
theorem beB_succ (k n : Nat) : beB (k + 1) n = beB k (n / 256) ++ [UInt8.ofNat n] := by
  unfold beB
  rw [List.range_succ, List.map_append]
  congr 1
  · refine List.map_congr_left fun j hj => ?_
    have hj : j < k := by simpa using hj
    rw [show k + 1 - 1 - j = (k - 1 - j) + 1 by omega, Nat.pow_succ, Nat.mul_comm, Nat.div_div_eq_div_mul]
  · simp
theorem beN_beB : ∀ (k n : Nat), beN (beB k n) = n % 256 ^ k
  | 0, n => by simp [beB, beN, Nat.mod_one]
  | k + 1, n => by
    rw [beB_succ, beN_snoc, beN_beB k, Nat.pow_succ, Nat.mul_comm (256 ^ k) 256, Nat.mod_mul]
    simp; omega
theorem beB_len (k n : Nat) : (beB k n).length = k := by simp [beB]
theorem numR_numB (n : Nat) (x : Bytes) (h : n < 18446744073709551616) : numR 0 (numB n ++ x) = (n, 0, x) := by
  unfold numB
  by_cases h1 : n < 248
  · have : (UInt8.ofNat n).toNat = n := by simp; omega
    rw [if_pos h1]
    simp [numR, this, h1]
  · have h8 := numW_le n (by omega)
    have hw := numW_lt n h
    have hc : (UInt8.ofNat (247 + numW n)).toNat = 247 + numW n := by simp; omega
    have hb : beN (beB (numW n) n) = n := by rw [beN_beB, Nat.mod_eq_of_lt hw]
    have hpos : 0 < numW n := by
      rcases Nat.eq_zero_or_pos (numW n) with h0 | h0
      · rw [h0] at hw; simp at hw; omega
      · exact h0
    rw [if_neg h1, List.cons_append]
    have e1 : 247 + numW n - 247 = numW n := by omega
    have e2 : List.take (numW n) (beB (numW n) n ++ x) = beB (numW n) n := by rw [List.take_append_of_le_length (by rw [beB_len]; exact Nat.le_refl _), List.take_of_length_le (by rw [beB_len]; exact Nat.le_refl _)]
    have e3 : List.drop (numW n) (beB (numW n) n ++ x) = x := by rw [List.drop_append_of_le_length (by rw [beB_len]; exact Nat.le_refl _), List.drop_of_length_le (by rw [beB_len]; exact Nat.le_refl _)]; rfl
    have t1 : ¬ 247 + numW n < 248 := by omega
    have t2 : ¬ (beB (numW n) n ++ x).length < numW n := by rw [List.length_append, beB_len]; omega
    simp only [numR, ne_eq, not_true_eq_false, if_false, hc, e1, e2, e3, hb]
    rw [if_neg t1, if_neg t2, if_neg (by simp; omega)]

theorem leB_go (n : Nat) : ∀ k, leN ((List.range k).map fun j => UInt8.ofNat (n / 256 ^ j)) = n % 256 ^ k
  | 0 => by simp [leN, Nat.mod_one]
  | k + 1 => by
    rw [List.range_succ, List.map_append, List.map_singleton, leN_snoc, leB_go n k, Nat.mod_pow_succ]
    simp [Nat.mul_comm]
theorem leN_leB (n : Nat) (h : n < 18446744073709551616) : leN (leB n) = n := by
  unfold leB
  rw [leB_go, Nat.mod_eq_of_lt (by simpa using h)]
theorem leB_len (n : Nat) : (leB n).length = 8 := by simp [leB]

/-- A text that may be a frame's inside. -/
def RecOk (r : Bytes) : Prop := 0 < r.length ∧ r.length ≤ 65536
theorem takeF_of {s rest : Bytes} {n : Nat} (hB : numR 0 s = (n, 0, rest)) (h0 : 0 < n) (h1 : n ≤ 65536) : takeF s =
    if rest.length < 8 + n then ([], 0, 3) else if crc ((rest.drop 8).take n) ≠ leN (rest.take 8) then ([], 0, 5) else ((rest.drop 8).take n, s.length - (rest.length - 8) + n, 0) := by
  have hb : belowR 0 s 65537 = (n, 0, rest) := by
    unfold belowR; rw [hB]; simp; omega
  have he : takeE s = 0 := by
    unfold takeE; rw [hb]; simp only; rw [if_neg (by omega)]
  unfold takeF
  rw [he, hb]
  simp
theorem takeF_frame (r x : Bytes) (h : RecOk r) : takeF (frameB r ++ x) = (r, (frameB r).length, 0) := by
  obtain ⟨h0, h1⟩ := h
  have hn : numR 0 (frameB r ++ x) = (r.length, 0, leB (crc r) ++ r ++ x) := by
    unfold frameB; rw [List.append_assoc, List.append_assoc, numR_numB _ _ (by omega), List.append_assoc]
  rw [takeF_of hn h0 h1]
  have e1 : List.drop 8 (leB (crc r) ++ r ++ x) = r ++ x := by
    rw [List.append_assoc, List.drop_append_of_le_length (by rw [leB_len]; exact Nat.le_refl _), List.drop_of_length_le (by rw [leB_len]; exact Nat.le_refl _)]; rfl
  have e2 : List.take 8 (leB (crc r) ++ r ++ x) = leB (crc r) := by
    rw [List.append_assoc, List.take_append_of_le_length (by rw [leB_len]; exact Nat.le_refl _), List.take_of_length_le (by rw [leB_len]; exact Nat.le_refl _)]
  rw [e1, e2, List.take_left, leN_leB _ (crc_lt _)]
  rw [if_neg (by simp only [List.length_append, leB_len]; omega), if_neg (by simp)]
  have : (frameB r).length = (numB r.length).length + 8 + r.length := by simp [frameB, leB_len]; omega
  refine Prod.ext rfl (Prod.ext ?_ rfl)
  simp only [List.length_append, leB_len, this]
  omega

def frames (l : List Bytes) : Bytes := l.flatMap frameB
theorem frames_append (l m : List Bytes) : frames (l ++ m) = frames l ++ frames m := by simp [frames]
theorem frames_cons (r : Bytes) (l : List Bytes) : frames (r :: l) = frameB r ++ frames l := by simp [frames]
theorem frames_nil : frames [] = [] := rfl
theorem frameB_pos (r : Bytes) : 8 < (frameB r).length := by
  have : 0 < (numB r.length).length := by unfold numB; split <;> simp
  simp [frameB, leB_len]; omega

/-- Whole frames, and what is behind them. -/
theorem framesF_app : ∀ (l : List Bytes) (p : Bytes) (k f : Nat), (∀ r ∈ l, RecOk r) → (frames l ++ p).length ≤ f →
    (framesF f (frames l ++ p) k).1.map (·.2) = l ++ (framesF p.length p (k + (frames l).length)).1.map (·.2) ∧ (framesF f (frames l ++ p) k).2 = (framesF p.length p (k + (frames l).length)).2
  | [], p, k, f, _, hf => by
    simp only [frames_nil, List.nil_append, List.length_nil, Nat.add_zero] at hf ⊢
    rw [framesF_fuel f p.length p k hf (Nat.le_refl _)]
    exact ⟨rfl, rfl⟩
  | r :: l, p, k, f, h, hf => by
    have hr := h r (by simp)
    have hpos := frameB_pos r
    have ht := takeF_frame r (frames l ++ p) hr
    rw [frames_cons, List.append_assoc] at hf ⊢
    obtain ⟨g, rfl⟩ : ∃ g, f = g + 1 := ⟨f - 1, by rw [List.length_append] at hf; omega⟩
    have hne : frameB r ++ (frames l ++ p) ≠ [] := fun e => by have := congrArg List.length e; simp at this; have := this.1; rw [this] at hpos; simp at hpos
    rw [framesF, if_neg hne, ht, if_neg (by simp)]
    have hd : List.drop (frameB r).length (frameB r ++ (frames l ++ p)) = frames l ++ p := List.drop_left
    simp only [hd]
    obtain ⟨h1, h2⟩ := framesF_app l p (k + (frameB r).length) g (fun x hx => h x (by simp [hx])) (by rw [List.length_append] at hf; omega)
    rw [List.length_append, ← Nat.add_assoc]
    exact ⟨by rw [List.map_cons, h1]; rfl, h2⟩
theorem splitF_app (l : List Bytes) (p : Bytes) (h : ∀ r ∈ l, RecOk r) : splitF (frames l ++ p) = (l ++ (splitF p).1, (frames l).length + (splitF p).2.1, (splitF p).2.2) := by
  have key : ∀ (f : Nat) (r : Bytes) (k : Nat), (framesF f r k).1.map (·.2) = (framesF f r 0).1.map (·.2) ∧ (framesF f r k).2.1 = k + (framesF f r 0).2.1 ∧ (framesF f r k).2.2 = (framesF f r 0).2.2 := by
    intro f
    induction f with
    | zero => intro r k; exact ⟨rfl, rfl, rfl⟩
    | succ f ih =>
      intro r k
      unfold framesF
      split
      · exact ⟨rfl, rfl, rfl⟩
      · split
        · exact ⟨rfl, rfl, rfl⟩
        · obtain ⟨a1, a2, a3⟩ := ih (r.drop (takeF r).2.1) (k + (takeF r).2.1)
          obtain ⟨b1, b2, b3⟩ := ih (r.drop (takeF r).2.1) (0 + (takeF r).2.1)
          refine ⟨by simp only [List.map_cons]; rw [a1, b1], ?_, ?_⟩
          · simp only; rw [a2, b2]; omega
          · simp only; rw [a3, b3]
  obtain ⟨h1, h2⟩ := framesF_app l p 0 (frames l ++ p).length h (Nat.le_refl _)
  obtain ⟨a1, a2, a3⟩ := key p.length p (0 + (frames l).length)
  unfold splitF
  rw [h1, h2, a1]
  refine Prod.ext rfl (Prod.ext ?_ ?_)
  · show (framesF p.length p (0 + (frames l).length)).2.1 = _
    rw [a2, Nat.zero_add]
  · exact a3
theorem splitF_nil : splitF [] = ([], 0, 0) := rfl
theorem splitF_frames (l : List Bytes) (h : ∀ r ∈ l, RecOk r) : splitF (frames l) = (l, (frames l).length, 0) := by
  have := splitF_app l [] h
  rw [List.append_nil, splitF_nil] at this
  simpa using this
theorem splitF_stop (p : Bytes) (hp : p ≠ []) (h : (takeF p).2.2 ≠ 0) : splitF p = ([], 0, (takeF p).2.2) := by
  have : p.length ≠ 0 := fun e => hp (List.eq_nil_of_length_eq_zero e)
  have := framesF_stop p 0 (by omega) (by simpa using h)
  simp only [Nat.sub_zero, List.drop_zero] at this
  unfold splitF
  rw [this]; rfl

/-- A frame that is not whole. -/
def Part (r p : Bytes) : Prop := p ≠ [] ∧ p <+: frameB r ∧ p.length < (frameB r).length
theorem part_take (r p : Bytes) (h : RecOk r) (hp : Part r p) : (takeF p).2.2 ≠ 0 := by
  obtain ⟨hne, hpre, hlen⟩ := hp
  obtain ⟨h0, h1⟩ := h
  by_cases hc : (numB r.length).length ≤ p.length
  · -- the length is whole
    have hpx : ∃ y, p = numB r.length ++ y := by
      obtain ⟨t, ht⟩ := hpre
      have : numB r.length <+: p := by
        refine List.prefix_of_prefix_length_le (l₃ := frameB r) ?_ ⟨t, ht⟩ hc
        exact ⟨leB (crc r) ++ r, by simp [frameB]⟩
      obtain ⟨y, hy⟩ := this
      exact ⟨y, hy.symm⟩
    obtain ⟨y, rfl⟩ := hpx
    have hn := numR_numB r.length y (by omega)
    rw [takeF_of hn h0 h1, if_pos (by simp [frameB, leB_len] at hlen; omega)]
    decide
  · -- the length itself is cut
    have h248 : ¬ r.length < 248 := fun h => by
      have : (numB r.length).length = 1 := by simp [numB, h]
      have : p.length ≠ 0 := fun e => hne (List.eq_nil_of_length_eq_zero e)
      omega
    have h8 := numW_le r.length (by omega)
    have hnl : (numB r.length).length = 1 + numW r.length := by simp [numB, h248, beB]; omega
    obtain ⟨c, y, rfl⟩ : ∃ c y, p = c :: y := by cases p with | nil => exact absurd rfl hne | cons c y => exact ⟨c, y, rfl⟩
    have hcc : c = UInt8.ofNat (247 + numW r.length) := by
      obtain ⟨t, ht⟩ := hpre
      have := congrArg List.head? ht
      simp only [frameB, numB, if_neg h248, List.cons_append, List.head?_cons, Option.some.injEq] at this
      exact this
    have hct : c.toNat = 247 + numW r.length := by rw [hcc]; simp; omega
    have hnr : numR 0 (c :: y) = (0, 3, y) := by
      have t1 : ¬ 247 + numW r.length < 248 := by simp at hc; omega
      simp only [numR, ne_eq, not_true_eq_false, if_false, hct]
      rw [if_neg t1, if_pos (by simp at hc; omega)]
    have hb : belowR 0 (c :: y) 65537 = (0, 3, y) := by unfold belowR; rw [hnr]; simp
    have he : takeE (c :: y) = 3 := by unfold takeE; rw [hb]; simp [badE]
    unfold takeF
    rw [he, if_pos (by decide)]
    decide
/-- A beginning of frames. -/
theorem prefix_frames : ∀ (l : List Bytes) (P : Bytes), P <+: frames l → ∃ j p, j ≤ l.length ∧ P = frames (l.take j) ++ p ∧ (p = [] ∨ ∃ r, l[j]? = some r ∧ Part r p)
  | [], P, h => by
    rw [frames_nil, List.prefix_nil] at h
    subst h
    exact ⟨0, [], Nat.le_refl _, rfl, .inl rfl⟩
  | r :: l, P, h => by
    rw [frames_cons] at h
    by_cases hl : P.length < (frameB r).length
    · by_cases hp : P = []
      · subst hp; exact ⟨0, [], Nat.zero_le _, rfl, .inl rfl⟩
      · exact ⟨0, P, Nat.zero_le _, rfl, .inr ⟨r, rfl, hp, List.prefix_of_prefix_length_le h (List.prefix_append _ _) (Nat.le_of_lt hl), hl⟩⟩
    · have h1 : frameB r <+: P := List.prefix_of_prefix_length_le (List.prefix_append _ _) h (by omega)
      obtain ⟨Q, rfl⟩ := h1
      have h2 : Q <+: frames l := (List.prefix_append_right_inj _).1 h
      obtain ⟨j, p, hj, rfl, hp⟩ := prefix_frames l Q h2
      refine ⟨j + 1, p, by simp; omega, by simp [frames_cons], ?_⟩
      simpa using hp
theorem splitF_prefix (l : List Bytes) (h : ∀ r ∈ l, RecOk r) {j : Nat} {p : Bytes} (hp : p = [] ∨ ∃ r, l[j]? = some r ∧ Part r p) :
    (splitF (frames (l.take j) ++ p)).1 = l.take j ∧ (splitF (frames (l.take j) ++ p)).2.1 = (frames (l.take j)).length := by
  rw [splitF_app _ _ (fun r hr => h r (List.mem_of_mem_take hr))]
  rcases hp with rfl | ⟨r, hr, hp⟩
  · rw [splitF_nil]; simp
  · rw [splitF_stop p hp.1 (part_take r p (h r (List.mem_iff_getElem?.2 ⟨j, hr⟩)) hp)]; simp
theorem frames_len_mono (l : List Bytes) {i j : Nat} (h : i ≤ j) : (frames (l.take i)).length ≤ (frames (l.take j)).length := by
  obtain ⟨m, hm⟩ : ∃ m, l.take j = l.take i ++ m := by
    have : l.take i <+: l.take j := List.take_prefix_take_left h
    obtain ⟨m, hm⟩ := this
    exact ⟨m, hm.symm⟩
  rw [hm, frames_append, List.length_append]; omega
theorem frames_len_lt (l : List Bytes) {i j : Nat} (h : i < j) (hj : j ≤ l.length) : (frames (l.take i)).length < (frames (l.take j)).length := by
  have h1 : l.take (i + 1) = l.take i ++ [l[i]'(by omega)] := List.take_succ_eq_append_getElem (by omega)
  have h2 := frames_len_mono l (show i + 1 ≤ j by omega)
  have h3 := frameB_pos (l[i]'(by omega))
  rw [h1, frames_append, frames_cons, frames_nil, List.append_nil, List.length_append] at h2
  omega

/-- The checksum tells texts apart that differ in one byte. -/
theorem crcStep_inj {n m : Nat} (hn : n < 18446744073709551616) (hm : m < 18446744073709551616) (h : crcStep n = crcStep m) : n = m := by
  have hn2 : n / 2 < 2 ^ 63 := by simp; omega
  have hm2 : m / 2 < 2 ^ 63 := by simp; omega
  have b1 : (n / 2).testBit 63 = false := Nat.testBit_lt_two_pow hn2
  have b2 : (m / 2).testBit 63 = false := Nat.testBit_lt_two_pow hm2
  have b3 : Nat.testBit 14514072000185962306 63 = true := by decide
  have xi : ∀ a b : Nat, a ^^^ 14514072000185962306 = b ^^^ 14514072000185962306 → a = b := fun a b e => by
    have := congrArg (· ^^^ 14514072000185962306) e
    simpa [Nat.xor_assoc, Nat.xor_self] using this
  unfold crcStep at h
  split at h <;> split at h
  · have := xi _ _ h; omega
  · have := congrArg (fun x => Nat.testBit x 63) h
    simp [b1, b2, b3] at this
  · have := congrArg (fun x => Nat.testBit x 63) h
    simp [b1, b2, b3] at this
  · omega
theorem crcIter_inj {n m : Nat} (hn : n < 18446744073709551616) (hm : m < 18446744073709551616) : ∀ k, crcIter k n = crcIter k m → n = m
  | 0, h => h
  | k + 1, h => crcIter_inj hn hm k (crcStep_inj (crcIter_lt n hn k) (crcIter_lt m hm k) h)
theorem xor_left_inj (a b c : Nat) (h : a ^^^ c = b ^^^ c) : a = b := by
  have := congrArg (· ^^^ c) h
  simpa [Nat.xor_assoc, Nat.xor_self] using this
theorem xor_right_inj (a b c : Nat) (h : c ^^^ a = c ^^^ b) : a = b := xor_left_inj a b c (by rwa [Nat.xor_comm, Nat.xor_comm b])
theorem crcRun_inj : ∀ (l : Bytes) (n m : Nat), n < 18446744073709551616 → m < 18446744073709551616 → crcRun l n = crcRun l m → n = m
  | [], _, _, _, _, h => h
  | c :: l, n, m, hn, hm, h => by
    have h1 := crcRun_inj l _ _ (crcIter_lt _ (xor_byte_lt n c hn) 8) (crcIter_lt _ (xor_byte_lt m c hm) 8) h
    exact xor_left_inj _ _ _ (crcIter_inj (xor_byte_lt n c hn) (xor_byte_lt m c hm) 8 h1)
theorem crcRun_append (l m : Bytes) (n : Nat) : crcRun (l ++ m) n = crcRun m (crcRun l n) := by simp [crcRun]
theorem compl_inj {n m : Nat} (hn : n < 18446744073709551616) (hm : m < 18446744073709551616) (h : compl n = compl m) : n = m := by unfold compl at h; omega
theorem crc_ne (x y : Bytes) {c d : UInt8} (h : c ≠ d) : crc (x ++ c :: y) ≠ crc (x ++ d :: y) := by
  intro e
  unfold crc crcMore at e
  have hx := crcRun_lt x (compl 0) (compl_lt 0)
  have e1 := compl_inj (crcRun_lt _ _ (compl_lt 0)) (crcRun_lt _ _ (compl_lt 0)) e
  rw [crcRun_append, crcRun_append] at e1
  have e2 := crcRun_inj y _ _ (crcIter_lt _ (xor_byte_lt _ c hx) 8) (crcIter_lt _ (xor_byte_lt _ d hx) 8) (show crcRun y (crc8 (crcRun x (compl 0) ^^^ c.toNat)) = crcRun y (crc8 (crcRun x (compl 0) ^^^ d.toNat)) from e1)
  have e3 := crcIter_inj (xor_byte_lt _ c hx) (xor_byte_lt _ d hx) 8 e2
  exact h (UInt8.toNat_inj.1 (xor_right_inj _ _ _ e3))
theorem leN_inj : ∀ {a b : Bytes}, a.length = b.length → leN a = leN b → a = b
  | [], [], _, _ => rfl
  | c :: a, d :: b, hl, h => by
    have hc := c.toNat_lt
    have hd := d.toNat_lt
    simp only [leN] at h
    have h1 : c.toNat = d.toNat := by omega
    rw [UInt8.toNat_inj.1 h1, leN_inj (a := a) (b := b) (by simpa using hl) (by omega)]
/-- A frame of which a byte behind the length turned. -/
theorem takeF_turned (r x s t : Bytes) (h : RecOk r) (hs : s.length = 8) (ht : t.length = r.length) (hne : (s = leB (crc r) ∧ ∃ a b c d, r = a ++ c :: b ∧ t = a ++ d :: b ∧ c ≠ d) ∨ (s ≠ leB (crc r) ∧ t = r)) :
    takeF (numB r.length ++ s ++ t ++ x) = ([], 0, 5) := by
  obtain ⟨h0, h1⟩ := h
  have hn : numR 0 (numB r.length ++ s ++ t ++ x) = (r.length, 0, s ++ t ++ x) := by
    rw [List.append_assoc, List.append_assoc, numR_numB _ _ (by omega), List.append_assoc]
  rw [takeF_of hn h0 h1]
  have e1 : List.drop 8 (s ++ t ++ x) = t ++ x := by rw [List.append_assoc, ← hs, List.drop_left]
  have e2 : List.take 8 (s ++ t ++ x) = s := by rw [List.append_assoc, ← hs, List.take_left]
  rw [e1, e2, ← ht, List.take_left, if_neg (by simp; omega), if_pos]
  rcases hne with ⟨rfl, a, b, c, d, rfl, rfl, hcd⟩ | ⟨hsn, rfl⟩
  · rw [leN_leB _ (crc_lt _)]
    exact (crc_ne a b hcd).symm
  · intro e
    exact hsn (leN_inj (by rw [hs, leB_len]) (by rw [← e, leN_leB _ (crc_lt _)]))
end Go.Proofs.YtlopfabbjilpnaaGreatDoor
