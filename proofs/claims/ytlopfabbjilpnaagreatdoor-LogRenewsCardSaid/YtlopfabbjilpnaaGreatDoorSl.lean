/- Slices of the call's own: append of whatever source, make, copy; each law asks for what it needs in one word. -/
import Derived.Test.YtlopfabbjilpnaaGreatDoorLib
import Derived.Deep.AppendSrc
import Derived.Laws.CopyOwn
import Derived.Laws.MakeOwn
import Derived.Lib.Hide
set_option linter.unusedSimpArgs false
set_option linter.unusedVariables false
namespace Go.Proofs.YtlopfabbjilpnaaGreatDoor
open Go.RowKit

/-- Here stands the operation that writes this slot. -/
theorem wpList_at {P : Program} {ops : Array Oper} {Q : Exit → Act → World → Prop} {o : Oper} {rest : List Oper} {a : Act} {w : World} (h : wpList P ops Q (o :: rest) a w) : wpList P ops Q (o :: rest) a w := h

/-- A slice type and its elements, as the program's table has them. -/
structure El (P : Program) (t e : TypeId) (size bytes : Nat) (z : Value) : Prop where
  ht : P.underlying t = some (.slice e)
  hi : ∃ i, P.info? e = some i ∧ i.zero = some z ∧ i.size = size ∧ i.bytes = bytes
  hzs : z.cells.size = size
  hpos : 0 < size

theorem El.mk' {P : Program} {t e : TypeId} {size bytes : Nat} {z : Value} (ht : P.underlying t = some (.slice e))
    (hi : (P.info? e).map (fun i => (i.zero, i.size, i.bytes)) = some (some z, size, bytes)) (hzs : z.cells.size = size) (hpos : 0 < size) : El P t e size bytes z := by
  obtain ⟨i, h1, h2, h3, h4⟩ := info_parts hi
  exact ⟨ht, ⟨i, h1, h2, h3, h4⟩, hzs, hpos⟩

theorem setCells_spec (g : Nat) {e : TypeId} {f : Nat × Nat} : ∀ (vs : List Value) (o : Nat) (w : World) {cur : Array Value}, w.heap[g]? = some (.cells cur e f) → o + vs.length ≤ cur.size →
    (w.setCells g o vs).heap[g]? = some (.cells (cur.toList.take o ++ vs ++ cur.toList.drop (o + vs.length)).toArray e f) ∧ w.grownBy (w.setCells g o vs) (some g)
  | [], o, w, cur, h, _ => by
    refine ⟨?_, ⟨rfl, rfl, rfl, Nat.le_refl _, fun _ _ _ => rfl⟩⟩
    simp only [World.setCells, List.append_nil, List.length_nil, Nat.add_zero, List.take_append_drop]
    exact h
  | v :: r, o, w, cur, h, hl => by
    simp only [List.length_cons] at hl
    have h1 := heap_setCell (i := o) v h
    obtain ⟨h2, h3⟩ := setCells_spec g r (o + 1) (w.setCell ⟨g, o, none⟩ v) h1 (by simp; omega)
    refine ⟨?_, ⟨h3.os, h3.tape, h3.output, by rw [World.setCells]; exact Nat.le_trans (by simp [World.setCell]) h3.size, fun k hk hn => ?_⟩⟩
    · rw [World.setCells, h2]
      congr 3
      rw [Array.toList_setIfInBounds, List.take_set, List.drop_set_of_lt (by omega), List.length_cons]
      have hlt : o < cur.toList.length := by simp; omega
      rw [List.take_succ_eq_append_getElem hlt, List.set_append_right (h := by simp; omega)]
      simp
      have : min o cur.size = o := by omega
      simp [this, Nat.add_assoc, Nat.add_comm 1]
    · rw [World.setCells, h3.block k (by simpa [World.setCell] using hk) hn, Below.heap_setCell _ _ _ _ (fun e => hn (by simp [e]))]

section
variable {P : Program} {t e : TypeId} {size bytes : Nat} {z : Value}

theorem run_app (E : El P t e size bytes z) (base : Nat) (tx ty : TypeId) (v : Value) (n : Nat) (xs : List Value) (w : World) (hown : w.ownsRow base e size v n xs)
    (x : Value) (m : Nat) (news : List Value) (hs : Src P size tx x m news w) (h63 : n + m ≤ maxLen) (hbytes : (n + m) * bytes ≤ 140737488355328) (hbase : base ≤ w.heap.size) :
    ∃ v' w', (Builtin.append_ #[t, tx] ty #[v, x]).run P w = .ok v' w' ∧ w'.ownsRow base e size v' (n + m) (xs ++ news) ∧ w.grownBy w' v.ownBlock ∧ (v' = .slice none 0 0 ↔ v = .slice none 0 0 ∧ m = 0) := by
  obtain ⟨ht, ⟨i, hi, hz, rfl, rfl⟩, hzs, hsz⟩ := E
  have hl := hs.newsLen
  have hsmall : n + m ≤ 9223372036854775807 := by simp only [maxLen] at h63; omega
  have hlen : (xs ++ news).length = (n + m) * i.size := by rw [List.length_append, hown.1, hl, Nat.add_mul]
  have grown : ∀ (old : Nat), old < n + m → ∀ (row : Option Nat),
      (w.drew.alloc (.cells ((xs ++ news).toArray ++ Builtin.zeroCells z.cells (grownCap w (n + m) old e - (n + m))) e)).ownsRow base e i.size
        (.slice (some ⟨w.heap.size, 0, none⟩) (n + m) (grownCap w (n + m) old e)) (n + m) (xs ++ news) ∧
      w.grownBy (w.drew.alloc (.cells ((xs ++ news).toArray ++ Builtin.zeroCells z.cells (grownCap w (n + m) old e - (n + m))) e)) row := by
    intro old ho row
    have hge := grownCap_ge w (n + m) old e
    have hcm : grownCap w (n + m) old e ≤ maxLen := grownCap_le_maxLen w (n + m) old e h63
    refine ⟨⟨hlen, .inr ⟨w.heap.size, _, _, rfl, hbase, heap_alloc_new w.drew _, hge, hcm, ?_, ?_⟩⟩, ⟨rfl, rfl, rfl, by simp, fun k hk _ => heap_alloc_old w.drew _ hk⟩⟩
    · simp only [Array.size_append, List.size_toArray, size_zeroCells, hzs, hlen]
      rw [← Nat.add_mul]
      congr 1
      omega
    · simp only [Array.toList_append, List.append_assoc]
      rw [← List.append_assoc, ← hlen]
      exact List.take_left
  rcases hown.2 with ⟨rfl, rfl⟩ | ⟨g, cap, cur, rfl, hbg, hg, hnc, hcm, hcs, htake⟩
  · have hx : xs = [] := List.eq_nil_of_length_eq_zero (by simpa using hown.1)
    subst hx
    by_cases hm : m = 0
    · subst hm
      have hn : news = [] := List.eq_nil_of_length_eq_zero (by simpa using hl)
      subst hn
      refine ⟨.slice none 0 0, w, ?_, World.ownsRow_nil w base e i.size, ⟨rfl, rfl, rfl, Nat.le_refl _, fun _ _ _ => rfl⟩, by simp⟩
      have h1 := hs.cells
      rcases hs.kind with ⟨e', hk⟩ | hk <;> simp [Builtin.append_, run_underlying ht, run_underlying hk, sizeOf, typeInfo, hi, hs.len, h1]
    · have hr := run_append_grow_src (P := P) w t tx ty e i z ht hi hz none 0 0 [] (by simp [Builtin.firstCells]) x m news hs (by omega) (by omega) (growslice_fits (by omega) hbytes)
      have hgr := grown 0 (by omega) (Value.ownBlock (.slice none 0 0))
      simp only [Nat.zero_add, List.nil_append] at hgr hr ⊢
      exact ⟨_, _, hr, hgr.1, hgr.2, by simp [hm]⟩
  · have holds : ∀ j u, xs[j]? = some u → w.cell? ((⟨g, 0, none⟩ : Addr).add j) = some u := hown.cells (g := g) rfl
    by_cases hroom : n + m ≤ cap
    · have hfit : n * i.size + news.length ≤ cur.size := by rw [hl, hcs, ← Nat.add_mul]; exact Nat.mul_le_mul_right _ hroom
      have hr := run_append_room_src (P := P) w t tx ty e i ht hi g 0 n cap x m news hs hroom
        (fun j hj => by simp [World.cell?, hg]; omega) (fun j hj => by simp [World.frozen?, hg])
      obtain ⟨hh, hgr⟩ := setCells_spec g news (0 + n * i.size) w hg (by simpa using hfit)
      refine ⟨_, _, hr, ⟨hlen, .inr ⟨g, cap, _, rfl, hbg, hh, hroom, hcm, ?_, ?_⟩⟩, hgr, by simp⟩
      · simp only [List.size_toArray, List.length_append, List.length_take, List.length_drop, Array.length_toList]
        omega
      · simp only [Nat.zero_add, htake, ← hlen]
        exact List.take_left
    · have hold := run_firstCells_some (P := P) w.drew i.size n ⟨g, 0, none⟩ n cap xs hown.1 (by simpa using holds)
      have hr := run_append_grow_src (P := P) w t tx ty e i z ht hi hz (some ⟨g, 0, none⟩) n cap xs hold x m news hs (by omega) (by omega) (growslice_fits (by omega) hbytes)
      have hgr := grown cap (by omega) (Value.ownBlock (.slice (some ⟨g, 0, none⟩) n cap))
      exact ⟨_, _, hr, hgr.1, hgr.2, by simp⟩

theorem wp_app (E : El P t e size bytes z) {o : Oper} {a : Act} {K : Act → World → Prop} {Q : Exit → Act → World → Prop} {w : World} (s x : Operand) (tx : TypeId)
    (ho : o.op = .call { callee := .builtin .append, args := #[s, x], argTypes := #[t, tx] })
    (base : Nat) (v : Value) (n : Nat) (xs : List Value) (hown : w.ownsRow base e size v n xs) (hs : a.eval s = v)
    (xv : Value) (m : Nat) (news : List Value) (hx : a.eval x = xv) (hsrc : Src P size tx xv m news w)
    (h63 : n + m ≤ maxLen) (hbytes : (n + m) * bytes ≤ 140737488355328) (hbase : base ≤ w.heap.size)
    (h : ∀ v' w', w'.ownsRow base e size v' (n + m) (xs ++ news) → w.grownBy w' v.ownBlock → (v' = .slice none 0 0 ↔ v = .slice none 0 0 ∧ m = 0) → K (a.put o.dst v') w') : o.wp P a w K Q := by
  obtain ⟨v', w', hr, h2, h3, h4⟩ := run_app E base tx o.type v n xs w hown xv m news hsrc h63 hbytes hbase
  unfold Oper.wp execOp
  simp only [ho, resolve, invoke, builtin, Sem.run_bind, Sem.run_pure, Result.andThen_ok, List.map_toArray, List.map_cons, List.map_nil, hs, hx, hr]
  exact h v' w' h2 h3 h4

/-- append of whatever source onto a slice of the call's own. -/
theorem wpList_app (E : El P t e size bytes z) {ops : Array Oper} {rest : List Oper} {o : Oper} {a : Act} {Q : Exit → Act → World → Prop} {w : World} (hgd : o.guard = none) (s x : Operand) (tx : TypeId)
    (ho : o.op = .call { callee := .builtin .append, args := #[s, x], argTypes := #[t, tx] })
    (base : Nat) (v : Value) (n : Nat) (xs : List Value) (hown : w.ownsRow base e size v n xs) (hs : a.eval s = v)
    (xv : Value) (m : Nat) (news : List Value) (hx : a.eval x = xv) (hsrc : Src P size tx xv m news w)
    (h63 : n + m ≤ maxLen) (hbytes : (n + m) * bytes ≤ 140737488355328) (hbase : base ≤ w.heap.size)
    (h : ∀ v' w', w'.ownsRow base e size v' (n + m) (xs ++ news) → w.grownBy w' v.ownBlock → (v' = .slice none 0 0 ↔ v = .slice none 0 0 ∧ m = 0) → wpList P ops Q rest (a.put o.dst v') w') : wpList P ops Q (o :: rest) a w :=
  wpList_plain hgd fun _ hK => wp_app E s x tx ho base v n xs hown hs xv m news hx hsrc h63 hbytes hbase fun v' w' h2 h3 h4 => hK _ _ (h v' w' h2 h3 h4)

/-- append of one new element, whose cells lie in a block just made. -/
theorem wpList_app1 (E : El P t e size bytes z) {ops : Array Oper} {rest : List Oper} {o : Oper} {a : Act} {Q : Exit → Act → World → Prop} {w : World} (hgd : o.guard = none) (s x : Operand)
    (ho : o.op = .call { callee := .builtin .append, args := #[s, x], argTypes := #[t, t] })
    (base : Nat) (v : Value) (n : Nat) (xs : List Value) (news : Array Value) (T : TypeId) (hown : w.ownsRow base e size v n xs) (hs : a.eval s = v)
    (hx : a.eval x = .slice (some ⟨w.heap.size, 0, none⟩) 1 1) (hl : news.size = size) (h1 : ∀ u ∈ news.toList, u.oneCell' = true)
    (hbytes : (n + 1) * bytes ≤ 140737488355328) (h63 : n + 1 ≤ maxLen) (hbase : base ≤ w.heap.size)
    (h : ∀ v' w', w'.ownsRow base e size v' (n + 1) (xs ++ news.toList) → (w.alloc (.cells news T)).grownBy w' v.ownBlock → v' ≠ .slice none 0 0 → wpList P ops Q rest (a.put o.dst v') w') : wpList P ops Q (o :: rest) a (w.alloc (.cells news T)) := by
  refine wpList_app E hgd s x t ho base v n xs (hown.alloc _) hs _ 1 news.toList hx (Src.ofSlice (e' := e) _ E.ht ⟨w.heap.size, 0, none⟩ 1 1 news.toList (by simp [hl]) (fun j u hu => ?_) h1) h63 hbytes (by simp; omega) (fun v' w' h2 h3 h4 => h v' w' h2 h3 (fun hv => by have := h4.1 hv; simp at this))
  have := heap_alloc_new w (.cells news T)
  simp only [World.cell?, Addr.add_lit, this, Nat.zero_add, Option.isSome_none, Bool.false_eq_true, if_false]
  simpa using hu
end

/-- What holds of a slice behind a growth of another block. -/
theorem own_grown {w w' : World} {base : Nat} {e : TypeId} {size : Nat} {v : Value} {n : Nat} {xs : List Value} {row : Option Nat} (h : w.ownsRow base e size v n xs) (hg : w.grownBy w' row) (hne : v.ownBlock = none ∨ v.ownBlock ≠ row) : w'.ownsRow base e size v n xs := h.kept hg hne
theorem own_frm {w w' : World} {base : Nat} {e : TypeId} {size : Nat} {v : Value} {n : Nat} {xs : List Value} {F : List Nat} (h : w.ownsRow base e size v n xs) (hf : Frm F w w') (hne : ∀ g, v.ownBlock = some g → g ∉ F) : w'.ownsRow base e size v n xs := by
  obtain ⟨h1, h2⟩ := h
  refine ⟨h1, ?_⟩
  rcases h2 with h2 | ⟨g, cap, cur, rfl, hg, hh, r⟩
  · exact .inl h2
  · exact .inr ⟨g, cap, cur, rfl, hg, hf.blk hh (hne g rfl), r⟩
theorem own_mono {w : World} {base base' : Nat} {e : TypeId} {size : Nat} {v : Value} {n : Nat} {xs : List Value} (h : w.ownsRow base e size v n xs) (hb : base' ≤ base) : w.ownsRow base' e size v n xs := by
  obtain ⟨h1, h2⟩ := h
  refine ⟨h1, ?_⟩
  rcases h2 with h2 | ⟨g, cap, cur, rfl, hg, r⟩
  · exact .inl h2
  · exact .inr ⟨g, cap, cur, rfl, Nat.le_trans hb hg, r⟩
theorem own_lt {w : World} {base : Nat} {e : TypeId} {size : Nat} {v : Value} {n : Nat} {xs : List Value} (h : w.ownsRow base e size v n xs) {g : Nat} (hg : v.ownBlock = some g) : base ≤ g ∧ g < w.heap.size := h.lt g hg
theorem frm_grown {w0 w w' : World} {F : List Nat} {base : Nat} {e : TypeId} {size : Nat} {v : Value} {n : Nat} {xs : List Value} (h : Frm F w0 w) (hown : w.ownsRow base e size v n xs) (hg : w.grownBy w' v.ownBlock) (hb : w0.heap.size ≤ base) : Frm F w0 w' :=
  h.grown hg fun k hk => .inr (Nat.le_trans hb (own_lt hown hk).1)
theorem frm_grown1 {w0 w w' : World} {F : List Nat} {base : Nat} {e : TypeId} {size : Nat} {v : Value} {n : Nat} {xs : List Value} {o : Obj} (h : Frm F w0 w) (hown : w.ownsRow base e size v n xs) (hg : (w.alloc o).grownBy w' v.ownBlock) (hb : w0.heap.size ≤ base) : Frm F w0 w' :=
  (h.alloc o).grown hg fun k hk => .inr (Nat.le_trans hb (own_lt hown hk).1)

theorem grown_blk {w w' : World} {row : Option Nat} (hg : w.grownBy w' row) {k : Nat} {o : Obj} (hb : w.heap[k]? = some o) (hne : row ≠ some k) : w'.heap[k]? = some o :=
  (hg.block k (lt_of_block hb) (fun e => hne e.symm)).trans hb
/-- A block that lies below what is owned is as it was behind an append. -/
theorem grown_blk1 {w w' : World} {base : Nat} {e : TypeId} {size : Nat} {v : Value} {n : Nat} {xs : List Value} {x : Obj} (hown : w.ownsRow base e size v n xs) (hg : (w.alloc x).grownBy w' v.ownBlock) {k : Nat} {o : Obj} (hb : w.heap[k]? = some o) (hk : k < base) : w'.heap[k]? = some o :=
  grown_blk hg (heap_alloc _ hb) (fun e => by have := (own_lt hown e).1; omega)

/-- A slice of bytes of the call's own. -/
def SB (base : Nat) (w : World) (v : Value) (l : Bytes) : Prop := w.ownsRow base 5 1 v l.length (l.map u8)

theorem SB_snoc {base : Nat} {w : World} {v : Value} {l : Bytes} {c : UInt8} {x : Value} (h : w.ownsRow base 5 1 v (l.length + 1) (l.map u8 ++ #[x].toList)) (hx : x = u8 c) : SB base w v (l ++ [c]) := by
  subst hx; unfold SB; simpa using h
theorem SB_app {base : Nat} {w : World} {v : Value} {l m : Bytes} (h : w.ownsRow base 5 1 v (l.length + m.length) (l.map u8 ++ m.map u8)) : SB base w v (l ++ m) := by
  unfold SB; simpa using h
theorem byteCells_ba (s : Bytes) : byteCells (ba s) = s.map u8 := by simp [byteCells]

/-- copy of a slice of bytes onto the first cells of a block just made. -/
theorem wpList_copyB {P : Program} {t : TypeId} (E : El P t 5 1 1 (.int .u8 0)) {ops : Array Oper} {rest : List Oper} {o : Oper} {a : Act} {Q : Exit → Act → World → Prop} {w : World} (hgd : o.guard = none) (d s : Operand)
    (ho : o.op = .call { callee := .builtin .copy, args := #[d, s], argTypes := #[t, t] }) (base base' g cap : Nat) (cur : Array Value) (v : Value) (xs : Bytes)
    (hd : a.eval d = .slice (some ⟨g, 0, none⟩) xs.length cap) (hg : w.heap[g]? = some (.cells cur 5 (0, 0))) (hcur : cur.size = cap) (hcap : xs.length ≤ cap) (hm : cap ≤ maxLen)
    (hs : a.eval s = v) (hown : SB base w v xs) (hbg : base' ≤ g)
    (h : ∀ w', SB base' w' (.slice (some ⟨g, 0, none⟩) xs.length cap) xs → w.grownBy w' (some g) → wpList P ops Q rest (a.put o.dst (.int .i64 xs.length)) w') : wpList P ops Q (o :: rest) a w := by
  obtain ⟨ht, ⟨i, hi, hz, hsz, hby⟩, hzs, hpos⟩ := E
  obtain ⟨sp, sl, sc, rfl⟩ : ∃ sp sl sc, v = .slice sp sl sc := by
    rcases hown.2 with ⟨rfl, _⟩ | ⟨_, _, _, rfl, _⟩ <;> exact ⟨_, _, _, rfl⟩
  have hsl : sl = xs.length := by
    rcases hown.2 with ⟨h1, h2⟩ | ⟨_, _, _, h1, _⟩
    · injection h1 with _ h3 _; omega
    · injection h1
  subst hsl
  have hlen : ∀ j u, (xs.map u8)[j]? = some u → j < xs.length := fun j u hu => by
    have := (List.getElem?_eq_some_iff.1 hu).1; simpa using this
  have hfin : ∀ w', w'.heap[g]? = some (.cells (splice cur.toList 0 (xs.map u8)).toArray 5 (0, 0)) → SB base' w' (.slice (some ⟨g, 0, none⟩) xs.length cap) xs := fun w' hw' =>
    ⟨by simp, .inr ⟨g, cap, _, rfl, hbg, hw', hcap, hm, by simp [splice]; omega, by simp [splice]⟩⟩
  have hsz1 : (P.info? 5).map (·.size) = some 1 := by simp [hi, hsz]
  by_cases h0 : xs.length = 0
  · have hxs : xs = [] := List.eq_nil_of_length_eq_zero h0
    subst hxs
    exact wpList_copy_nothing hgd d s t t ho 5 ht hsz1 (some ⟨g, 0, none⟩) sp 0 cap 0 sc hd hs (by simp) (h w (hfin w (by simpa [splice] using hg)) ⟨rfl, rfl, rfl, Nat.le_refl _, fun _ _ _ => rfl⟩)
  · obtain ⟨g2, rfl⟩ : ∃ g2, sp = some ⟨g2, 0, none⟩ := by
      rcases hown.2 with ⟨_, h2⟩ | ⟨g2, _, _, h1, _⟩
      · exact absurd h2 h0
      · injection h1 with h1; exact ⟨g2, h1⟩
    have hc := World.ownsRow.cells hown (g := g2) rfl
    refine wpList_copy_own hgd d s t t ho 5 ht hsz1 g 0 xs.length cap ⟨g2, 0, none⟩ xs.length sc hd hs cur 5 hg (xs.map u8) (by simp) hc (by simp; omega) (fun u hu => ?_) ?_
    · obtain ⟨_, _, rfl⟩ := List.mem_map.1 hu
      rfl
    · have := h (w.setRow g (splice cur.toList 0 (xs.map u8)).toArray) (hfin _ (setRow_heap w g cur _ 5 _ hg)) ⟨rfl, rfl, rfl, by simp [World.setRow], fun k _ hk => setRow_other w g k _ (fun e => hk (by rw [e]))⟩
      simpa [splice, goInt] using this
end Go.Proofs.YtlopfabbjilpnaaGreatDoor
