/- Maps known whole: what a look-up, a store, a removal makes of them. -/
import Derived.Test.YtlopfabbjilpnaaGreatDoorRange
import Derived.MapKept
import Derived.Deep.Quiet
import Derived.Maps.OwnSet
set_option linter.unusedSimpArgs false
set_option linter.unusedVariables false
namespace Go.Proofs.YtlopfabbjilpnaaGreatDoor
open Go.RowKit Go.MapKept

structure KeyK (P : Program) (kt : TypeId) {K : Type} (enc : K → Value) : Prop where
  ty : ∃ d, P.underlying kt = some d ∧ ∀ a, IsKey d (enc a)
  inj : ∀ a b, enc a = enc b → a = b
  bits : ∀ a, Instr.sameBits 10000 (enc a) (enc a) = true

theorem nodup_of_map {α β : Type} (f : α → β) {l : List α} (h : (l.map f).Nodup) : l.Nodup := by
  refine List.Pairwise.imp ?_ (List.pairwise_map.1 h)
  intro a b hab e
  exact hab (by rw [e])
section
variable {K : Type}
/-- A map's entries: these keys, with these values, in the order in which they came. -/
structure Ents (enc : K → Value) (es : Array MapEntry) (clk : Nat) (L : List (K × Value)) : Prop where
  stamped : Stamped es clk
  kv : es.toList.map (fun e => (e.key, e.val)) = L.map (fun x => (enc x.1, x.2))

variable {P : Program} {kt : TypeId} {enc : K → Value} {es : Array MapEntry} {clk : Nat} {L : List (K × Value)}

theorem Ents.keys (h : Ents enc es clk L) : es.toList.map (·.key) = L.map (fun x => enc x.1) := by
  have := congrArg (List.map (·.1)) h.kv
  simpa [List.map_map, Function.comp_def] using this
theorem Ents.size (h : Ents enc es clk L) : es.size = L.length := by
  have := congrArg List.length h.kv
  simpa using this
theorem Ents.at (h : Ents enc es clk L) {j : Nat} {e : MapEntry} (hj : es.toList[j]? = some e) : ∃ x, L[j]? = some x ∧ e.key = enc x.1 ∧ e.val = x.2 := by
  have := congrArg (fun l => l[j]?) h.kv
  simp only [List.getElem?_map, hj, Option.map_some] at this
  cases hx : L[j]? with
  | none => simp [hx] at this
  | some x => simp [hx] at this; exact ⟨x, rfl, this.1, this.2⟩
theorem Ents.isKey (h : Ents enc es clk L) {d : TypeDesc} (hd : ∀ a, IsKey d (enc a)) : ∀ e ∈ es.toList, IsKey d e.key := fun e he => by
  obtain ⟨j, hj⟩ := List.mem_iff_getElem?.1 he
  obtain ⟨x, _, h1, _⟩ := h.at hj
  rw [h1]; exact hd _
theorem Ents.nodup (h : Ents enc es clk L) : (L.map (fun x => enc x.1)).Nodup := by rw [← h.keys]; exact h.stamped.2.2
theorem Ents.nodup' (h : Ents enc es clk L) : (L.map (·.1)).Nodup := by
  have := h.nodup
  rw [show (L.map fun x => enc x.1) = (L.map (·.1)).map enc by simp] at this
  exact nodup_of_map enc this

end
section
variable {K : Type} [DecidableEq K]
def look (L : List (K × Value)) (k : K) : Option Value := (L.find? fun x => decide (x.1 = k)).map (·.2)
def putL (L : List (K × Value)) (k : K) (v : Value) : List (K × Value) := L.map fun x => if x.1 = k then (k, v) else x
def delL (L : List (K × Value)) (k : K) : List (K × Value) := L.filter fun x => decide (x.1 ≠ k)

variable {P : Program} {kt : TypeId} {enc : K → Value} {es : Array MapEntry} {clk : Nat} {L : List (K × Value)}
theorem look_at {L : List (K × Value)} (hn : (L.map (·.1)).Nodup) {j : Nat} {x : K × Value} (hj : L[j]? = some x) : look L x.1 = some x.2 := by
  induction L generalizing j with
  | nil => simp at hj
  | cons y L ih =>
    simp only [List.map_cons, List.nodup_cons] at hn
    cases j with
    | zero => simp at hj; subst hj; simp [look]
    | succ j =>
      simp at hj
      have hm : x.1 ∈ L.map (·.1) := List.mem_map.2 ⟨x, List.mem_iff_getElem?.2 ⟨j, hj⟩, rfl⟩
      have hne : y.1 ≠ x.1 := fun e => hn.1 (e ▸ hm)
      simp only [look, List.find?_cons, hne, decide_false]
      exact ih hn.2 hj
theorem look_none {L : List (K × Value)} {k : K} (h : ∀ x ∈ L, x.1 ≠ k) : look L k = none := by
  unfold look
  rw [List.find?_eq_none.2 (fun x hx => by simpa using h x hx)]
  rfl
theorem look_some {L : List (K × Value)} {k : K} {v : Value} (h : look L k = some v) : ∃ x ∈ L, x.1 = k ∧ x.2 = v := by
  unfold look at h
  obtain ⟨x, hx, rfl⟩ := Option.map_eq_some_iff.1 h
  have h1 := List.find?_some hx
  exact ⟨x, List.mem_of_find?_eq_some hx, by simpa using h1, rfl⟩

/-- What the search in a map finds. -/
theorem find_spec (hk : KeyK P kt enc) {d : TypeDesc} (hd : P.underlying kt = some d) (hE : Ents enc es clk L) (k : K) :
    (look L k = none ∧ Instr.findNow d (enc k) es.toList 0 = some none) ∨
    (∃ j e x, Instr.findNow d (enc k) es.toList 0 = some (some (j, e.val)) ∧ es.toList[j]? = some e ∧ L[j]? = some x ∧ x.1 = k ∧ e.key = enc k ∧ e.val = x.2 ∧ look L k = some x.2) := by
  obtain ⟨d', hd', hkey⟩ := hk.ty
  obtain rfl : d = d' := Option.some.inj (hd.symm.trans hd')
  rcases findNow_spec (hkey k) es.toList 0 (hE.isKey hkey) with ⟨h1, h2⟩ | ⟨j, e, h1, h2, h3⟩
  · refine .inl ⟨look_none fun x hx => ?_, h1⟩
    obtain ⟨j, hj⟩ := List.mem_iff_getElem?.1 hx
    have := congrArg (fun l => l[j]?) hE.kv
    simp only [List.getElem?_map, hj, Option.map_some] at this
    cases he : es.toList[j]? with
    | none => simp [he] at this
    | some e =>
      simp [he] at this
      intro hxk
      exact h2 e (List.mem_iff_getElem?.2 ⟨j, he⟩) (by rw [this.1, hxk])
  · obtain ⟨x, hx1, hx2, hx3⟩ := hE.at h2
    have hxk : x.1 = k := hk.inj _ _ (hx2.symm.trans h3)
    refine .inr ⟨j, e, x, by simpa using h1, h2, hx1, hxk, h3, hx3, ?_⟩
    rw [← hxk]; exact look_at hE.nodup' hx1

theorem look_run (hk : KeyK P kt enc) {T et : TypeId} {z : Value} (hT : P.underlying T = some (.map kt et)) (hz : ∀ W, (zeroValue et).run P W = .ok z W) (hE : Ents enc es clk L) (k : K) (m : Nat) (ok : Bool) (W : World) (hm : W.heap[m]? = some (.map es clk)) :
    (Instr.lookup T (.map (some m)) (enc k) ok).run P W = .ok (if ok then .tuple #[(look L k).getD z, .bool (look L k).isSome] else (look L k).getD z) W := by
  obtain ⟨d, hd, hkey⟩ := hk.ty
  unfold Instr.lookup
  simp only [Sem.run_bind, run_underlying hT, Result.andThen_ok, MapKept.run_getObj_map hm, MapKept.run_checkKey hd (hkey k), Sem.run_pure]
  rcases find_spec hk hd hE k with ⟨h1, h2⟩ | ⟨j, e, x, h1, _, _, _, _, h5, h6⟩
  · rw [MapKept.run_findKey hd h2]
    simp [h1, Result.andThen, hz]
  · rw [MapKept.run_findKey hd h1]
    simp [h6, h5, Result.andThen]

theorem Ents.push (hk : KeyK P kt enc) (hE : Ents enc es clk L) {k : K} (v : Value) (hl : look L k = none) : Ents enc (es.push { key := enc k, val := v, born := clk }) (clk + 1) (L ++ [(k, v)]) := by
  refine ⟨⟨fun x hx => ?_, ?_, ?_⟩, by simp [hE.kv]⟩
  · simp at hx
    rcases hx with hx | rfl
    · have := hE.stamped.1 x (by simpa using hx); omega
    · simp
  · simp only [Array.toList_push, List.map_append, List.map_cons, List.map_nil]
    refine List.nodup_append.2 ⟨hE.stamped.2.1, by simp, ?_⟩
    intro a ha b hb
    simp at hb; subst hb
    obtain ⟨y, hy, rfl⟩ := List.mem_map.1 ha
    have := hE.stamped.1 y hy; omega
  · simp only [Array.toList_push, List.map_append, List.map_cons, List.map_nil]
    refine List.nodup_append.2 ⟨hE.stamped.2.2, by simp, ?_⟩
    intro a ha b hb
    simp at hb; subst hb
    rw [hE.keys] at ha
    obtain ⟨y, hy, rfl⟩ := List.mem_map.1 ha
    intro e
    have hyk := hk.inj _ _ e
    have hls : look L y.1 = some y.2 := by obtain ⟨j, hj⟩ := List.mem_iff_getElem?.1 hy; exact look_at hE.nodup' hj
    rw [hyk, hl] at hls
    cases hls

theorem put_run (hk : KeyK P kt enc) {T et : TypeId} (hT : P.underlying T = some (.map kt et)) (hE : Ents enc es clk L) (k : K) (v : Value) (hl : look L k = none) (m : Nat) (W : World) (hm : W.heap[m]? = some (.map es clk)) :
    (Instr.mapUpdate T (.map (some m)) (enc k) v).run P W = .ok () (W.putObj m (.map (es.push { key := enc k, val := v, born := clk }) (clk + 1))) := by
  obtain ⟨d, hd, hkey⟩ := hk.ty
  unfold Instr.mapUpdate
  simp only [Sem.run_bind, run_underlying hT, Result.andThen_ok, MapKept.run_getObj_map hm, MapKept.run_checkKey hd (hkey k)]
  rcases find_spec hk hd hE k with ⟨_, h2⟩ | ⟨j, e, x, _, _, _, _, _, _, h6⟩
  · rw [MapKept.run_findKey hd h2]
    simp only [Result.andThen_ok, MapKept.run_setObj_map _ hm]
    rfl
  · rw [hl] at h6; cases h6

theorem Ents.set (hk : KeyK P kt enc) (hE : Ents enc es clk L) {k : K} (v : Value) {j : Nat} {e : MapEntry} (hj : es.toList[j]? = some e) (he : e.key = enc k) : Ents enc (es.modify j fun e => { e with key := enc k, val := v }) clk (putL L k v) := by
  have hjl : j < es.size := by have := (List.getElem?_eq_some_iff.1 hj).1; simpa using this
  have hel : (es.modify j fun e => { e with key := enc k, val := v }).toList = es.toList.set j { e with key := enc k, val := v } := by
    rw [Array.toList_modify]
    apply List.ext_getElem?
    intro i
    rw [List.getElem?_modify, List.getElem?_set]
    by_cases hij : j = i
    · subst hij
      have := (List.getElem?_eq_some_iff.1 hj).1
      rw [hj]; simp; simpa using this
    · simp [hij]
  obtain ⟨x, hx, hxk, _⟩ := hE.at hj
  have hxk' : x.1 = k := hk.inj _ _ (hxk.symm.trans he)
  have hput : putL L k v = L.set j (k, v) := by
    apply List.ext_getElem?
    intro i
    simp only [putL, List.getElem?_map, List.getElem?_set]
    by_cases hij : j = i
    · subst hij
      obtain ⟨h1, h2⟩ := List.getElem?_eq_some_iff.1 hx
      simp [h1, h2, hxk']
    · rw [if_neg hij]
      cases hi : L[i]? with
      | none => rfl
      | some y =>
        simp only [Option.map_some, Option.some.injEq]
        rw [if_neg]
        intro hy
        have h1 := hE.nodup'
        have h2 : (L.map (·.1))[i]? = some k := by simp [hi, hy]
        have h3 : (L.map (·.1))[j]? = some k := by simp [hx, hxk']
        exact hij ((List.getElem?_inj (List.getElem?_eq_some_iff.1 h3).1 h1).1 (h3.trans h2.symm))
  have hbs : (es.toList.set j { e with key := enc k, val := v }).map (·.born) = es.toList.map (·.born) := by
    rw [List.map_set]
    apply List.ext_getElem?
    intro i
    rw [List.getElem?_set]
    split
    · rename_i h; subst h; rw [List.getElem?_map, hj]; split <;> simp_all
    · rfl
  have hks : (es.toList.set j { e with key := enc k, val := v }).map (·.key) = es.toList.map (·.key) := by
    rw [List.map_set]
    apply List.ext_getElem?
    intro i
    rw [List.getElem?_set]
    split
    · rename_i h; subst h; rw [List.getElem?_map, hj]; split <;> simp_all
    · rfl
  refine ⟨⟨fun y hy => ?_, by rw [hel, hbs]; exact hE.stamped.2.1, by rw [hel, hks]; exact hE.stamped.2.2⟩, ?_⟩
  · rw [hel] at hy
    have : y.born ∈ es.toList.map (·.born) := by rw [← hbs]; exact List.mem_map.2 ⟨y, hy, rfl⟩
    obtain ⟨y', hy', hyb⟩ := List.mem_map.1 this
    rw [← hyb]; exact hE.stamped.1 y' hy'
  · rw [hel, hput, List.map_set, List.map_set, hE.kv]

theorem set_run (hk : KeyK P kt enc) {T et : TypeId} (hT : P.underlying T = some (.map kt et)) (hE : Ents enc es clk L) (k : K) (v u : Value) (hl : look L k = some u) (m : Nat) :
    ∃ es', Ents enc es' clk (putL L k v) ∧ ∀ W : World, W.heap[m]? = some (.map es clk) → (Instr.mapUpdate T (.map (some m)) (enc k) v).run P W = .ok () (W.putObj m (.map es' clk)) := by
  obtain ⟨d, hd, hkey⟩ := hk.ty
  rcases find_spec hk hd hE k with ⟨h1, _⟩ | ⟨j, e, x, h1, h2, _, _, h4, h5, _⟩
  · rw [hl] at h1; cases h1
  · refine ⟨_, hE.set hk v h2 h4, fun W hm => ?_⟩
    unfold Instr.mapUpdate
    simp only [Sem.run_bind, run_underlying hT, Result.andThen_ok, MapKept.run_getObj_map hm, MapKept.run_checkKey hd (hkey k)]
    rw [MapKept.run_findKey hd h1]
    have he : ((es[j]?).map (·.key)).getD (enc k) = enc k := by
      rw [Array.getElem?_toList] at h2
      simp [h2, h4]
    simp only [Result.andThen_ok, he, Instr.keyThatStays, hk.bits, if_true, Sem.run_bind, Sem.run_pure, MapKept.run_setObj_map _ hm]
    rfl

theorem Ents.del (hk : KeyK P kt enc) (hE : Ents enc es clk L) {k : K} {j : Nat} {e : MapEntry} (hj : es.toList[j]? = some e) (he : e.key = enc k) : Ents enc (es.eraseIdxIfInBounds j) clk (delL L k) := by
  have hjl : j < es.size := by have := (List.getElem?_eq_some_iff.1 hj).1; simpa using this
  have hel : (es.eraseIdxIfInBounds j).toList = es.toList.eraseIdx j := by simp [Array.eraseIdxIfInBounds, hjl]
  obtain ⟨x, hx, hxk, _⟩ := hE.at hj
  have hxk' : x.1 = k := hk.inj _ _ (hxk.symm.trans he)
  have hdel : ∀ (L : List (K × Value)) (j : Nat), (L.map (·.1)).Nodup → (∃ x, L[j]? = some x ∧ x.1 = k) → delL L k = L.eraseIdx j := by
    intro L
    induction L with
    | nil => rintro j _ ⟨x, hx, _⟩; simp at hx
    | cons y L ih =>
      rintro j hn ⟨x, hx, hxk⟩
      simp only [List.map_cons, List.nodup_cons] at hn
      cases j with
      | zero =>
        simp at hx; subst hx
        simp only [delL, List.filter_cons, hxk, ne_eq, not_true_eq_false, decide_false, Bool.false_eq_true, if_false, List.eraseIdx_cons_zero]
        rw [List.filter_eq_self.2]
        intro a ha
        simp only [decide_not, Bool.not_eq_eq_eq_not, Bool.not_true, decide_eq_false_iff_not]
        intro hak
        exact hn.1 (List.mem_map.2 ⟨a, ha, by rw [hak, hxk]⟩)
      | succ j =>
        simp at hx
        have hne : y.1 ≠ k := fun e => hn.1 (List.mem_map.2 ⟨x, List.mem_iff_getElem?.2 ⟨j, hx⟩, by rw [hxk, e]⟩)
        have := ih j hn.2 ⟨x, hx, hxk⟩
        simp only [delL, ne_eq, decide_not] at this
        simp [delL, List.filter_cons, hne, this]
  have hs : (es.toList.eraseIdx j).Sublist es.toList := List.eraseIdx_sublist _ _
  refine ⟨⟨fun y hy => hE.stamped.1 y (hs.subset (by rwa [hel] at hy)), by rw [hel]; exact hE.stamped.2.1.sublist (hs.map _), by rw [hel]; exact hE.stamped.2.2.sublist (hs.map _)⟩, ?_⟩
  rw [hel, hdel L j hE.nodup' ⟨x, hx, hxk'⟩, List.eraseIdx_eq_take_drop_succ, List.eraseIdx_eq_take_drop_succ, List.map_append, List.map_append, List.map_take, List.map_drop, List.map_take, List.map_drop, hE.kv]

theorem del_run (hk : KeyK P kt enc) {T et : TypeId} (hT : P.underlying T = some (.map kt et)) (hE : Ents enc es clk L) (k : K) (u : Value) (hl : look L k = some u) (m : Nat) :
    ∃ es', Ents enc es' clk (delL L k) ∧ ∀ (ty kt2 : TypeId) (W : World), W.heap[m]? = some (.map es clk) → (Builtin.delete_ #[T, kt2] ty #[.map (some m), enc k]).run P W = .ok (.tuple #[]) (W.putObj m (.map es' clk)) := by
  obtain ⟨d, hd, hkey⟩ := hk.ty
  rcases find_spec hk hd hE k with ⟨h1, _⟩ | ⟨j, e, x, h1, h2, _, _, h4, h5, _⟩
  · rw [hl] at h1; cases h1
  · refine ⟨_, hE.del hk h2 h4, fun ty kt2 W hm => ?_⟩
    simp [Builtin.delete_, run_underlying hT, Result.andThen, MapKept.run_getObj_map hm, MapKept.run_checkKey hd (hkey k), MapKept.run_findKey hd h1, MapKept.run_setObj_map _ hm]
    rfl
end
theorem len_run {P : Program} {T kt et ty : TypeId} (hT : P.underlying T = some (.map kt et)) {m : Nat} {es : Array MapEntry} {clk : Nat} (W : World) (hm : W.heap[m]? = some (.map es clk)) :
    (Builtin.len_ #[T] ty #[.map (some m)]).run P W = .ok (.int .i64 es.size) W := by
  simp [Builtin.len_, run_underlying hT, Result.andThen, MapKept.run_getObj_map hm]
  rfl
theorem heap_put_ne {w : World} {k m : Nat} (o : Obj) (hk : (k = m) = False) : (w.putObj m o).heap[k]? = w.heap[k]? := World.putObj_heap_other (by simpa using hk)
theorem heap_put_same {w : World} {m : Nat} (o : Obj) (hm : (w.heap[m]?).isSome = true) : (w.putObj m o).heap[m]? = some o := by
  obtain ⟨x, hx⟩ := Option.isSome_iff_exists.1 hm
  exact World.putObj_heap_same (lt_of_block hx)
theorem drewN_heap (w : World) : ∀ n : Nat, (w.drewN n).heap = w.heap := fun _ => rfl
theorem heap_drewN (w : World) (n k : Nat) : (w.drewN n).heap[k]? = w.heap[k]? := rfl
theorem Frm.drewN {F : List Nat} {w w' : World} (h : Frm F w w') (n : Nat) : Frm F w (w'.drewN n) := ⟨h.os, h.tape, h.output, h.size, h.block⟩
theorem size_put (w : World) (m : Nat) (o : Obj) : (w.putObj m o).heap.size = w.heap.size := by simp [World.putObj]
theorem Frm.put {F : List Nat} {w w' : World} (h : Frm F w w') {m : Nat} (o : Obj) (hm : m ∈ F ∨ w.heap.size ≤ m) : Frm F w (w'.putObj m o) :=
  h.trans' (frm_putObj w' m o) (fun x hx => by simp at hx; subst hx; exact hm)
attribute [go_sem ↓] heap_drewN heap_put_ne heap_put_same
/-- (Proved so that simp keeps the proof: a side condition that it settles by 'rfl' alone it then can't use.) -/
theorem size_drewN (w : World) (n : Nat) : (w.drewN n).heap.size = w.heap.size := Eq.trans (b := w.heap.size) rfl rfl
theorem size_drew (w : World) : w.drew.heap.size = w.heap.size := Eq.trans (b := w.heap.size) rfl rfl
attribute [go_sem ↓, simp ↓] size_drewN size_drew
attribute [go_sem, simp] size_put
end Go.Proofs.YtlopfabbjilpnaaGreatDoor
