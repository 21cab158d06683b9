/- Small laws of this family's own: texts as lists of bytes, blocks of the heap known whole, what a call leaves as it was. -/
import Derived.WalkKit
import Derived.Lib.Hide
set_option linter.unusedSimpArgs false
set_option linter.unusedVariables false
namespace Go.Proofs.YtlopfabbjilpnaaGreatDoor
open Go.RowKit

abbrev Bytes := List UInt8
/-- A text as Go has it, of its bytes. -/
@[irreducible] def ba (l : Bytes) : ByteArray := ⟨l.toArray⟩
/-- A byte as a value. -/
abbrev u8 (c : UInt8) : Value := .int .u8 c.toNat

theorem mk_toArray (l : Bytes) : ByteArray.mk l.toArray = ba l := by unfold ba; rfl
theorem ba_mk (l : Bytes) : ba l = ⟨l.toArray⟩ := by unfold ba; rfl
theorem ba_nil : ba [] = ⟨#[]⟩ := by unfold ba; rfl
@[simp] theorem ba_toList (l : Bytes) : (ba l).data.toList = l := by rw [ba_mk]
theorem ba_surj (s : ByteArray) : ∃ l, s = ba l := ⟨s.data.toList, by rw [ba_mk]⟩
@[simp] theorem ba_inj {l m : Bytes} : ba l = ba m ↔ l = m := ⟨fun h => by rw [← ba_toList l, h, ba_toList], fun h => by rw [h]⟩
@[simp] theorem ba_size (l : Bytes) : (ba l).size = l.length := by rw [ba_mk]; rfl
theorem ba_eta (s : ByteArray) : ba s.data.toList = s := by rw [ba_mk]
theorem ba_extract (l : Bytes) (i j : Nat) : (ba l).extract i j = ba ((l.take j).drop i) := by
  rw [← ba_eta ((ba l).extract i j)]; congr 1
  rw [ByteArray.data_extract, ba_mk]
  simp [List.extract_eq_take_drop, List.drop_take]
theorem ba_append (l m : Bytes) : ba l ++ ba m = ba (l ++ m) := by
  rw [← ba_eta (ba l ++ ba m)]; congr 1
  rw [ByteArray.data_append, ba_mk, ba_mk]; simp
theorem ba_get (l : Bytes) (i : Nat) (h : i < (ba l).size) : (ba l)[i] = l[i]'(by simpa using h) := by
  have h2 : ∀ (s : ByteArray) (h : i < s.size) (h3 : i < s.data.toList.length), s[i] = s.data.toList[i] := fun s h h3 => rfl
  rw [h2 (ba l) h (by simpa using h)]
  simp

theorem ret_int {k : IntKind} {a b : Int} (h : a = b) : Ending.returned (.int k a) = .returned (.int k b) := by rw [h]

/-- What a call may turn are the blocks of the list alone, and new ones. -/
structure Frm (F : List Nat) (w w' : World) : Prop where
  os : w'.os = w.os
  tape : w'.tape = w.tape
  output : w'.output = w.output
  size : w.heap.size ≤ w'.heap.size
  block : ∀ k, k < w.heap.size → k ∉ F → w'.heap[k]? = w.heap[k]?

namespace Frm
variable {F G : List Nat} {a b c w w' : World}
theorem refl (F : List Nat) (w : World) : Frm F w w := ⟨rfl, rfl, rfl, Nat.le_refl _, fun _ _ _ => rfl⟩
theorem trans' (h : Frm F a b) (k : Frm G b c) (hG : ∀ x ∈ G, x ∈ F ∨ a.heap.size ≤ x) : Frm F a c :=
  ⟨k.os.trans h.os, k.tape.trans h.tape, k.output.trans h.output, Nat.le_trans h.size k.size, fun i hi hn =>
    (k.block i (Nat.lt_of_lt_of_le hi h.size) (fun hm => by rcases hG i hm with h1 | h1; exact hn h1; omega)).trans (h.block i hi hn)⟩
theorem trans (h : Frm F a b) (k : Frm F b c) : Frm F a c := h.trans' k fun _ hx => .inl hx
theorem mono (h : Frm F w w') (hF : ∀ x ∈ F, x ∈ G ∨ w.heap.size ≤ x) : Frm G w w' :=
  ⟨h.os, h.tape, h.output, h.size, fun k hk hn => h.block k hk (fun hm => by rcases hF k hm with h1 | h1; exact hn h1; omega)⟩
theorem nil (h : Frm [] w w') : Frm F w w' := h.mono (fun _ hx => by cases hx)
theorem below (h : Frm [] w w') : Below w.heap.size w w' := ⟨h.os, h.tape, h.output, h.size, fun k hk => h.block k hk (by simp)⟩
theorem of_below (h : Below w.heap.size w w') : Frm F w w' := ⟨h.os, h.tape, h.output, h.size, fun k hk _ => h.block k hk⟩
theorem blk (h : Frm F w w') {k : Nat} {o : Obj} (hb : w.heap[k]? = some o) (hk : k ∉ F) : w'.heap[k]? = some o :=
  (h.block k (lt_of_block hb) hk).trans hb
theorem drew (h : Frm F w w') : Frm F w w'.drew := ⟨h.os, h.tape, h.output, h.size, h.block⟩
theorem alloc (h : Frm F w w') (o : Obj) : Frm F w (w'.alloc o) :=
  h.trans' (G := []) ⟨rfl, rfl, rfl, by simp, fun k hk _ => Below.heap_alloc _ _ _ hk⟩ (fun _ hx => by cases hx)
theorem setCell (h : Frm F w w') {p : Addr} (hp : p.block ∈ F ∨ w.heap.size ≤ p.block) (u : Value) : Frm F w (w'.setCell p u) :=
  h.trans' (G := [p.block]) ⟨rfl, rfl, rfl, by simp [World.setCell], fun k _ hn => Below.heap_setCell _ _ _ _ (by simpa using hn)⟩ (fun x hx => by simp at hx; subst hx; exact hp)
theorem grown (h : Frm F w w') {w'' : World} {row : Option Nat} (hg : w'.grownBy w'' row) (hr : ∀ k, row = some k → k ∈ F ∨ w.heap.size ≤ k) : Frm F w w'' :=
  h.trans' (G := row.toList) ⟨hg.os, hg.tape, hg.output, hg.size, fun k hk hn => hg.block k hk (fun e => hn (by rw [← e]; simp))⟩ (fun x hx => hr x (by cases row <;> simp_all))
end Frm

/-- A cell of a block that is known whole. -/
theorem cell?_heap (w : World) (b i : Nat) : w.cell? ⟨b, i, none⟩ = match w.heap[b]? with | some (.cells c _ _) => c[i]? | _ => none := rfl
theorem frozen?_heap (w : World) (b i : Nat) : w.frozen? ⟨b, i, none⟩ = match w.heap[b]? with | some (.cells _ _ (lo, hi)) => (decide (lo ≤ i) && decide (i < hi)) | _ => false := by
  unfold World.frozen?; rcases h : w.heap[b]? with _ | (_ | _) <;> simp_all
theorem heap_setCell {w : World} {b i : Nat} {c : Array Value} {T : TypeId} {f : Nat × Nat} (v : Value) (h : w.heap[b]? = some (.cells c T f)) :
    (w.setCell ⟨b, i, none⟩ v).heap[b]? = some (.cells (c.setIfInBounds i v) T f) := by
  have hlt := lt_of_block h
  have h' : w.heap[b] = .cells c T f := by simpa [Array.getElem?_eq_getElem hlt] using h
  show (w.heap.modify b _)[b]? = _
  rw [Array.getElem?_eq_getElem (by simpa using hlt), Array.getElem_modify_self, h']
  rfl
theorem heap_setCell_ne {w : World} {a : Addr} {k : Nat} {o : Option Obj} (v : Value) (h : w.heap[k]? = o) (hk : k ≠ a.block) : (w.setCell a v).heap[k]? = o :=
  (Below.heap_setCell w a v k hk).trans h
/-- The same as rules of the walk. -/
theorem heap_new {w : World} {k : Nat} (o : Obj) (hk : k = w.heap.size) : (w.alloc o).heap[k]? = some o := by subst hk; exact heap_alloc_new w o
theorem heap_old {w : World} {k : Nat} (o : Obj) (hk : (w.heap[k]?).isSome = true) : (w.alloc o).heap[k]? = w.heap[k]? := by
  obtain ⟨x, hx⟩ := Option.isSome_iff_exists.1 hk
  exact Below.heap_alloc w o k (lt_of_block hx)
theorem heap_old3 {w : World} {k : Nat} (o1 o2 o3 : Obj) (hk : (w.heap[k]?).isSome = true) : (((w.alloc o1).alloc o2).alloc o3).heap[k]? = w.heap[k]? := by
  have h1 := heap_old o1 hk
  have h2 := heap_old (w := w.alloc o1) o2 (by rw [h1]; exact hk)
  rw [heap_old (w := (w.alloc o1).alloc o2) o3 (by rw [h2, h1]; exact hk), h2, h1]
theorem heap_old4 {w : World} {k : Nat} (o1 o2 o3 o4 : Obj) (hk : (w.heap[k]?).isSome = true) : ((((w.alloc o1).alloc o2).alloc o3).alloc o4).heap[k]? = w.heap[k]? := by
  have h3 := heap_old3 o1 o2 o3 hk
  rw [heap_old (w := ((w.alloc o1).alloc o2).alloc o3) o4 (by rw [h3]; exact hk), h3]
theorem heap_old5 {w : World} {k : Nat} (o1 o2 o3 o4 o5 : Obj) (hk : (w.heap[k]?).isSome = true) : (((((w.alloc o1).alloc o2).alloc o3).alloc o4).alloc o5).heap[k]? = w.heap[k]? := by
  have h3 := heap_old4 o1 o2 o3 o4 hk
  rw [heap_old (w := (((w.alloc o1).alloc o2).alloc o3).alloc o4) o5 (by rw [h3]; exact hk), h3]
theorem heap_drew (w : World) (k : Nat) : w.drew.heap[k]? = w.heap[k]? := rfl
theorem heap_set_ne {w : World} {a : Addr} {k : Nat} (v : Value) (hk : (k = a.block) = False) : (w.setCell a v).heap[k]? = w.heap[k]? := Below.heap_setCell w a v k (by simp [hk])
def updObj (i : Nat) (v : Value) : Obj → Obj
  | .cells c e f => .cells (c.setIfInBounds i v) e f
  | o => o
theorem updObj_cells (i : Nat) (v : Value) (c : Array Value) (e : TypeId) (f : Nat × Nat) : updObj i v (.cells c e f) = .cells (c.setIfInBounds i v) e f := rfl
theorem heap_set_same (w : World) (b i : Nat) (v : Value) : (w.setCell ⟨b, i, none⟩ v).heap[b]? = (w.heap[b]?).map (updObj i v) := by
  rcases h : w.heap[b]? with _ | o
  · show (w.heap.modify b _)[b]? = _
    rw [Array.getElem?_eq_none]
    · rfl
    · rw [Array.size_modify]; exact Array.getElem?_eq_none_iff.1 h
  · have hlt := lt_of_block h
    have h' : w.heap[b] = o := by simpa [Array.getElem?_eq_getElem hlt] using h
    show (w.heap.modify b _)[b]? = _
    rw [Array.getElem?_eq_getElem (by simpa using hlt), Array.getElem_modify_self, h']
    cases o <;> rfl
theorem set_1 {α : Type} (a b x : α) (l : List α) : (a :: b :: l).set 1 x = a :: x :: l := rfl
theorem set_2 {α : Type} (a b c x : α) (l : List α) : (a :: b :: c :: l).set 2 x = a :: b :: x :: l := rfl
theorem set_3 {α : Type} (a b c d x : α) (l : List α) : (a :: b :: c :: d :: l).set 3 x = a :: b :: c :: x :: l := rfl
/-- What lies below a number is none that begins there. -/
theorem old_ne {b n : Nat} (h : b < n) : (b = n) = False ∧ (n = b) = False ∧ (∀ k, (b = n + k) = False) ∧ (∀ k, (n + k = b) = False) :=
  ⟨by simp; omega, by simp; omega, fun k => by simp; omega, fun k => by simp; omega⟩
theorem heap_alloc {w : World} {k : Nat} {x : Obj} (o : Obj) (h : w.heap[k]? = some x) : (w.alloc o).heap[k]? = some x :=
  (Below.heap_alloc w o k (lt_of_block h)).trans h
theorem u8_ofNat (n : Nat) (h : n < 256) : u8 (UInt8.ofNat n) = .int .u8 (n : Int) := by
  have : (UInt8.ofNat n).toNat = n := by simp; omega
  simp only [u8, this]
theorem u8_mod (n : Nat) : u8 (UInt8.ofNat n) = .int .u8 (((n % 256 : Nat)) : Int) := by
  have : (UInt8.ofNat n).toNat = n % 256 := by simp
  simp only [u8, this]
theorem byte_at (n j : Nat) : Value.int .u8 ((n : Int) / 2 ^ (8 * j) % 256) = u8 (UInt8.ofNat (n / 256 ^ j)) := by
  rw [u8_mod, show (256 : Nat) ^ j = 2 ^ (8 * j) by rw [Nat.pow_mul], Int.natCast_emod, Int.natCast_ediv, Int.natCast_pow]
  rfl
theorem int_ne {a b : Int} (h : a ≠ b) : (a == b) = false := beq_eq_false_iff_ne.2 h
theorem int_eq {a b : Int} (h : a = b) : (a == b) = true := beq_iff_eq.2 h
theorem dec_no {p : Prop} [Decidable p] (h : ¬ p) : decide p = false := decide_eq_false_iff_not.2 h
theorem dec_yes {p : Prop} [Decidable p] (h : p) : decide p = true := decide_eq_true_iff.2 h
theorem u64w (n : Nat) (h : n < 18446744073709551616) : IntKind.u64.wrap (n : Int) = n := by
  simp only [IntKind.wrap, IntKind.bits, IntKind.signed, Bool.false_and]
  show (n : Int) % 18446744073709551616 = n
  omega
theorem or_mul256 (x c : Nat) (hc : c < 256) : x * 256 ||| c = x * 256 + c := by
  have := Nat.shiftLeft_add_eq_or_of_lt (i := 8) (b := c) (by simpa using hc) x
  rw [Nat.shiftLeft_eq] at this
  simpa using this.symm
theorem or_byte {x c : Nat} (hc : c < 256) (h : x * 256 + c < 18446744073709551616) :
    bits .or .u64 (IntKind.u64.wrap ((x : Int) * 256)) (IntKind.u64.wrap (c : Int)) = ((x * 256 + c : Nat) : Int) := by
  have e : ((x : Int) * 256) = ((x * 256 : Nat) : Int) := by omega
  have h1 : x * 256 < 18446744073709551616 := Nat.lt_of_le_of_lt (Nat.le_add_right _ _) h
  have h2 : c < 18446744073709551616 := Nat.lt_trans hc (by decide)
  have h3 := u64_or_nat (x * 256) c h1 h2
  rw [or_mul256 _ _ hc] at h3
  rw [e, u64w _ h1, u64w _ h2]
  exact h3
attribute [go_sem] mk_toArray ba_size ba_extract ba_append ba_get updObj_cells set_1 set_2 set_3
attribute [go_sem ↓] heap_new heap_old heap_old3 heap_old4 heap_old5 heap_drew heap_set_ne heap_set_same
attribute [go_sem low] cell?_heap frozen?_heap
end Go.Proofs.YtlopfabbjilpnaaGreatDoor
