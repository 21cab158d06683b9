/- Package disk: Crash: what it leaves of the files. -/
import Derived.Test.YtlopfabbjilpnaaGreatDoorDiskJ
set_option linter.unusedSimpArgs false
set_option linter.unusedVariables false
namespace Go.Proofs.YtlopfabbjilpnaaGreatDoor
open Go.RowKit Go.MapKept

/-- How many bytes that are not synced stay of a file; of how many is left (none: of all). -/
def stayF (left : Option Nat) (f : AFile) : Nat := match left with | none => f.bytes.length - f.synced | some k => min (f.bytes.length - f.synced) k
def crashF (left : Option Nat) (f : AFile) : AFile := { f with bytes := f.bytes.take (f.synced + stayF left f) }
def leftF (left : Option Nat) (f : AFile) : Option Nat := left.map (· - stayF left f)
def crashL : Option Nat → List AFile → List AFile
  | _, [] => []
  | left, f :: l => crashF left f :: crashL (leftF left f) l
def leftL : Option Nat → List AFile → Option Nat
  | left, [] => left
  | left, f :: l => leftL (leftF left f) l
def keepO (keep : Int) : Option Nat := if keep < 0 then none else some keep.toNat
def crashed (D : ADisk) (keep : Int) : ADisk := { files := crashL (keepO keep) D.files, room := D.room + (sumB D.files - sumB (crashL (keepO keep) D.files)), fuse := -1, dead := true }
def crashD (D : ADisk) (keep : Int) : Int × ADisk := if D.dead then (8, D) else (0, crashed D keep)

theorem crashL_snoc : ∀ (left : Option Nat) (l : List AFile) (f : AFile), crashL left (l ++ [f]) = crashL left l ++ [crashF (leftL left l) f]
  | left, [], f => rfl
  | left, g :: l, f => by
    show crashF left g :: crashL (leftF left g) (l ++ [f]) = _
    rw [crashL_snoc]; rfl
theorem leftL_snoc : ∀ (left : Option Nat) (l : List AFile) (f : AFile), leftL left (l ++ [f]) = leftF (leftL left l) f
  | left, [], f => rfl
  | left, g :: l, f => leftL_snoc (leftF left g) l f
theorem crashL_append : ∀ (left : Option Nat) (l m : List AFile), crashL left (l ++ m) = crashL left l ++ crashL (leftL left l) m
  | left, [], m => rfl
  | left, g :: l, m => by
    show crashF left g :: crashL (leftF left g) (l ++ m) = _
    rw [crashL_append]; rfl
theorem crashL_len : ∀ (left : Option Nat) (l : List AFile), (crashL left l).length = l.length
  | _, [] => rfl
  | left, f :: l => by simp [crashL, crashL_len]
theorem crashL_names : ∀ (left : Option Nat) (l : List AFile), (crashL left l).map (·.name) = l.map (·.name)
  | _, [] => rfl
  | left, f :: l => by simp only [crashL, List.map_cons, crashL_names]; rfl
theorem stayF_le (left : Option Nat) (f : AFile) : stayF left f ≤ f.bytes.length - f.synced := by
  unfold stayF; split
  · exact Nat.le_refl _
  · exact Nat.min_le_left _ _
theorem crashF_len (left : Option Nat) (f : AFile) (h : f.synced ≤ f.bytes.length) : (crashF left f).bytes.length = f.synced + stayF left f := by
  have := stayF_le left f
  simp [crashF]; omega
theorem sumB_cons (f : AFile) (l : List AFile) : sumB (f :: l) = f.bytes.length + sumB l := by simp [sumB]
theorem sumB_append (l m : List AFile) : sumB (l ++ m) = sumB l + sumB m := by simp [sumB]
theorem crashL_sum : ∀ (left : Option Nat) (l : List AFile), sumB (crashL left l) ≤ sumB l
  | _, [] => Nat.le_refl _
  | left, f :: l => by
    have h1 := crashL_sum (leftF left f) l
    rw [crashL, sumB_cons, sumB_cons]
    have : (crashF left f).bytes.length ≤ f.bytes.length := by simp [crashF]; omega
    omega

theorem DiskIs.redo {w w' : World} {b m : Nat} {es : Array MapEntry} {clk : Nat} {L : LF} {D : ADisk} (h : DiskIs w b m es clk L D) (g : AFile → AFile) (hn : ∀ f, (g f).name = f.name) (D' : ADisk) (hfl : D'.files = D.files.map g)
    (ho : w'.heap[b]? = some (.cells #[.map (some m), .int .i64 D'.room, .int .i64 D'.fuse, .bool D'.dead] 85 (0, 0))) (hm : w'.heap[m]? = some (.map es clk))
    (hc : ∀ x ∈ L, w'.heap[x.2]? = some (.cells #[sv (g x.1).bytes, .int .i64 (g x.1).synced] 103 (0, 0))) : DiskIs w' b m es clk (L.map fun x => (g x.1, x.2)) D' := by
  refine ⟨ho, hm, ?_, ?_, ?_, ?_, ?_⟩
  · have : kvOf (L.map fun x => (g x.1, x.2)) = kvOf L := by
      unfold kvOf
      rw [List.map_map]
      exact List.map_congr_left fun x _ => by simp [hn]
    rw [this]; exact h.ents
  · intro x hx
    obtain ⟨y, hy, rfl⟩ := List.mem_map.1 hx
    exact hc y hy
  · have : (L.map fun x => (g x.1, x.2)).map (·.2) = L.map (·.2) := by rw [List.map_map]; rfl
    rw [this]; exact h.nodup
  · rw [hfl, List.map_map]
    have : ((L.map fun x => ((fun x => x.1) ∘ fun x : AFile × Nat => (g x.1, x.2)) x)) = (L.map (·.1)).map g := by rw [List.map_map]; rfl
    exact this ▸ h.perm.map g
  · rw [hfl]
    unfold Sorted
    rw [List.pairwise_map]
    exact h.sorted.imp fun {a c} hab => by rw [hn, hn]; exact hab

/-- A row of files made anew, each by its name. -/
def byName (C : List AFile) (f : AFile) : AFile := (getF C f.name).getD f
theorem byName_name (C : List AFile) (f : AFile) : (byName C f).name = f.name := by
  unfold byName
  cases h : getF C f.name with
  | none => rfl
  | some g => exact (getF_mem h).2
theorem byName_at {l C : List AFile} (hs : Sorted l) (hn : C.map (·.name) = l.map (·.name)) {i : Nat} {f : AFile} (hf : l[i]? = some f) : C[i]? = some (byName C f) := by
  have hlen : C.length = l.length := by simpa using congrArg List.length hn
  have hi : i < C.length := by rw [hlen]; exact (List.getElem?_eq_some_iff.1 hf).1
  have hname : C[i].name = f.name := by
    have := congrArg (fun x => x[i]?) hn
    simp only [List.getElem?_map, hf, Option.map_some, List.getElem?_eq_getElem hi] at this
    exact Option.some.inj this
  have hnd : (C.map (·.name)).Nodup := by rw [hn]; exact sorted_nodup hs
  have hg := getF_of_mem hnd (List.getElem_mem hi)
  unfold byName
  rw [← hname, hg, List.getElem?_eq_getElem hi]
  rfl
theorem byName_map {l C : List AFile} (hs : Sorted l) (hn : C.map (·.name) = l.map (·.name)) : l.map (byName C) = C := by
  have hlen : C.length = l.length := by simpa using congrArg List.length hn
  refine List.ext_getElem? fun i => ?_
  rw [List.getElem?_map]
  cases hf : l[i]? with
  | none =>
    have : l.length ≤ i := List.getElem?_eq_none_iff.1 hf
    rw [List.getElem?_eq_none (by omega)]; rfl
  | some f => rw [byName_at hs hn hf]; rfl
end Go.Proofs.YtlopfabbjilpnaaGreatDoor
