/- A disk as plain data: its files in the order of their names, its room, its fuse, its power. -/
import Derived.Test.YtlopfabbjilpnaaGreatDoorLib
set_option linter.unusedSimpArgs false
set_option linter.unusedVariables false
namespace Go.Proofs.YtlopfabbjilpnaaGreatDoor

structure AFile where
  name : Bytes
  bytes : Bytes
  synced : Nat
structure ADisk where
  files : List AFile
  room : Nat
  fuse : Int
  dead : Bool

def newD : ADisk := ⟨[], 4194304, -1, false⟩
def getF (l : List AFile) (n : Bytes) : Option AFile := l.find? fun f => decide (f.name = n)
def insF (f : AFile) : List AFile → List AFile
  | [] => [f]
  | g :: l => if f.name < g.name then f :: g :: l else g :: insF f l
def setF (l : List AFile) (f : AFile) : List AFile := l.map fun g => if g.name = f.name then f else g
def delF (l : List AFile) (n : Bytes) : List AFile := l.filter fun g => decide (g.name ≠ n)
/-- The disk behind a file's being there anew, or as it is now. -/
def putF (l : List AFile) (f : AFile) : List AFile := if (getF l f.name).isSome then setF l f else insF f l
def sumB (l : List AFile) : Nat := (l.map (·.bytes.length)).sum
/-- All bytes that there are, and for which there is room. -/
def ADisk.mass (D : ADisk) : Nat := D.room + sumB D.files
def Sorted (l : List AFile) : Prop := l.Pairwise fun a b => a.name < b.name

def offD (D : ADisk) : ADisk := { D with dead := true, fuse := -1 }
def appendD (D : ADisk) (n s : Bytes) : Int × ADisk :=
  if D.dead then (8, D) else
  if n.length = 0 ∨ 24 < n.length then (2, D) else
  if D.room < s.length ∨ (getF D.files n = none ∧ 1000 ≤ D.files.length) then (7, D) else
  let f := (getF D.files n).getD ⟨n, [], 0⟩
  if D.fuse ≠ -1 ∧ D.fuse < s.length then
    (9, offD { D with files := putF D.files { f with bytes := f.bytes ++ s.take D.fuse.toNat }, room := D.room - D.fuse.toNat })
  else (0, { D with files := putF D.files { f with bytes := f.bytes ++ s }, room := D.room - s.length, fuse := if D.fuse = -1 then -1 else D.fuse - s.length })
def withD (D : ADisk) (n : Bytes) (act : AFile → Int × ADisk) : Int × ADisk :=
  if D.dead then (8, D) else match getF D.files n with | none => (11, D) | some f => act f
def syncD (D : ADisk) (n : Bytes) : Int × ADisk := withD D n fun f => (0, { D with files := setF D.files { f with synced := f.bytes.length } })
def cutD (D : ADisk) (n : Bytes) (k : Int) : Int × ADisk := withD D n fun f =>
  if k < f.synced ∨ f.bytes.length < k then (2, D) else (0, { D with files := setF D.files { f with bytes := f.bytes.take k.toNat }, room := D.room + (f.bytes.length - k.toNat) })
def removeD (D : ADisk) (n : Bytes) : Int × ADisk := withD D n fun f => (0, { D with files := delF D.files n, room := D.room + f.bytes.length })
def fuseD (D : ADisk) (k : Int) : Int × ADisk := if D.dead then (8, D) else (0, { D with fuse := if k < -1 then -1 else k })
def startD (D : ADisk) : ADisk := { D with dead := false }
end Go.Proofs.YtlopfabbjilpnaaGreatDoor
