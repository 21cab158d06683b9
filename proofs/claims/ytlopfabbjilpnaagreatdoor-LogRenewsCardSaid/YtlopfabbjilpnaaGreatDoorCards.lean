/-
  DERIVED. GIVEN WITH THE SEED: THE CARDS: each row of YtlopfabbjilpnaaGreatDoorRows.lean that lists a variable, with what it lists TIED to the program's text (the seventh form; the later family's looks); each row that meets fmt, with fmt's text TOLD by the authors' own Lean function (tested against real Go, not proved from fmt's source: count such statements apart). THE CARD IS WHAT COUNTS. Prove the row's statement (the work); the ties are given (YtlopfabbjilpnaaGreatDoorTie.lean); close each card by the builder's one call (the guide's Derived/Test/ToyasCard.lean, 'card_holds'). Laid BY PROGRAM, IN A SANDBOX (cutbox-door.mjs). By AI agents, Wed Nov 11 2026. No macro, syntax, notation, axiom, sorry.
-/
import Derived.Test.YtlopfabbjilpnaaGreatDoorRows
import GoSem.ClaimSeven
namespace Go.Proofs.YtlopfabbjilpnaaGreatDoor
namespace Rows

/-- THE TIED CARD OF 'palaverlaw06.BaseWhole'. -/
def baseWholeCard : Claim7 := { stood := { row := baseWholeRow, standIns := [], harness := (true, "4ffd4d0539b383a8abacb727ba4ce82fdbf353e3fc476c974bb9a22578b5696b"), looks := true }, kinds := [], alts := [], laidByText := true, laidKinds := [.data, .data, .data, .sentinel, .sentinel], laidTests := true, laidLooks := .later }
def BaseWholeCardSaid : Prop := Claim7.holds Tryz.pinned (.plain (OpenSpec.ofChange baseWholeSpec)) baseWholeCard

/-- THE TIED CARD OF 'palaverlaw05.LogNil'. -/
def logNilCard : Claim7 := { stood := { row := logNilRow, standIns := [], harness := (true, "4ffd4d0539b383a8abacb727ba4ce82fdbf353e3fc476c974bb9a22578b5696b"), looks := true }, kinds := [], alts := [], laidByText := true, laidKinds := [.data, .data, .data, .sentinel, .sentinel], laidTests := true, laidLooks := .later }
def LogNilCardSaid : Prop := Claim7.holds Tryz.pinned (.plain (OpenSpec.ofChange logNilSpec)) logNilCard

/-- THE TIED CARD OF 'palaverlaw05.LogKnown'. -/
def logKnownCard : Claim7 := { stood := { row := logKnownRow, standIns := [], harness := (true, "4ffd4d0539b383a8abacb727ba4ce82fdbf353e3fc476c974bb9a22578b5696b"), looks := true }, kinds := [], alts := [], laidByText := true, laidKinds := [.data, .data, .data, .sentinel, .sentinel], laidTests := true, laidLooks := .later }
def LogKnownCardSaid : Prop := Claim7.holds Tryz.pinned (.plain (OpenSpec.ofChange logKnownSpec)) logKnownCard

/-- THE TIED CARD OF 'palaverlaw05.LogLasts'. -/
def logLastsCard : Claim7 := { stood := { row := logLastsRow, standIns := [], harness := (true, "4ffd4d0539b383a8abacb727ba4ce82fdbf353e3fc476c974bb9a22578b5696b"), looks := true }, kinds := [], alts := [], laidByText := true, laidKinds := [.data, .data, .data, .sentinel, .sentinel], laidTests := true, laidLooks := .later }
def LogLastsCardSaid : Prop := Claim7.holds Tryz.pinned (.plain (OpenSpec.ofChange logLastsSpec)) logLastsCard

/-- THE TIED CARD OF 'palaverlaw05.LogRenews'. -/
def logRenewsCard : Claim7 := { stood := { row := logRenewsRow, standIns := [], harness := (true, "4ffd4d0539b383a8abacb727ba4ce82fdbf353e3fc476c974bb9a22578b5696b"), looks := true }, kinds := [], alts := [], laidByText := true, laidKinds := [.data, .data, .data, .sentinel, .sentinel], laidTests := true, laidLooks := .later }
def LogRenewsCardSaid : Prop := Claim7.holds Tryz.pinned (.plain (OpenSpec.ofChange logRenewsSpec)) logRenewsCard

/-- THE TIED CARD OF 'palaverlaw05.LogBits'. -/
def logBitsCard : Claim7 := { stood := { row := logBitsRow, standIns := [], harness := (true, "4ffd4d0539b383a8abacb727ba4ce82fdbf353e3fc476c974bb9a22578b5696b"), looks := true }, kinds := [], alts := [], laidByText := true, laidKinds := [.data, .data, .data, .sentinel, .sentinel], laidTests := true, laidLooks := .later }
def LogBitsCardSaid : Prop := Claim7.holds Tryz.pinned (.plain (OpenSpec.ofChange logBitsSpec)) logBitsCard

/-- THE TIED CARD OF 'palaverlaw17.KeepNil'. -/
def keepNilCard : Claim7 := { stood := { row := keepNilRow, standIns := [], harness := (true, "4ffd4d0539b383a8abacb727ba4ce82fdbf353e3fc476c974bb9a22578b5696b"), looks := true }, kinds := [], alts := [], laidByText := true, laidKinds := [.data, .data, .data, .sentinel, .sentinel], laidTests := true, laidLooks := .later }
def KeepNilCardSaid : Prop := Claim7.holds Tryz.pinned (.plain (OpenSpec.ofChange keepNilSpec)) keepNilCard

/-- THE TIED CARD OF 'palaverlaw17.KeepRises'. -/
def keepRisesCard : Claim7 := { stood := { row := keepRisesRow, standIns := [], harness := (true, "4ffd4d0539b383a8abacb727ba4ce82fdbf353e3fc476c974bb9a22578b5696b"), looks := true }, kinds := [], alts := [], laidByText := true, laidKinds := [.data, .data, .data, .sentinel, .sentinel], laidTests := true, laidLooks := .later }
def KeepRisesCardSaid : Prop := Claim7.holds Tryz.pinned (.plain (OpenSpec.ofChange keepRisesSpec)) keepRisesCard

/-- THE TIED CARD OF 'palaverlaw17.KeepLasts'. -/
def keepLastsCard : Claim7 := { stood := { row := keepLastsRow, standIns := [], harness := (true, "4ffd4d0539b383a8abacb727ba4ce82fdbf353e3fc476c974bb9a22578b5696b"), looks := true }, kinds := [], alts := [], laidByText := true, laidKinds := [.data, .data, .data, .sentinel, .sentinel], laidTests := true, laidLooks := .later }
def KeepLastsCardSaid : Prop := Claim7.holds Tryz.pinned (.plain (OpenSpec.ofChange keepLastsSpec)) keepLastsCard

/-- THE SECOND FORM's CARD OF 'palaverlaw06.BaseWhole'. -/
def baseWholeUptoCard : Claim7 := { stood := { row := baseWholeUptoRow, standIns := [], harness := (true, "4ffd4d0539b383a8abacb727ba4ce82fdbf353e3fc476c974bb9a22578b5696b"), looks := true }, kinds := [], alts := [], laidByText := true, laidKinds := [.data, .data, .data, .sentinel, .sentinel], laidTests := true, laidLooks := .later }
def BaseWholeUptoCardSaid : Prop := Claim7.holds Tryz.pinned (.plain (OpenSpec.upto baseWholeSpec)) baseWholeUptoCard

/-- THE SECOND FORM's CARD OF 'palaverlaw05.LogNil'. -/
def logNilUptoCard : Claim7 := { stood := { row := logNilUptoRow, standIns := [], harness := (true, "4ffd4d0539b383a8abacb727ba4ce82fdbf353e3fc476c974bb9a22578b5696b"), looks := true }, kinds := [], alts := [], laidByText := true, laidKinds := [.data, .data, .data, .sentinel, .sentinel], laidTests := true, laidLooks := .later }
def LogNilUptoCardSaid : Prop := Claim7.holds Tryz.pinned (.plain (OpenSpec.upto logNilSpec)) logNilUptoCard

/-- THE SECOND FORM's CARD OF 'palaverlaw05.LogKnown'. -/
def logKnownUptoCard : Claim7 := { stood := { row := logKnownUptoRow, standIns := [], harness := (true, "4ffd4d0539b383a8abacb727ba4ce82fdbf353e3fc476c974bb9a22578b5696b"), looks := true }, kinds := [], alts := [], laidByText := true, laidKinds := [.data, .data, .data, .sentinel, .sentinel], laidTests := true, laidLooks := .later }
def LogKnownUptoCardSaid : Prop := Claim7.holds Tryz.pinned (.plain (OpenSpec.upto logKnownSpec)) logKnownUptoCard

/-- THE SECOND FORM's CARD OF 'palaverlaw05.LogLasts'. -/
def logLastsUptoCard : Claim7 := { stood := { row := logLastsUptoRow, standIns := [], harness := (true, "4ffd4d0539b383a8abacb727ba4ce82fdbf353e3fc476c974bb9a22578b5696b"), looks := true }, kinds := [], alts := [], laidByText := true, laidKinds := [.data, .data, .data, .sentinel, .sentinel], laidTests := true, laidLooks := .later }
def LogLastsUptoCardSaid : Prop := Claim7.holds Tryz.pinned (.plain (OpenSpec.upto logLastsSpec)) logLastsUptoCard

/-- THE SECOND FORM's CARD OF 'palaverlaw05.LogRenews'. -/
def logRenewsUptoCard : Claim7 := { stood := { row := logRenewsUptoRow, standIns := [], harness := (true, "4ffd4d0539b383a8abacb727ba4ce82fdbf353e3fc476c974bb9a22578b5696b"), looks := true }, kinds := [], alts := [], laidByText := true, laidKinds := [.data, .data, .data, .sentinel, .sentinel], laidTests := true, laidLooks := .later }
def LogRenewsUptoCardSaid : Prop := Claim7.holds Tryz.pinned (.plain (OpenSpec.upto logRenewsSpec)) logRenewsUptoCard

/-- THE SECOND FORM's CARD OF 'palaverlaw05.LogBits'. -/
def logBitsUptoCard : Claim7 := { stood := { row := logBitsUptoRow, standIns := [], harness := (true, "4ffd4d0539b383a8abacb727ba4ce82fdbf353e3fc476c974bb9a22578b5696b"), looks := true }, kinds := [], alts := [], laidByText := true, laidKinds := [.data, .data, .data, .sentinel, .sentinel], laidTests := true, laidLooks := .later }
def LogBitsUptoCardSaid : Prop := Claim7.holds Tryz.pinned (.plain (OpenSpec.upto logBitsSpec)) logBitsUptoCard

/-- THE SECOND FORM's CARD OF 'palaverlaw17.KeepNil'. -/
def keepNilUptoCard : Claim7 := { stood := { row := keepNilUptoRow, standIns := [], harness := (true, "4ffd4d0539b383a8abacb727ba4ce82fdbf353e3fc476c974bb9a22578b5696b"), looks := true }, kinds := [], alts := [], laidByText := true, laidKinds := [.data, .data, .data, .sentinel, .sentinel], laidTests := true, laidLooks := .later }
def KeepNilUptoCardSaid : Prop := Claim7.holds Tryz.pinned (.plain (OpenSpec.upto keepNilSpec)) keepNilUptoCard

/-- THE SECOND FORM's CARD OF 'palaverlaw17.KeepRises'. -/
def keepRisesUptoCard : Claim7 := { stood := { row := keepRisesUptoRow, standIns := [], harness := (true, "4ffd4d0539b383a8abacb727ba4ce82fdbf353e3fc476c974bb9a22578b5696b"), looks := true }, kinds := [], alts := [], laidByText := true, laidKinds := [.data, .data, .data, .sentinel, .sentinel], laidTests := true, laidLooks := .later }
def KeepRisesUptoCardSaid : Prop := Claim7.holds Tryz.pinned (.plain (OpenSpec.upto keepRisesSpec)) keepRisesUptoCard

/-- THE SECOND FORM's CARD OF 'palaverlaw17.KeepLasts'. -/
def keepLastsUptoCard : Claim7 := { stood := { row := keepLastsUptoRow, standIns := [], harness := (true, "4ffd4d0539b383a8abacb727ba4ce82fdbf353e3fc476c974bb9a22578b5696b"), looks := true }, kinds := [], alts := [], laidByText := true, laidKinds := [.data, .data, .data, .sentinel, .sentinel], laidTests := true, laidLooks := .later }
def KeepLastsUptoCardSaid : Prop := Claim7.holds Tryz.pinned (.plain (OpenSpec.upto keepLastsSpec)) keepLastsUptoCard
end Rows
end Go.Proofs.YtlopfabbjilpnaaGreatDoor
