/-
  DERIVED. GIVEN WITH THE SEED: THE CARDS: each row of YtfphcecjhdkcoaaDoorRows.lean that lists a variable, with what it lists TIED to the program's text (the seventh form; the later family's looks); each row that meets fmt, with fmt's text TOLD by the authors' own Lean function (tested against real Go, not proved from fmt's source: count such statements apart). THE CARD IS WHAT COUNTS. Prove the row's statement (the work); the ties are given (YtfphcecjhdkcoaaDoorTie.lean); close each card by the builder's one call (the guide's Derived/Test/ToyasCard.lean, 'card_holds'). Laid BY PROGRAM, IN A SANDBOX (cutbox-door.mjs). By AI agents, Wed Nov 11 2026. No macro, syntax, notation, axiom, sorry.
-/
import Derived.Test.YtfphcecjhdkcoaaDoorRows
import GoSem.ClaimSeven
namespace Go.Proofs.YtfphcecjhdkcoaaDoor
namespace Rows

/-- THE TIED CARD OF 'parcelslaw.Versions'. -/
def versionsCard : Claim7 := { stood := { row := versionsRow, standIns := [], harness := (true, "bb0b525650752a9d24054386b3a14b3131422cb6a8b0c2efd082ce862b428013"), looks := false }, kinds := [], alts := [], laidByText := true, laidKinds := [.data, .pinned], laidTests := true, laidLooks := .later }
def VersionsCardSaid : Prop := Claim7.holds Tryd.pinned (.plain (OpenSpec.ofChange versionsSpec)) versionsCard

/-- THE TIED CARD OF 'parcelskeep.Ordered'. -/
def orderedCard : Claim7 := { stood := { row := orderedRow, standIns := [], harness := (true, "bb0b525650752a9d24054386b3a14b3131422cb6a8b0c2efd082ce862b428013"), looks := false }, kinds := [], alts := [], laidByText := true, laidKinds := [.data, .pinned], laidTests := true, laidLooks := .later }
def OrderedCardSaid : Prop := Claim7.holds Tryd.pinned (.plain (OpenSpec.ofChange orderedSpec)) orderedCard

/-- THE SECOND FORM's CARD OF 'parcelslaw.Versions'. -/
def versionsUptoCard : Claim7 := { stood := { row := versionsUptoRow, standIns := [], harness := (true, "bb0b525650752a9d24054386b3a14b3131422cb6a8b0c2efd082ce862b428013"), looks := false }, kinds := [], alts := [], laidByText := true, laidKinds := [.data, .pinned], laidTests := true, laidLooks := .later }
def VersionsUptoCardSaid : Prop := Claim7.holds Tryd.pinned (.plain (OpenSpec.upto versionsSpec)) versionsUptoCard

/-- THE SECOND FORM's CARD OF 'parcelskeep.Ordered'. -/
def orderedUptoCard : Claim7 := { stood := { row := orderedUptoRow, standIns := [], harness := (true, "bb0b525650752a9d24054386b3a14b3131422cb6a8b0c2efd082ce862b428013"), looks := false }, kinds := [], alts := [], laidByText := true, laidKinds := [.data, .pinned], laidTests := true, laidLooks := .later }
def OrderedUptoCardSaid : Prop := Claim7.holds Tryd.pinned (.plain (OpenSpec.upto orderedSpec)) orderedUptoCard
end Rows
end Go.Proofs.YtfphcecjhdkcoaaDoor
