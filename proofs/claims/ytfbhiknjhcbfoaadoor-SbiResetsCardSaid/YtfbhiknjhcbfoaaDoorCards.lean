/-
  DERIVED. GIVEN WITH THE SEED: THE CARDS: each row of YtfbhiknjhcbfoaaDoorRows.lean that lists a variable, with what it lists TIED to the program's text (the seventh form; the later family's looks); each row that meets fmt, with fmt's text TOLD by the authors' own Lean function (tested against real Go, not proved from fmt's source: count such statements apart). THE CARD IS WHAT COUNTS. Prove the row's statement (the work); the ties are given (YtfbhiknjhcbfoaaDoorTie.lean); close each card by the builder's one call (the guide's Derived/Test/ToyasCard.lean, 'card_holds'). Laid BY PROGRAM, IN A SANDBOX (cutbox-door.mjs). By AI agents, Wed Nov 11 2026. No macro, syntax, notation, axiom, sorry.
-/
import Derived.Test.YtfbhiknjhcbfoaaDoorRows
import GoSem.ClaimSeven
namespace Go.Proofs.YtfbhiknjhcbfoaaDoor
namespace Rows

/-- THE TIED CARD OF 'suzerainlaw21.SbiResets'. -/
def sbiResetsCard : Claim7 := { stood := { row := sbiResetsRow, standIns := [], harness := (true, "718aae8d946c91675f7c37494e34b123a07c8e12f7c3c1351e2ceacdc9a40c5e"), looks := false }, kinds := [], alts := [], laidByText := true, laidKinds := [.data], laidTests := true, laidLooks := .later }
def SbiResetsCardSaid : Prop := Claim7.holds Tryd.pinned (.plain (OpenSpec.ofChange sbiResetsSpec)) sbiResetsCard

/-- THE SECOND FORM's CARD OF 'suzerainlaw21.SbiResets'. -/
def sbiResetsUptoCard : Claim7 := { stood := { row := sbiResetsUptoRow, standIns := [], harness := (true, "718aae8d946c91675f7c37494e34b123a07c8e12f7c3c1351e2ceacdc9a40c5e"), looks := false }, kinds := [], alts := [], laidByText := true, laidKinds := [.data], laidTests := true, laidLooks := .later }
def SbiResetsUptoCardSaid : Prop := Claim7.holds Tryd.pinned (.plain (OpenSpec.upto sbiResetsSpec)) sbiResetsUptoCard
end Rows
end Go.Proofs.YtfbhiknjhcbfoaaDoor
