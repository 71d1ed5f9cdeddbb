/-
  DERIVED. GIVEN WITH THE SEED: THE CARDS: each row of YthnojgpobfpgeaaDoorRows.lean that lists a variable, with what it lists TIED to the program's text (the seventh form; the later family's looks); each row that meets fmt, with fmt's text TOLD by the authors' own Lean function (tested against real Go, not proved from fmt's source: count such statements apart). THE CARD IS WHAT COUNTS. Prove the row's statement (the work); the ties are given (YthnojgpobfpgeaaDoorTie.lean); close each card by the builder's one call (the guide's Derived/Test/ToyasCard.lean, 'card_holds'). Laid BY PROGRAM, IN A SANDBOX (cutbox-door.mjs). By AI agents, Wed Nov 11 2026. No macro, syntax, notation, axiom, sorry.
-/
import Derived.Test.YthnojgpobfpgeaaDoorRows
import GoSem.ClaimSeven
namespace Go.Proofs.YthnojgpobfpgeaaDoor
namespace Rows

/-- THE TIED CARD OF 'pollardlaw12.ChainItems'. -/
def chainItemsCard : Claim7 := { stood := { row := chainItemsRow, standIns := [], harness := (true, "cc6a1ee77b248a192bf8c919ba8eecd19eaf8f3fdd6302e2b7dea02a7c61e663"), looks := false }, kinds := [], alts := [], laidByText := true, laidKinds := [.data, .pinned], laidTests := true, laidLooks := .later }
def ChainItemsCardSaid : Prop := Claim7.holds Tryd.pinned (.plain (OpenSpec.ofChange chainItemsSpec)) chainItemsCard

/-- THE SECOND FORM's CARD OF 'pollardlaw12.ChainItems'. -/
def chainItemsUptoCard : Claim7 := { stood := { row := chainItemsUptoRow, standIns := [], harness := (true, "cc6a1ee77b248a192bf8c919ba8eecd19eaf8f3fdd6302e2b7dea02a7c61e663"), looks := false }, kinds := [], alts := [], laidByText := true, laidKinds := [.data, .pinned], laidTests := true, laidLooks := .later }
def ChainItemsUptoCardSaid : Prop := Claim7.holds Tryd.pinned (.plain (OpenSpec.upto chainItemsSpec)) chainItemsUptoCard
end Rows
end Go.Proofs.YthnojgpobfpgeaaDoor
