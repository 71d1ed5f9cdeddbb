/-
  DERIVED. GIVEN WITH THE SEED: THE CARDS: each row of YthnojgpobfpgeaaGreatDoorRows.lean that lists a variable, with what it lists TIED to the program's text (the seventh form; the later family's looks); each row that meets fmt, with fmt's text TOLD by the authors' own Lean function (tested against real Go, not proved from fmt's source: count such statements apart). THE CARD IS WHAT COUNTS. Prove the row's statement (the work); the ties are given (YthnojgpobfpgeaaGreatDoorTie.lean); close each card by the builder's one call (the guide's Derived/Test/ToyasCard.lean, 'card_holds'). Laid BY PROGRAM, IN A SANDBOX (cutbox-door.mjs). By AI agents, Wed Nov 11 2026. No macro, syntax, notation, axiom, sorry.
-/
import Derived.Test.YthnojgpobfpgeaaGreatDoorRows
import GoSem.ClaimSeven
namespace Go.Proofs.YthnojgpobfpgeaaGreatDoor
namespace Rows

/-- THE TIED CARD OF 'pollardlaw08.LooseSpoilt'. -/
def looseSpoiltCard : Claim7 := { stood := { row := looseSpoiltRow, standIns := [], harness := (true, "ace8e27d624056af9a59089a90886ab355b6b144509bdbceac3b329c15bdd12f"), looks := true }, kinds := [], alts := [], laidByText := true, laidKinds := [.data, .pinned], laidTests := true, laidLooks := .later }
def LooseSpoiltCardSaid : Prop := Claim7.holds Tryz.pinned (.plain (OpenSpec.ofChange looseSpoiltSpec)) looseSpoiltCard

/-- THE TIED CARD OF 'pollardlaw08.LooseNone'. -/
def looseNoneCard : Claim7 := { stood := { row := looseNoneRow, standIns := [], harness := (true, "ace8e27d624056af9a59089a90886ab355b6b144509bdbceac3b329c15bdd12f"), looks := true }, kinds := [], alts := [], laidByText := true, laidKinds := [.data, .pinned], laidTests := true, laidLooks := .later }
def LooseNoneCardSaid : Prop := Claim7.holds Tryz.pinned (.plain (OpenSpec.ofChange looseNoneSpec)) looseNoneCard

/-- THE TIED CARD OF 'pollardlaw08.LooseDrops'. -/
def looseDropsCard : Claim7 := { stood := { row := looseDropsRow, standIns := [], harness := (true, "ace8e27d624056af9a59089a90886ab355b6b144509bdbceac3b329c15bdd12f"), looks := true }, kinds := [], alts := [], laidByText := true, laidKinds := [.data, .pinned], laidTests := true, laidLooks := .later }
def LooseDropsCardSaid : Prop := Claim7.holds Tryz.pinned (.plain (OpenSpec.ofChange looseDropsSpec)) looseDropsCard

/-- THE SECOND FORM's CARD OF 'pollardlaw08.LooseSpoilt'. -/
def looseSpoiltUptoCard : Claim7 := { stood := { row := looseSpoiltUptoRow, standIns := [], harness := (true, "ace8e27d624056af9a59089a90886ab355b6b144509bdbceac3b329c15bdd12f"), looks := true }, kinds := [], alts := [], laidByText := true, laidKinds := [.data, .pinned], laidTests := true, laidLooks := .later }
def LooseSpoiltUptoCardSaid : Prop := Claim7.holds Tryz.pinned (.plain (OpenSpec.upto looseSpoiltSpec)) looseSpoiltUptoCard

/-- THE SECOND FORM's CARD OF 'pollardlaw08.LooseNone'. -/
def looseNoneUptoCard : Claim7 := { stood := { row := looseNoneUptoRow, standIns := [], harness := (true, "ace8e27d624056af9a59089a90886ab355b6b144509bdbceac3b329c15bdd12f"), looks := true }, kinds := [], alts := [], laidByText := true, laidKinds := [.data, .pinned], laidTests := true, laidLooks := .later }
def LooseNoneUptoCardSaid : Prop := Claim7.holds Tryz.pinned (.plain (OpenSpec.upto looseNoneSpec)) looseNoneUptoCard

/-- THE SECOND FORM's CARD OF 'pollardlaw08.LooseDrops'. -/
def looseDropsUptoCard : Claim7 := { stood := { row := looseDropsUptoRow, standIns := [], harness := (true, "ace8e27d624056af9a59089a90886ab355b6b144509bdbceac3b329c15bdd12f"), looks := true }, kinds := [], alts := [], laidByText := true, laidKinds := [.data, .pinned], laidTests := true, laidLooks := .later }
def LooseDropsUptoCardSaid : Prop := Claim7.holds Tryz.pinned (.plain (OpenSpec.upto looseDropsSpec)) looseDropsUptoCard
end Rows
end Go.Proofs.YthnojgpobfpgeaaGreatDoor
