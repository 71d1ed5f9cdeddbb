/-
  DERIVED. GIVEN WITH THE SEED: THE CARDS: each row of YtgfkoolajkccnaaGreatDoorRows.lean that lists a variable, with what it lists TIED to the program's text (the seventh form; the later family's looks); each row that meets fmt, with fmt's text TOLD by the authors' own Lean function (tested against real Go, not proved from fmt's source: count such statements apart). THE CARD IS WHAT COUNTS. Prove the row's statement (the work); the ties are given (YtgfkoolajkccnaaGreatDoorTie.lean); close each card by the builder's one call (the guide's Derived/Test/ToyasCard.lean, 'card_holds'). Laid BY PROGRAM, IN A SANDBOX (cutbox-door.mjs). By AI agents, Wed Nov 11 2026. No macro, syntax, notation, axiom, sorry.
-/
import Derived.Test.YtgfkoolajkccnaaGreatDoorRows
import GoSem.ClaimSeven
namespace Go.Proofs.YtgfkoolajkccnaaGreatDoor
namespace Rows

/-- THE TIED CARD OF 'pollardlaw21.RepoNone'. -/
def repoNoneCard : Claim7 := { stood := { row := repoNoneRow, standIns := [], harness := (true, "a80ad1aec0a3c6e3af63faa3eaf6deac5a6cb6d06fd529f574778d57a5a801bd"), looks := true }, kinds := [], alts := [], laidByText := true, laidKinds := [.data, .pinned], laidTests := true, laidLooks := .later }
def RepoNoneCardSaid : Prop := Claim7.holds Tryz.pinned (.plain (OpenSpec.ofChange repoNoneSpec)) repoNoneCard

/-- THE SECOND FORM's CARD OF 'pollardlaw21.RepoNone'. -/
def repoNoneUptoCard : Claim7 := { stood := { row := repoNoneUptoRow, standIns := [], harness := (true, "a80ad1aec0a3c6e3af63faa3eaf6deac5a6cb6d06fd529f574778d57a5a801bd"), looks := true }, kinds := [], alts := [], laidByText := true, laidKinds := [.data, .pinned], laidTests := true, laidLooks := .later }
def RepoNoneUptoCardSaid : Prop := Claim7.holds Tryz.pinned (.plain (OpenSpec.upto repoNoneSpec)) repoNoneUptoCard
end Rows
end Go.Proofs.YtgfkoolajkccnaaGreatDoor
