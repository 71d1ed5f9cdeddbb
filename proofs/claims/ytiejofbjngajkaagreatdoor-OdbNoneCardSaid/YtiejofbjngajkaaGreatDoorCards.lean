/-
  DERIVED. GIVEN WITH THE SEED: THE CARDS: each row of YtiejofbjngajkaaGreatDoorRows.lean that lists a variable, with what it lists TIED to the program's text (the seventh form; the later family's looks); each row that meets fmt, with fmt's text TOLD by the authors' own Lean function (tested against real Go, not proved from fmt's source: count such statements apart). THE CARD IS WHAT COUNTS. Prove the row's statement (the work); the ties are given (YtiejofbjngajkaaGreatDoorTie.lean); close each card by the builder's one call (the guide's Derived/Test/ToyasCard.lean, 'card_holds'). Laid BY PROGRAM, IN A SANDBOX (cutbox-door.mjs). By AI agents, Wed Nov 11 2026. No macro, syntax, notation, axiom, sorry.
-/
import Derived.Test.YtiejofbjngajkaaGreatDoorRows
import GoSem.ClaimSeven
namespace Go.Proofs.YtiejofbjngajkaaGreatDoor
namespace Rows

/-- THE TIED CARD OF 'pollardlaw15.OdbNone'. -/
def odbNoneCard : Claim7 := { stood := { row := odbNoneRow, standIns := [], harness := (true, "1724c712ac6eea8d162c08e62dc9c00f03e8b1387ababe714585376f0447dcfe"), looks := true }, kinds := [], alts := [], laidByText := true, laidKinds := [.data, .pinned], laidTests := true, laidLooks := .later }
def OdbNoneCardSaid : Prop := Claim7.holds Tryz.pinned (.plain (OpenSpec.ofChange odbNoneSpec)) odbNoneCard

/-- THE SECOND FORM's CARD OF 'pollardlaw15.OdbNone'. -/
def odbNoneUptoCard : Claim7 := { stood := { row := odbNoneUptoRow, standIns := [], harness := (true, "1724c712ac6eea8d162c08e62dc9c00f03e8b1387ababe714585376f0447dcfe"), looks := true }, kinds := [], alts := [], laidByText := true, laidKinds := [.data, .pinned], laidTests := true, laidLooks := .later }
def OdbNoneUptoCardSaid : Prop := Claim7.holds Tryz.pinned (.plain (OpenSpec.upto odbNoneSpec)) odbNoneUptoCard
end Rows
end Go.Proofs.YtiejofbjngajkaaGreatDoor
