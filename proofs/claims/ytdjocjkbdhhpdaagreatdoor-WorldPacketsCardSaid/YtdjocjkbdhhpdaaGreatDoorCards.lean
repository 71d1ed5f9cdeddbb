/-
  DERIVED. GIVEN WITH THE SEED: THE CARDS: each row of YtdjocjkbdhhpdaaGreatDoorRows.lean that lists a variable, with what it lists TIED to the program's text (the seventh form; the later family's looks); each row that meets fmt, with fmt's text TOLD by the authors' own Lean function (tested against real Go, not proved from fmt's source: count such statements apart). THE CARD IS WHAT COUNTS. Prove the row's statement (the work); the ties are given (YtdjocjkbdhhpdaaGreatDoorTie.lean); close each card by the builder's one call (the guide's Derived/Test/ToyasCard.lean, 'card_holds'). Laid BY PROGRAM, IN A SANDBOX (cutbox-door.mjs). By AI agents, Wed Nov 11 2026. No macro, syntax, notation, axiom, sorry.
-/
import Derived.Test.YtdjocjkbdhhpdaaGreatDoorRows
import GoSem.ClaimSeven
namespace Go.Proofs.YtdjocjkbdhhpdaaGreatDoor
namespace Rows

/-- THE TIED CARD OF 'pollardlaw26.WorldPackets'. -/
def worldPacketsCard : Claim7 := { stood := { row := worldPacketsRow, standIns := [], harness := (true, "f3dbe281536021654853baeff578109e689837a08ac7a9773804881d42aa037b"), looks := true }, kinds := [], alts := [], laidByText := true, laidKinds := [.data, .pinned], laidTests := true, laidLooks := .later }
def WorldPacketsCardSaid : Prop := Claim7.holds Tryz.pinned (.plain (OpenSpec.ofChange worldPacketsSpec)) worldPacketsCard

/-- THE TIED CARD OF 'pollardlaw26.WorldChecks'. -/
def worldChecksCard : Claim7 := { stood := { row := worldChecksRow, standIns := [], harness := (true, "f3dbe281536021654853baeff578109e689837a08ac7a9773804881d42aa037b"), looks := true }, kinds := [], alts := [], laidByText := true, laidKinds := [.data, .pinned], laidTests := true, laidLooks := .later }
def WorldChecksCardSaid : Prop := Claim7.holds Tryz.pinned (.plain (OpenSpec.ofChange worldChecksSpec)) worldChecksCard

/-- THE TIED CARD OF 'pollardlaw26.WorldNone'. -/
def worldNoneCard : Claim7 := { stood := { row := worldNoneRow, standIns := [], harness := (true, "f3dbe281536021654853baeff578109e689837a08ac7a9773804881d42aa037b"), looks := true }, kinds := [], alts := [], laidByText := true, laidKinds := [.data, .pinned], laidTests := true, laidLooks := .later }
def WorldNoneCardSaid : Prop := Claim7.holds Tryz.pinned (.plain (OpenSpec.ofChange worldNoneSpec)) worldNoneCard

/-- THE SECOND FORM's CARD OF 'pollardlaw26.WorldPackets'. -/
def worldPacketsUptoCard : Claim7 := { stood := { row := worldPacketsUptoRow, standIns := [], harness := (true, "f3dbe281536021654853baeff578109e689837a08ac7a9773804881d42aa037b"), looks := true }, kinds := [], alts := [], laidByText := true, laidKinds := [.data, .pinned], laidTests := true, laidLooks := .later }
def WorldPacketsUptoCardSaid : Prop := Claim7.holds Tryz.pinned (.plain (OpenSpec.upto worldPacketsSpec)) worldPacketsUptoCard

/-- THE SECOND FORM's CARD OF 'pollardlaw26.WorldChecks'. -/
def worldChecksUptoCard : Claim7 := { stood := { row := worldChecksUptoRow, standIns := [], harness := (true, "f3dbe281536021654853baeff578109e689837a08ac7a9773804881d42aa037b"), looks := true }, kinds := [], alts := [], laidByText := true, laidKinds := [.data, .pinned], laidTests := true, laidLooks := .later }
def WorldChecksUptoCardSaid : Prop := Claim7.holds Tryz.pinned (.plain (OpenSpec.upto worldChecksSpec)) worldChecksUptoCard

/-- THE SECOND FORM's CARD OF 'pollardlaw26.WorldNone'. -/
def worldNoneUptoCard : Claim7 := { stood := { row := worldNoneUptoRow, standIns := [], harness := (true, "f3dbe281536021654853baeff578109e689837a08ac7a9773804881d42aa037b"), looks := true }, kinds := [], alts := [], laidByText := true, laidKinds := [.data, .pinned], laidTests := true, laidLooks := .later }
def WorldNoneUptoCardSaid : Prop := Claim7.holds Tryz.pinned (.plain (OpenSpec.upto worldNoneSpec)) worldNoneUptoCard
end Rows
end Go.Proofs.YtdjocjkbdhhpdaaGreatDoor
