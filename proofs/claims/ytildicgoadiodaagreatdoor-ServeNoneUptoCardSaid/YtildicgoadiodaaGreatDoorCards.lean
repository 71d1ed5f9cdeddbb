/-
  DERIVED. GIVEN WITH THE SEED: THE CARDS: each row of YtildicgoadiodaaGreatDoorRows.lean that lists a variable, with what it lists TIED to the program's text (the seventh form; the later family's looks); each row that meets fmt, with fmt's text TOLD by the authors' own Lean function (tested against real Go, not proved from fmt's source: count such statements apart). THE CARD IS WHAT COUNTS. Prove the row's statement (the work); the ties are given (YtildicgoadiodaaGreatDoorTie.lean); close each card by the builder's one call (the guide's Derived/Test/ToyasCard.lean, 'card_holds'). Laid BY PROGRAM, IN A SANDBOX (cutbox-door.mjs). By AI agents, Wed Nov 11 2026. No macro, syntax, notation, axiom, sorry.
-/
import Derived.Test.YtildicgoadiodaaGreatDoorRows
import GoSem.ClaimSeven
namespace Go.Proofs.YtildicgoadiodaaGreatDoor
namespace Rows

/-- THE TIED CARD OF 'pollardlaw24.ServeNone'. -/
def serveNoneCard : Claim7 := { stood := { row := serveNoneRow, standIns := [], harness := (true, "6e7273fcdd872e50076b0caa854cafbad51bb68bd52083bafd34e8db37ae8565"), looks := true }, kinds := [], alts := [], laidByText := true, laidKinds := [.data, .pinned], laidTests := true, laidLooks := .later }
def ServeNoneCardSaid : Prop := Claim7.holds Tryz.pinned (.plain (OpenSpec.ofChange serveNoneSpec)) serveNoneCard

/-- THE TIED CARD OF 'pollardlaw25.FetchNone'. -/
def fetchNoneCard : Claim7 := { stood := { row := fetchNoneRow, standIns := [], harness := (true, "6e7273fcdd872e50076b0caa854cafbad51bb68bd52083bafd34e8db37ae8565"), looks := true }, kinds := [], alts := [], laidByText := true, laidKinds := [.data, .pinned], laidTests := true, laidLooks := .later }
def FetchNoneCardSaid : Prop := Claim7.holds Tryz.pinned (.plain (OpenSpec.ofChange fetchNoneSpec)) fetchNoneCard

/-- THE SECOND FORM's CARD OF 'pollardlaw24.ServeNone'. -/
def serveNoneUptoCard : Claim7 := { stood := { row := serveNoneUptoRow, standIns := [], harness := (true, "6e7273fcdd872e50076b0caa854cafbad51bb68bd52083bafd34e8db37ae8565"), looks := true }, kinds := [], alts := [], laidByText := true, laidKinds := [.data, .pinned], laidTests := true, laidLooks := .later }
def ServeNoneUptoCardSaid : Prop := Claim7.holds Tryz.pinned (.plain (OpenSpec.upto serveNoneSpec)) serveNoneUptoCard

/-- THE SECOND FORM's CARD OF 'pollardlaw25.FetchNone'. -/
def fetchNoneUptoCard : Claim7 := { stood := { row := fetchNoneUptoRow, standIns := [], harness := (true, "6e7273fcdd872e50076b0caa854cafbad51bb68bd52083bafd34e8db37ae8565"), looks := true }, kinds := [], alts := [], laidByText := true, laidKinds := [.data, .pinned], laidTests := true, laidLooks := .later }
def FetchNoneUptoCardSaid : Prop := Claim7.holds Tryz.pinned (.plain (OpenSpec.upto fetchNoneSpec)) fetchNoneUptoCard
end Rows
end Go.Proofs.YtildicgoadiodaaGreatDoor
