/- The row's closed facts, each in a declaration of its own: one theorem for all of them is too much for the kernel's memory. -/
import Derived.Test.YtildicgoadiodaaGreatDoorRows
import Derived.WalkKit
import Derived.ProofKit
import Derived.SevenTiedAt
import Derived.Test.YtildicgoadiodaaGreatDoorEvArg
/-! The row's closed facts, each in a declaration of its own: one theorem for all of them is too much for the kernel's memory. -/
namespace Go.Proofs.YtildicgoadiodaaGreatDoor
open Go.RowKit Go.ChangeShapes Go.WideShapes Go.ChangeAt Go.ChangeMaps

theorem rowNamed : Tryz.pinned.checked.prog.funcNamed Rows.fetchNoneRow.func = some 4 := by kernel_rfl
theorem row_laid : laidOutB Tryz.pinned.checked.prog = true := by kernel_rfl
theorem row_maps : mapsRowed Tryz.pinned.checked.prog = true := by kernel_rfl
theorem row_inPlace : (Rows.fetchNoneRow.inPlace == Tryz.pinned.checked.prog.inPlace 4) = true := by kernel_rfl
theorem row_unfollowed : (Rows.fetchNoneRow.unfollowed == Tryz.pinned.checked.prog.unfollowed 4) = true := by kernel_rfl
theorem row_recurses : (Rows.fetchNoneRow.recurses == Tryz.pinned.checked.prog.recurses 4) = true := by kernel_rfl
theorem row_named : (Rows.fetchNoneRow.named == Tryz.pinned.checked.prog.varsNamed 4) = true := by kernel_rfl
theorem row_plainKeys : (Rows.fetchNoneRow.plainKeys == Tryz.pinned.checked.prog.plainKeys) = true := by kernel_rfl
theorem row_heard : Tryz.pinned.checked.prog.stopsHeard = true := by kernel_rfl
theorem row_enter : Tryz.pinned.checked.prog.mayEnter = true := by kernel_rfl
theorem rowJoined : joinedFacts Tryz.pinned.checked.prog 4 Tryz.f4 Rows.fetchNoneSpec Rows.fetchNoneRow = true := by
  simp only [joinedFacts, row_laid, row_maps, row_inPlace, row_unfollowed, row_recurses, row_named, row_plainKeys, row_heard, row_enter, Bool.and_true, Bool.and_eq_true]
  repeat' refine And.intro ?_ ?_
  all_goals kernel_rfl
theorem rowInst : Func.isInstance Tryz.pinned.checked.prog Tryz.f4 Rows.fetchNoneRow.origin Rows.fetchNoneRow.targs := of_decide_eq_true (by kernel_rfl)
theorem rowWrap : Func.isWrapper Tryz.pinned.checked.prog Tryz.f4 Rows.fetchNoneRow.wrapper Rows.fetchNoneRow.mainSum := by
  unfold Func.isWrapper
  first
  | (rw [if_pos (by decide +kernel)]; kernel_rfl)
  | (rw [if_neg (by decide +kernel)]; exact ⟨rfl, rfl⟩)
theorem row_text : Rows.fetchNoneRow.wfByText (OpenSpec.ofChange Rows.fetchNoneSpec) = true := by kernel_rfl
theorem row_looks : true = Tryz.pinned.checked.prog.looks [] := by kernel_rfl
theorem row_main : Tryz.pinned.checked.prog.mainIs = some (true, "6e7273fcdd872e50076b0caa854cafbad51bb68bd52083bafd34e8db37ae8565".toList) := by kernel_rfl
theorem no_go : (Tryz.pinned.checked.prog.funcs.toList.any Func.goes) = false := by kernel_rfl
theorem row_goes : false = Rows.fetchNoneRow.goesBy Tryz.pinned.checked.prog := Go.Ev.goes_none no_go _
theorem row_read : Go.Ev.paramsRead Tryz.prog [26, 9] = true := by kernel_rfl
theorem row_types : Tryz.f4.params.toList = [26, 9] := rfl
end Go.Proofs.YtildicgoadiodaaGreatDoor
