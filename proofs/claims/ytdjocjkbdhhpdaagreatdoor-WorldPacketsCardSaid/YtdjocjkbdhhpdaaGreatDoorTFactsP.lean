/- The row's closed facts, each in a declaration of its own: one theorem for all of them is too much for the kernel's memory. -/
import Derived.Test.YtdjocjkbdhhpdaaGreatDoorRows
import Derived.WalkKit
import Derived.ProofKit
import Derived.SevenTiedAt
import Derived.Test.YtdjocjkbdhhpdaaGreatDoorEvArg
/-! The row's closed facts, each in a declaration of its own: one theorem for all of them is too much for the kernel's memory. -/
namespace Go.Proofs.YtdjocjkbdhhpdaaGreatDoor
open Go.RowKit Go.ChangeShapes Go.WideShapes Go.ChangeAt Go.ChangeMaps

theorem rowNamed : Tryz.pinned.checked.prog.funcNamed Rows.worldPacketsRow.func = some 3 := by kernel_rfl
theorem row_laid : laidOutB Tryz.pinned.checked.prog = true := by kernel_rfl
theorem row_maps : mapsRowed Tryz.pinned.checked.prog = true := by kernel_rfl
theorem row_inPlace : (Rows.worldPacketsRow.inPlace == Tryz.pinned.checked.prog.inPlace 3) = true := by kernel_rfl
theorem row_unfollowed : (Rows.worldPacketsRow.unfollowed == Tryz.pinned.checked.prog.unfollowed 3) = true := by kernel_rfl
theorem row_recurses : (Rows.worldPacketsRow.recurses == Tryz.pinned.checked.prog.recurses 3) = true := by kernel_rfl
theorem row_named : (Rows.worldPacketsRow.named == Tryz.pinned.checked.prog.varsNamed 3) = true := by kernel_rfl
theorem row_plainKeys : (Rows.worldPacketsRow.plainKeys == Tryz.pinned.checked.prog.plainKeys) = true := by kernel_rfl
theorem row_heard : Tryz.pinned.checked.prog.stopsHeard = true := by kernel_rfl
theorem row_enter : Tryz.pinned.checked.prog.mayEnter = true := by kernel_rfl
theorem rowJoined : joinedFacts Tryz.pinned.checked.prog 3 Tryz.f3 Rows.worldPacketsSpec Rows.worldPacketsRow = true := by
  simp only [joinedFacts, row_laid, row_maps, row_inPlace, row_unfollowed, row_recurses, row_named, row_plainKeys, row_heard, row_enter, Bool.and_true, Bool.and_eq_true]
  repeat' refine And.intro ?_ ?_
  all_goals kernel_rfl
theorem rowInst : Func.isInstance Tryz.pinned.checked.prog Tryz.f3 Rows.worldPacketsRow.origin Rows.worldPacketsRow.targs := of_decide_eq_true (by kernel_rfl)
theorem rowWrap : Func.isWrapper Tryz.pinned.checked.prog Tryz.f3 Rows.worldPacketsRow.wrapper Rows.worldPacketsRow.mainSum := by
  unfold Func.isWrapper
  first
  | (rw [if_pos (by decide +kernel)]; kernel_rfl)
  | (rw [if_neg (by decide +kernel)]; exact ⟨rfl, rfl⟩)
theorem row_text : Rows.worldPacketsRow.wfByText (OpenSpec.ofChange Rows.worldPacketsSpec) = true := by kernel_rfl
theorem row_looks : true = Tryz.pinned.checked.prog.looks [] := by kernel_rfl
theorem row_main : Tryz.pinned.checked.prog.mainIs = some (true, "f3dbe281536021654853baeff578109e689837a08ac7a9773804881d42aa037b".toList) := by kernel_rfl
theorem no_go : (Tryz.pinned.checked.prog.funcs.toList.any Func.goes) = false := by kernel_rfl
theorem row_goes : false = Rows.worldPacketsRow.goesBy Tryz.pinned.checked.prog := Go.Ev.goes_none no_go _
theorem row_read : Go.Ev.paramsRead Tryz.prog [3, 3, 9] = true := by kernel_rfl
theorem row_types : Tryz.f3.params.toList = [3, 3, 9] := rfl
end Go.Proofs.YtdjocjkbdhhpdaaGreatDoor
