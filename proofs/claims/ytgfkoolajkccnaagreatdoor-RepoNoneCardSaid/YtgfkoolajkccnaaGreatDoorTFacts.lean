/- The row's closed facts, each in a declaration of its own: one theorem for all of them is too much for the kernel's memory. -/
import Derived.Test.YtgfkoolajkccnaaGreatDoorRows
import Derived.WalkKit
import Derived.ProofKit
import Derived.SevenTiedAt
/-! The row's closed facts, each in a declaration of its own: one theorem for all of them is too much for the kernel's memory. -/
namespace Go.Proofs.YtgfkoolajkccnaaGreatDoor
open Go.RowKit Go.ChangeShapes Go.WideShapes Go.ChangeAt Go.ChangeMaps

theorem rowNamed : Tryz.pinned.checked.prog.funcNamed Rows.repoNoneRow.func = some 3 := by kernel_rfl
theorem row_laid : laidOutB Tryz.pinned.checked.prog = true := by kernel_rfl
theorem row_maps : mapsRowed Tryz.pinned.checked.prog = true := by kernel_rfl
theorem row_inPlace : (Rows.repoNoneRow.inPlace == Tryz.pinned.checked.prog.inPlace 3) = true := by kernel_rfl
theorem row_unfollowed : (Rows.repoNoneRow.unfollowed == Tryz.pinned.checked.prog.unfollowed 3) = true := by kernel_rfl
theorem row_recurses : (Rows.repoNoneRow.recurses == Tryz.pinned.checked.prog.recurses 3) = true := by kernel_rfl
theorem row_named : (Rows.repoNoneRow.named == Tryz.pinned.checked.prog.varsNamed 3) = true := by kernel_rfl
theorem row_plainKeys : (Rows.repoNoneRow.plainKeys == Tryz.pinned.checked.prog.plainKeys) = true := by kernel_rfl
theorem row_heard : Tryz.pinned.checked.prog.stopsHeard = true := by kernel_rfl
theorem row_enter : Tryz.pinned.checked.prog.mayEnter = true := by kernel_rfl
theorem rowJoined : joinedFacts Tryz.pinned.checked.prog 3 Tryz.f3 Rows.repoNoneSpec Rows.repoNoneRow = true := by
  simp only [joinedFacts, row_laid, row_maps, row_inPlace, row_unfollowed, row_recurses, row_named, row_plainKeys, row_heard, row_enter, Bool.and_true, Bool.and_eq_true]
  repeat' refine And.intro ?_ ?_
  all_goals kernel_rfl
theorem rowInst : Func.isInstance Tryz.pinned.checked.prog Tryz.f3 Rows.repoNoneRow.origin Rows.repoNoneRow.targs := of_decide_eq_true (by kernel_rfl)
theorem rowWrap : Func.isWrapper Tryz.pinned.checked.prog Tryz.f3 Rows.repoNoneRow.wrapper Rows.repoNoneRow.mainSum := by
  unfold Func.isWrapper
  first
  | (rw [if_pos (by decide +kernel)]; kernel_rfl)
  | (rw [if_neg (by decide +kernel)]; exact ⟨rfl, rfl⟩)
theorem row_text : Rows.repoNoneRow.wfByText (OpenSpec.ofChange Rows.repoNoneSpec) = true := by kernel_rfl
theorem row_looks : true = Tryz.pinned.checked.prog.looks [] := by kernel_rfl
theorem row_main : Tryz.pinned.checked.prog.mainIs = some (true, "a80ad1aec0a3c6e3af63faa3eaf6deac5a6cb6d06fd529f574778d57a5a801bd".toList) := by kernel_rfl
theorem row_goes : false = Rows.repoNoneRow.goesBy Tryz.pinned.checked.prog := by kernel_rfl
end Go.Proofs.YtgfkoolajkccnaaGreatDoor
