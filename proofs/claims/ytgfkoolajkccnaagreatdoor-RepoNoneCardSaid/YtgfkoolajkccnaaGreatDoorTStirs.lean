/- The contract of sum.stir, out of its table; runs over it. -/
import Derived.Test.YtgfkoolajkccnaaGreatDoorTStirA
/-! The contract of sum.stir, out of its table; runs over it. -/
namespace Go.Proofs
open Go.Ev
noncomputable def stirs : List Win := [st00, st01, st02, st03]
theorem stirs_ok : SpecOk Tryz.prog 227 (winSpec 64 5 stirs) := by
  refine win_ok run0_ok (by decide) one5 fun e he => ?_
  simp only [stirs, List.mem_cons, List.not_mem_nil, or_false] at he
  rcases he with rfl | rfl | rfl | rfl
  · exact st00_ok
  · exact st01_ok
  · exact st02_ok
  · exact st03_ok

noncomputable def specs1 : List (FuncId × Spec) := (227, winSpec 64 5 stirs) :: specs0
theorem specs1_ok : ∀ e ∈ specs1, SpecOk Tryz.prog e.1 e.2 := by
  intro e he
  rcases List.mem_cons.1 he with rfl | he
  · exact stirs_ok
  · exact specs0_ok e he
noncomputable abbrev run1 : Go.Ev.Call := evF (envOf specs1) 100000 200
theorem run1_ok : CallsOk Tryz.prog run1 := calls_of specs1_ok _ _
end Go.Proofs
