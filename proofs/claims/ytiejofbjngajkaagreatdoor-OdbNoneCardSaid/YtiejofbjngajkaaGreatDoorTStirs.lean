/- The contract of sum.stir, out of its table; runs over it. -/
import Derived.Test.YtiejofbjngajkaaGreatDoorTStirA
import Derived.Test.YtiejofbjngajkaaGreatDoorTStirB
import Derived.Test.YtiejofbjngajkaaGreatDoorTStirC
import Derived.Test.YtiejofbjngajkaaGreatDoorTStirD
/-! The contract of sum.stir, out of its table; runs over it. -/
namespace Go.Proofs
open Go.Ev
noncomputable def stirs : List Win := [st00, st01, st02, st03, st04, st05, st06, st07, st08, st09, st10, st11, st12, st13, st14, st15, st16, st17, st18, st19, st20, st21]
theorem stirs_ok : SpecOk Tryz.prog 183 (winSpec 64 5 stirs) := by
  refine win_ok run0_ok (by decide) one5 fun e he => ?_
  simp only [stirs, List.mem_cons, List.not_mem_nil, or_false] at he
  rcases he with rfl | rfl | rfl | rfl | rfl | rfl | rfl | rfl | rfl | rfl | rfl | rfl | rfl | rfl | rfl | rfl | rfl | rfl | rfl | rfl | rfl | rfl
  · exact st00_ok
  · exact st01_ok
  · exact st02_ok
  · exact st03_ok
  · exact st04_ok
  · exact st05_ok
  · exact st06_ok
  · exact st07_ok
  · exact st08_ok
  · exact st09_ok
  · exact st10_ok
  · exact st11_ok
  · exact st12_ok
  · exact st13_ok
  · exact st14_ok
  · exact st15_ok
  · exact st16_ok
  · exact st17_ok
  · exact st18_ok
  · exact st19_ok
  · exact st20_ok
  · exact st21_ok

noncomputable def specs1 : List (FuncId × Spec) := (183, winSpec 64 5 stirs) :: specs0
theorem specs1_ok : ∀ e ∈ specs1, SpecOk Tryz.prog e.1 e.2 := by
  intro e he
  rcases List.mem_cons.1 he with rfl | he
  · exact stirs_ok
  · exact specs0_ok e he
noncomputable abbrev run1 : Go.Ev.Call := evF (envOf specs1) 100000 200
theorem run1_ok : CallsOk Tryz.prog run1 := calls_of specs1_ok _ _
end Go.Proofs
