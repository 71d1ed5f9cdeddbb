/- The contracts of the whole run. -/
import Derived.Test.YtgfkoolajkccnaaGreatDoorTMemoA
import Derived.Test.YtgfkoolajkccnaaGreatDoorTMemoC
import Derived.Test.YtgfkoolajkccnaaGreatDoorTMemoB
import Derived.Test.YtgfkoolajkccnaaGreatDoorTPath
/-! The contracts of the whole run. -/
namespace Go.Proofs
open Go.Ev
noncomputable def specs2 : List (FuncId × Spec) := [(103, memo tab103), (143, memo tab143), (90, memo tab90), (154, memo tab154), (116, memo tab116), (153, memo tab153), (104, memo tab104), (69, sHex), (106, sPath)] ++ specs1
theorem specs2_ok : ∀ e ∈ specs2, SpecOk Tryz.prog e.1 e.2 := by
  intro e he
  rcases List.mem_append.1 he with he | he
  · simp only [List.mem_cons, List.not_mem_nil, or_false] at he
    rcases he with rfl | rfl | rfl | rfl | rfl | rfl | rfl | rfl | rfl
    · exact memo103
    · exact memo143
    · exact memo90
    · exact memo154
    · exact memo116
    · exact memo153
    · exact memo104
    · exact hex72
    · exact path53
  · exact specs1_ok e he
noncomputable abbrev run2 : Go.Ev.Call := evF (envOf specs2) 100000 200
theorem run2_ok : CallsOk Tryz.prog run2 := calls_of specs2_ok _ _
end Go.Proofs
