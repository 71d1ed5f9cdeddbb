/- The contracts of the whole run. -/
import Derived.Test.YtiejofbjngajkaaGreatDoorTMemoA
import Derived.Test.YtiejofbjngajkaaGreatDoorTMemoB
import Derived.Test.YtiejofbjngajkaaGreatDoorTMemoC
import Derived.Test.YtiejofbjngajkaaGreatDoorTPath
/-! The contracts of the whole run. -/
namespace Go.Proofs
open Go.Ev
noncomputable def specs2 : List (FuncId × Spec) := [(63, memo tab63), (87, memo tab87), (78, memo tab78), (72, sHex), (137, memo tab137), (43, memo tab43), (53, sPath)] ++ specs1
theorem specs2_ok : ∀ e ∈ specs2, SpecOk Tryz.prog e.1 e.2 := by
  intro e he
  rcases List.mem_append.1 he with he | he
  · simp only [List.mem_cons, List.not_mem_nil, or_false] at he
    rcases he with rfl | rfl | rfl | rfl | rfl | rfl | rfl
    · exact memo63
    · exact memo87
    · exact memo78
    · exact hex72
    · exact memo137
    · exact memo43
    · exact path53
  · exact specs1_ok e he
noncomputable abbrev run2 : Go.Ev.Call := evF (envOf specs2) 100000 200
theorem run2_ok : CallsOk Tryz.prog run2 := calls_of specs2_ok _ _
end Go.Proofs
