/- A run of pollardref07.ID. -/
import Derived.Test.YtiejofbjngajkaaGreatDoorTEnv
/-! A run of pollardref07.ID. -/
namespace Go.Proofs
open Go.Ev
set_option maxRecDepth 1000000
noncomputable def m43_0 : List Value × Value := ([.string ⟨⟨[98, 108, 111, 98, 32, 49, 0, 98]⟩⟩], .string ⟨⟨[160, 188, 217, 164, 93, 36, 198, 160, 227, 116, 138, 165, 63, 2, 227, 162, 196, 206, 163, 46, 3, 146, 254, 235, 48, 74, 113, 160, 138, 25, 62, 155]⟩⟩)
theorem m43_0_ok : (allFlat m43_0.1 && yields (run0 43 m43_0.1 Heap.empty) m43_0.2) = true := by kernel_rfl
noncomputable def tab43 : List (List Value × Value) := [m43_0]
theorem memo43 : SpecOk Tryz.prog 43 (memo tab43) := by
  refine memo_ok run0_ok fun e he => ?_
  simp only [tab43, List.mem_cons, List.not_mem_nil, or_false] at he
  subst he
  exact m43_0_ok
end Go.Proofs
