/- The run of awake (fetch). -/
import Derived.Test.YtildicgoadiodaaGreatDoorTS3
/-! The run of awake (fetch). -/
namespace Go.Proofs
open Go.Ev
set_option maxRecDepth 1000000
noncomputable def aw : List Value × Value := ([], .bool true)
theorem aw_ok : (allFlat aw.1 && yields (run8 16 aw.1 Heap.empty) aw.2) = true := by kernel_rfl
noncomputable def specsA : List (FuncId × Spec) := (16, memo [aw]) :: specs4
theorem specsA_ok [Go.Ev.Sg] : ∀ e ∈ specsA, SpecOk Tryz.prog e.1 e.2 := by
  intro e he
  rcases List.mem_cons.1 he with rfl | he
  · refine memo_ok run8_ok fun e he => ?_
    simp only [List.mem_cons, List.not_mem_nil, or_false] at he
    subst he
    exact aw_ok
  · exact specs4_ok e he
noncomputable abbrev runA : Go.Ev.Call := evF (envOf specsA) 100000 200
theorem runA_ok [Go.Ev.Sg] : CallsOk Tryz.prog runA := calls_of specsA_ok _ _
end Go.Proofs
