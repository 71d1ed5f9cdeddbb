/- Runs of sum.Of. -/
import Derived.Test.YtgfkoolajkccnaaGreatDoorTStirs
/-! Runs of sum.Of. -/
namespace Go.Proofs
open Go.Ev
set_option maxRecDepth 1000000
noncomputable def m103_0 : List Value × Value := ([.string ⟨⟨[98, 108, 111, 98, 32, 49, 0, 120]⟩⟩], .string ⟨⟨[75, 108, 234, 67, 218, 110, 19, 194, 79, 25, 27, 203, 151, 181, 26, 88, 120, 29, 28, 205, 216, 40, 29, 150, 41, 26, 37, 130, 245, 23, 123, 120]⟩⟩)
theorem m103_0_ok : (allFlat m103_0.1 && yields (run1 103 m103_0.1 Heap.empty) m103_0.2) = true := by kernel_rfl
noncomputable def m103_1 : List Value × Value := ([.string ⟨⟨[116, 114, 101, 101, 32, 51, 57, 0, 102, 105, 108, 101, 32, 97, 0, 75, 108, 234, 67, 218, 110, 19, 194, 79, 25, 27, 203, 151, 181, 26, 88, 120, 29, 28, 205, 216, 40, 29, 150, 41, 26, 37, 130, 245, 23, 123, 120]⟩⟩], .string ⟨⟨[227, 227, 227, 135, 67, 60, 21, 56, 22, 117, 171, 220, 177, 142, 183, 229, 31, 83, 168, 30, 155, 62, 224, 250, 134, 90, 136, 228, 51, 95, 233, 142]⟩⟩)
theorem m103_1_ok : (allFlat m103_1.1 && yields (run1 103 m103_1.1 Heap.empty) m103_1.2) = true := by kernel_rfl
noncomputable def m103_2 : List Value × Value := ([.string ⟨⟨[99, 111, 109, 109, 105, 116, 32, 56, 57, 0, 116, 114, 101, 101, 32, 101, 51, 101, 51, 101, 51, 56, 55, 52, 51, 51, 99, 49, 53, 51, 56, 49, 54, 55, 53, 97, 98, 100, 99, 98, 49, 56, 101, 98, 55, 101, 53, 49, 102, 53, 51, 97, 56, 49, 101, 57, 98, 51, 101, 101, 48, 102, 97, 56, 54, 53, 97, 56, 56, 101, 52, 51, 51, 53, 102, 101, 57, 56, 101, 10, 97, 117, 116, 104, 111, 114, 32, 97, 110, 110, 10, 116, 105, 109, 101, 32, 49, 10, 10]⟩⟩], .string ⟨⟨[87, 16, 56, 96, 199, 146, 31, 221, 41, 37, 54, 250, 235, 62, 229, 186, 197, 192, 19, 150, 194, 121, 202, 212, 159, 192, 160, 108, 47, 108, 30, 222]⟩⟩)
theorem m103_2_ok : (allFlat m103_2.1 && yields (run1 103 m103_2.1 Heap.empty) m103_2.2) = true := by kernel_rfl
noncomputable def tab103 : List (List Value × Value) := [m103_0, m103_1, m103_2]
theorem memo103 : SpecOk Tryz.prog 103 (memo tab103) := by
  refine memo_ok run1_ok fun e he => ?_
  simp only [tab103, List.mem_cons, List.not_mem_nil, or_false] at he
  rcases he with rfl | rfl | rfl
  · exact m103_0_ok
  · exact m103_1_ok
  · exact m103_2_ok
end Go.Proofs
