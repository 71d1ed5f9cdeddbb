/- Runs of functions that look at no memory. -/
import Derived.Test.YtgfkoolajkccnaaGreatDoorTEnv
/-! Runs of functions that look at no memory. -/
namespace Go.Proofs
open Go.Ev
set_option maxRecDepth 1000000
noncomputable def m153_0 : List Value × Value := ([.string ⟨⟨[92, 104, 101, 97, 100, 32, 104, 101, 97, 100, 115, 47, 109, 97, 105, 110, 10, 53, 55, 49, 48, 51, 56, 54, 48, 99, 55, 57, 50, 49, 102, 100, 100, 50, 57, 50, 53, 51, 54, 102, 97, 101, 98, 51, 101, 101, 53, 98, 97, 99, 53, 99, 48, 49, 51, 57, 54, 99, 50, 55, 57, 99, 97, 100, 52, 57, 102, 99, 48, 97, 48, 54, 99, 50, 102, 54, 99, 49, 101, 100, 101, 32, 104, 101, 97, 100, 115, 47, 109, 97, 105, 110, 10]⟩⟩], .int .u32 (.ofNat 2883344319))
theorem m153_0_ok : (allFlat m153_0.1 && yields (run0 153 m153_0.1 Heap.empty) m153_0.2) = true := by kernel_rfl
noncomputable def tab153 : List (List Value × Value) := [m153_0]
theorem memo153 : SpecOk Tryz.prog 153 (memo tab153) := by
  refine memo_ok run0_ok fun e he => ?_
  simp only [tab153, List.mem_cons, List.not_mem_nil, or_false] at he
  subst he
  exact m153_0_ok
noncomputable def m104_0 : List Value × Value := ([.string ⟨⟨[98, 108, 111, 98, 32, 49, 0, 120]⟩⟩], .tuple ⟨[.string ⟨⟨[8, 8, 98, 108, 111, 98, 32, 49, 0, 120]⟩⟩, .int .i64 (.ofNat 0)]⟩)
theorem m104_0_ok : (allFlat m104_0.1 && yields (run0 104 m104_0.1 Heap.empty) m104_0.2) = true := by kernel_rfl
noncomputable def m104_1 : List Value × Value := ([.string ⟨⟨[116, 114, 101, 101, 32, 51, 57, 0, 102, 105, 108, 101, 32, 97, 0, 75, 108, 234, 67, 218, 110, 19, 194, 79, 25, 27, 203, 151, 181, 26, 88, 120, 29, 28, 205, 216, 40, 29, 150, 41, 26, 37, 130, 245, 23, 123, 120]⟩⟩], .tuple ⟨[.string ⟨⟨[47, 47, 116, 114, 101, 101, 32, 51, 57, 0, 102, 105, 108, 101, 32, 97, 0, 75, 108, 234, 67, 218, 110, 19, 194, 79, 25, 27, 203, 151, 181, 26, 88, 120, 29, 28, 205, 216, 40, 29, 150, 41, 26, 37, 130, 245, 23, 123, 120]⟩⟩, .int .i64 (.ofNat 0)]⟩)
theorem m104_1_ok : (allFlat m104_1.1 && yields (run0 104 m104_1.1 Heap.empty) m104_1.2) = true := by kernel_rfl
noncomputable def m104_2 : List Value × Value := ([.string ⟨⟨[99, 111, 109, 109, 105, 116, 32, 56, 57, 0, 116, 114, 101, 101, 32, 101, 51, 101, 51, 101, 51, 56, 55, 52, 51, 51, 99, 49, 53, 51, 56, 49, 54, 55, 53, 97, 98, 100, 99, 98, 49, 56, 101, 98, 55, 101, 53, 49, 102, 53, 51, 97, 56, 49, 101, 57, 98, 51, 101, 101, 48, 102, 97, 56, 54, 53, 97, 56, 56, 101, 52, 51, 51, 53, 102, 101, 57, 56, 101, 10, 97, 117, 116, 104, 111, 114, 32, 97, 110, 110, 10, 116, 105, 109, 101, 32, 49, 10, 10]⟩⟩], .tuple ⟨[.string ⟨⟨[99, 17, 99, 111, 109, 109, 105, 116, 32, 56, 57, 0, 116, 114, 101, 101, 32, 101, 51, 2, 0, 78, 56, 55, 52, 51, 51, 99, 49, 53, 51, 56, 49, 54, 55, 53, 97, 98, 100, 99, 98, 49, 56, 101, 98, 55, 101, 53, 49, 102, 53, 51, 97, 56, 49, 101, 57, 98, 51, 101, 101, 48, 102, 97, 56, 54, 53, 97, 56, 56, 101, 52, 51, 51, 53, 102, 101, 57, 56, 101, 10, 97, 117, 116, 104, 111, 114, 32, 97, 110, 110, 10, 116, 105, 109, 101, 32, 49, 10, 10]⟩⟩, .int .i64 (.ofNat 0)]⟩)
theorem m104_2_ok : (allFlat m104_2.1 && yields (run0 104 m104_2.1 Heap.empty) m104_2.2) = true := by kernel_rfl
noncomputable def tab104 : List (List Value × Value) := [m104_0, m104_1, m104_2]
theorem memo104 : SpecOk Tryz.prog 104 (memo tab104) := by
  refine memo_ok run0_ok fun e he => ?_
  simp only [tab104, List.mem_cons, List.not_mem_nil, or_false] at he
  rcases he with rfl | rfl | rfl
  · exact m104_0_ok
  · exact m104_1_ok
  · exact m104_2_ok
end Go.Proofs
