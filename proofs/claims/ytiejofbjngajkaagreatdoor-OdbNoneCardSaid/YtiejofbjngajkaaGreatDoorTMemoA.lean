/- Runs of functions that look at no memory. -/
import Derived.Test.YtiejofbjngajkaaGreatDoorTEnv
/-! Runs of functions that look at no memory. -/
namespace Go.Proofs
open Go.Ev
set_option maxRecDepth 1000000
noncomputable def m87_0 : List Value × Value := ([.string ⟨⟨[111, 98, 106, 101, 99, 116, 115]⟩⟩], .bool true)
theorem m87_0_ok : (allFlat m87_0.1 && yields (run0 87 m87_0.1 Heap.empty) m87_0.2) = true := by kernel_rfl
noncomputable def m87_1 : List Value × Value := ([.string ⟨⟨[111, 98, 106, 101, 99, 116, 115, 47, 105, 110, 99, 111, 109, 105, 110, 103]⟩⟩], .bool true)
theorem m87_1_ok : (allFlat m87_1.1 && yields (run0 87 m87_1.1 Heap.empty) m87_1.2) = true := by kernel_rfl
noncomputable def m87_2 : List Value × Value := ([.string ⟨⟨[112, 97, 99, 107, 115]⟩⟩], .bool true)
theorem m87_2_ok : (allFlat m87_2.1 && yields (run0 87 m87_2.1 Heap.empty) m87_2.2) = true := by kernel_rfl
noncomputable def m87_3 : List Value × Value := ([.string ⟨⟨[112, 97, 99, 107, 115, 47, 105, 110, 99, 111, 109, 105, 110, 103]⟩⟩], .bool true)
theorem m87_3_ok : (allFlat m87_3.1 && yields (run0 87 m87_3.1 Heap.empty) m87_3.2) = true := by kernel_rfl
noncomputable def m87_4 : List Value × Value := ([.string ⟨⟨[112, 97, 99, 107, 115, 47, 48, 56, 49, 101, 53, 101, 48, 101, 100, 97, 54, 53, 55, 49, 54, 49, 50, 53, 98, 102, 99, 49, 57, 101, 48, 55, 100, 53, 97, 53, 52, 97, 51, 97, 98, 57, 55, 101, 97, 57, 51, 101, 49, 54, 97, 100, 57, 99, 51, 100, 97, 99, 51, 51, 49, 102, 100, 54, 48, 49, 49, 100, 102, 50, 46, 112, 97, 99, 107]⟩⟩], .bool true)
theorem m87_4_ok : (allFlat m87_4.1 && yields (run0 87 m87_4.1 Heap.empty) m87_4.2) = true := by kernel_rfl
noncomputable def m87_5 : List Value × Value := ([.string ⟨⟨[112, 97, 99, 107, 115, 47, 48, 56, 49, 101, 53, 101, 48, 101, 100, 97, 54, 53, 55, 49, 54, 49, 50, 53, 98, 102, 99, 49, 57, 101, 48, 55, 100, 53, 97, 53, 52, 97, 51, 97, 98, 57, 55, 101, 97, 57, 51, 101, 49, 54, 97, 100, 57, 99, 51, 100, 97, 99, 51, 51, 49, 102, 100, 54, 48, 49, 49, 100, 102, 50, 46, 105, 110, 100, 101, 120]⟩⟩], .bool true)
theorem m87_5_ok : (allFlat m87_5.1 && yields (run0 87 m87_5.1 Heap.empty) m87_5.2) = true := by kernel_rfl
noncomputable def m87_6 : List Value × Value := ([.string ⟨⟨[111, 98, 106, 101, 99, 116, 115, 47, 97, 48, 47, 98, 99, 100, 57, 97, 52, 53, 100, 50, 52, 99, 54, 97, 48, 101, 51, 55, 52, 56, 97, 97, 53, 51, 102, 48, 50, 101, 51, 97, 50, 99, 52, 99, 101, 97, 51, 50, 101, 48, 51, 57, 50, 102, 101, 101, 98, 51, 48, 52, 97, 55, 49, 97, 48, 56, 97, 49, 57, 51, 101, 57, 98]⟩⟩], .bool true)
theorem m87_6_ok : (allFlat m87_6.1 && yields (run0 87 m87_6.1 Heap.empty) m87_6.2) = true := by kernel_rfl
noncomputable def tab87 : List (List Value × Value) := [m87_0, m87_1, m87_2, m87_3, m87_4, m87_5, m87_6]
theorem memo87 : SpecOk Tryz.prog 87 (memo tab87) := by
  refine memo_ok run0_ok fun e he => ?_
  simp only [tab87, List.mem_cons, List.not_mem_nil, or_false] at he
  rcases he with rfl | rfl | rfl | rfl | rfl | rfl | rfl
  · exact m87_0_ok
  · exact m87_1_ok
  · exact m87_2_ok
  · exact m87_3_ok
  · exact m87_4_ok
  · exact m87_5_ok
  · exact m87_6_ok
noncomputable def m78_0 : List Value × Value := ([.string ⟨⟨[111, 98, 106, 101, 99, 116, 115]⟩⟩], .string ⟨⟨[]⟩⟩)
theorem m78_0_ok : (allFlat m78_0.1 && yields (run0 78 m78_0.1 Heap.empty) m78_0.2) = true := by kernel_rfl
noncomputable def m78_1 : List Value × Value := ([.string ⟨⟨[112, 97, 99, 107, 115]⟩⟩], .string ⟨⟨[]⟩⟩)
theorem m78_1_ok : (allFlat m78_1.1 && yields (run0 78 m78_1.1 Heap.empty) m78_1.2) = true := by kernel_rfl
noncomputable def m78_2 : List Value × Value := ([.string ⟨⟨[112, 97, 99, 107, 115, 47, 105, 110, 99, 111, 109, 105, 110, 103]⟩⟩], .string ⟨⟨[112, 97, 99, 107, 115]⟩⟩)
theorem m78_2_ok : (allFlat m78_2.1 && yields (run0 78 m78_2.1 Heap.empty) m78_2.2) = true := by kernel_rfl
noncomputable def m78_3 : List Value × Value := ([.string ⟨⟨[112, 97, 99, 107, 115, 47, 48, 56, 49, 101, 53, 101, 48, 101, 100, 97, 54, 53, 55, 49, 54, 49, 50, 53, 98, 102, 99, 49, 57, 101, 48, 55, 100, 53, 97, 53, 52, 97, 51, 97, 98, 57, 55, 101, 97, 57, 51, 101, 49, 54, 97, 100, 57, 99, 51, 100, 97, 99, 51, 51, 49, 102, 100, 54, 48, 49, 49, 100, 102, 50, 46, 112, 97, 99, 107]⟩⟩], .string ⟨⟨[112, 97, 99, 107, 115]⟩⟩)
theorem m78_3_ok : (allFlat m78_3.1 && yields (run0 78 m78_3.1 Heap.empty) m78_3.2) = true := by kernel_rfl
noncomputable def m78_4 : List Value × Value := ([.string ⟨⟨[112, 97, 99, 107, 115, 47, 48, 56, 49, 101, 53, 101, 48, 101, 100, 97, 54, 53, 55, 49, 54, 49, 50, 53, 98, 102, 99, 49, 57, 101, 48, 55, 100, 53, 97, 53, 52, 97, 51, 97, 98, 57, 55, 101, 97, 57, 51, 101, 49, 54, 97, 100, 57, 99, 51, 100, 97, 99, 51, 51, 49, 102, 100, 54, 48, 49, 49, 100, 102, 50, 46, 105, 110, 100, 101, 120]⟩⟩], .string ⟨⟨[112, 97, 99, 107, 115]⟩⟩)
theorem m78_4_ok : (allFlat m78_4.1 && yields (run0 78 m78_4.1 Heap.empty) m78_4.2) = true := by kernel_rfl
noncomputable def tab78 : List (List Value × Value) := [m78_0, m78_1, m78_2, m78_3, m78_4]
theorem memo78 : SpecOk Tryz.prog 78 (memo tab78) := by
  refine memo_ok run0_ok fun e he => ?_
  simp only [tab78, List.mem_cons, List.not_mem_nil, or_false] at he
  rcases he with rfl | rfl | rfl | rfl | rfl
  · exact m78_0_ok
  · exact m78_1_ok
  · exact m78_2_ok
  · exact m78_3_ok
  · exact m78_4_ok
noncomputable def m137_0 : List Value × Value := ([.int .i64 (.ofNat 0)], .string ⟨⟨[0, 0, 0, 0]⟩⟩)
theorem m137_0_ok : (allFlat m137_0.1 && yields (run0 137 m137_0.1 Heap.empty) m137_0.2) = true := by kernel_rfl
noncomputable def m137_1 : List Value × Value := ([.int .i64 (.ofNat 1)], .string ⟨⟨[0, 0, 0, 1]⟩⟩)
theorem m137_1_ok : (allFlat m137_1.1 && yields (run0 137 m137_1.1 Heap.empty) m137_1.2) = true := by kernel_rfl
noncomputable def m137_2 : List Value × Value := ([.int .i64 (.ofNat 2)], .string ⟨⟨[0, 0, 0, 2]⟩⟩)
theorem m137_2_ok : (allFlat m137_2.1 && yields (run0 137 m137_2.1 Heap.empty) m137_2.2) = true := by kernel_rfl
noncomputable def m137_3 : List Value × Value := ([.int .i64 (.ofNat 26)], .string ⟨⟨[0, 0, 0, 26]⟩⟩)
theorem m137_3_ok : (allFlat m137_3.1 && yields (run0 137 m137_3.1 Heap.empty) m137_3.2) = true := by kernel_rfl
noncomputable def m137_4 : List Value × Value := ([.int .i64 (.ofNat 14)], .string ⟨⟨[0, 0, 0, 14]⟩⟩)
theorem m137_4_ok : (allFlat m137_4.1 && yields (run0 137 m137_4.1 Heap.empty) m137_4.2) = true := by kernel_rfl
noncomputable def tab137 : List (List Value × Value) := [m137_0, m137_1, m137_2, m137_3, m137_4]
theorem memo137 : SpecOk Tryz.prog 137 (memo tab137) := by
  refine memo_ok run0_ok fun e he => ?_
  simp only [tab137, List.mem_cons, List.not_mem_nil, or_false] at he
  rcases he with rfl | rfl | rfl | rfl | rfl
  · exact m137_0_ok
  · exact m137_1_ok
  · exact m137_2_ok
  · exact m137_3_ok
  · exact m137_4_ok
end Go.Proofs
