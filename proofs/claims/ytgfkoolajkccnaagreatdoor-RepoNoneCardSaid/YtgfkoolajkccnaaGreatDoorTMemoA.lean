/- Runs of functions that look at no memory. -/
import Derived.Test.YtgfkoolajkccnaaGreatDoorTEnv
/-! Runs of functions that look at no memory. -/
namespace Go.Proofs
open Go.Ev
set_option maxRecDepth 1000000
noncomputable def m143_0 : List Value × Value := ([.string ⟨⟨[111, 98, 106, 101, 99, 116, 115]⟩⟩], .bool true)
theorem m143_0_ok : (allFlat m143_0.1 && yields (run0 143 m143_0.1 Heap.empty) m143_0.2) = true := by kernel_rfl
noncomputable def m143_1 : List Value × Value := ([.string ⟨⟨[111, 98, 106, 101, 99, 116, 115, 47, 105, 110, 99, 111, 109, 105, 110, 103]⟩⟩], .bool true)
theorem m143_1_ok : (allFlat m143_1.1 && yields (run0 143 m143_1.1 Heap.empty) m143_1.2) = true := by kernel_rfl
noncomputable def m143_2 : List Value × Value := ([.string ⟨⟨[112, 97, 99, 107, 115]⟩⟩], .bool true)
theorem m143_2_ok : (allFlat m143_2.1 && yields (run0 143 m143_2.1 Heap.empty) m143_2.2) = true := by kernel_rfl
noncomputable def m143_3 : List Value × Value := ([.string ⟨⟨[112, 97, 99, 107, 115, 47, 105, 110, 99, 111, 109, 105, 110, 103]⟩⟩], .bool true)
theorem m143_3_ok : (allFlat m143_3.1 && yields (run0 143 m143_3.1 Heap.empty) m143_3.2) = true := by kernel_rfl
noncomputable def m143_4 : List Value × Value := ([.string ⟨⟨[114, 101, 102, 115, 46, 110, 101, 119]⟩⟩], .bool true)
theorem m143_4_ok : (allFlat m143_4.1 && yields (run0 143 m143_4.1 Heap.empty) m143_4.2) = true := by kernel_rfl
noncomputable def m143_5 : List Value × Value := ([.string ⟨⟨[114, 101, 102, 115]⟩⟩], .bool true)
theorem m143_5_ok : (allFlat m143_5.1 && yields (run0 143 m143_5.1 Heap.empty) m143_5.2) = true := by kernel_rfl
noncomputable def m143_6 : List Value × Value := ([.string ⟨⟨[111, 98, 106, 101, 99, 116, 115, 47, 52, 98, 47, 54, 99, 101, 97, 52, 51, 100, 97, 54, 101, 49, 51, 99, 50, 52, 102, 49, 57, 49, 98, 99, 98, 57, 55, 98, 53, 49, 97, 53, 56, 55, 56, 49, 100, 49, 99, 99, 100, 100, 56, 50, 56, 49, 100, 57, 54, 50, 57, 49, 97, 50, 53, 56, 50, 102, 53, 49, 55, 55, 98, 55, 56]⟩⟩], .bool true)
theorem m143_6_ok : (allFlat m143_6.1 && yields (run0 143 m143_6.1 Heap.empty) m143_6.2) = true := by kernel_rfl
noncomputable def m143_7 : List Value × Value := ([.string ⟨⟨[111, 98, 106, 101, 99, 116, 115, 47, 52, 98]⟩⟩], .bool true)
theorem m143_7_ok : (allFlat m143_7.1 && yields (run0 143 m143_7.1 Heap.empty) m143_7.2) = true := by kernel_rfl
noncomputable def m143_8 : List Value × Value := ([.string ⟨⟨[111, 98, 106, 101, 99, 116, 115, 47, 101, 51, 47, 101, 51, 101, 51, 56, 55, 52, 51, 51, 99, 49, 53, 51, 56, 49, 54, 55, 53, 97, 98, 100, 99, 98, 49, 56, 101, 98, 55, 101, 53, 49, 102, 53, 51, 97, 56, 49, 101, 57, 98, 51, 101, 101, 48, 102, 97, 56, 54, 53, 97, 56, 56, 101, 52, 51, 51, 53, 102, 101, 57, 56, 101]⟩⟩], .bool true)
theorem m143_8_ok : (allFlat m143_8.1 && yields (run0 143 m143_8.1 Heap.empty) m143_8.2) = true := by kernel_rfl
noncomputable def m143_9 : List Value × Value := ([.string ⟨⟨[111, 98, 106, 101, 99, 116, 115, 47, 101, 51]⟩⟩], .bool true)
theorem m143_9_ok : (allFlat m143_9.1 && yields (run0 143 m143_9.1 Heap.empty) m143_9.2) = true := by kernel_rfl
noncomputable def m143_10 : List Value × Value := ([.string ⟨⟨[111, 98, 106, 101, 99, 116, 115, 47, 53, 55, 47, 49, 48, 51, 56, 54, 48, 99, 55, 57, 50, 49, 102, 100, 100, 50, 57, 50, 53, 51, 54, 102, 97, 101, 98, 51, 101, 101, 53, 98, 97, 99, 53, 99, 48, 49, 51, 57, 54, 99, 50, 55, 57, 99, 97, 100, 52, 57, 102, 99, 48, 97, 48, 54, 99, 50, 102, 54, 99, 49, 101, 100, 101]⟩⟩], .bool true)
theorem m143_10_ok : (allFlat m143_10.1 && yields (run0 143 m143_10.1 Heap.empty) m143_10.2) = true := by kernel_rfl
noncomputable def m143_11 : List Value × Value := ([.string ⟨⟨[111, 98, 106, 101, 99, 116, 115, 47, 53, 55]⟩⟩], .bool true)
theorem m143_11_ok : (allFlat m143_11.1 && yields (run0 143 m143_11.1 Heap.empty) m143_11.2) = true := by kernel_rfl
noncomputable def tab143 : List (List Value × Value) := [m143_0, m143_1, m143_2, m143_3, m143_4, m143_5, m143_6, m143_7, m143_8, m143_9, m143_10, m143_11]
theorem memo143 : SpecOk Tryz.prog 143 (memo tab143) := by
  refine memo_ok run0_ok fun e he => ?_
  simp only [tab143, List.mem_cons, List.not_mem_nil, or_false] at he
  rcases he with rfl | rfl | rfl | rfl | rfl | rfl | rfl | rfl | rfl | rfl | rfl | rfl
  · exact m143_0_ok
  · exact m143_1_ok
  · exact m143_2_ok
  · exact m143_3_ok
  · exact m143_4_ok
  · exact m143_5_ok
  · exact m143_6_ok
  · exact m143_7_ok
  · exact m143_8_ok
  · exact m143_9_ok
  · exact m143_10_ok
  · exact m143_11_ok
noncomputable def m90_0 : List Value × Value := ([.string ⟨⟨[111, 98, 106, 101, 99, 116, 115]⟩⟩], .string ⟨⟨[]⟩⟩)
theorem m90_0_ok : (allFlat m90_0.1 && yields (run0 90 m90_0.1 Heap.empty) m90_0.2) = true := by kernel_rfl
noncomputable def m90_1 : List Value × Value := ([.string ⟨⟨[112, 97, 99, 107, 115]⟩⟩], .string ⟨⟨[]⟩⟩)
theorem m90_1_ok : (allFlat m90_1.1 && yields (run0 90 m90_1.1 Heap.empty) m90_1.2) = true := by kernel_rfl
noncomputable def m90_2 : List Value × Value := ([.string ⟨⟨[111, 98, 106, 101, 99, 116, 115, 47, 52, 98]⟩⟩], .string ⟨⟨[111, 98, 106, 101, 99, 116, 115]⟩⟩)
theorem m90_2_ok : (allFlat m90_2.1 && yields (run0 90 m90_2.1 Heap.empty) m90_2.2) = true := by kernel_rfl
noncomputable def m90_3 : List Value × Value := ([.string ⟨⟨[111, 98, 106, 101, 99, 116, 115, 47, 105, 110, 99, 111, 109, 105, 110, 103]⟩⟩], .string ⟨⟨[111, 98, 106, 101, 99, 116, 115]⟩⟩)
theorem m90_3_ok : (allFlat m90_3.1 && yields (run0 90 m90_3.1 Heap.empty) m90_3.2) = true := by kernel_rfl
noncomputable def m90_4 : List Value × Value := ([.string ⟨⟨[111, 98, 106, 101, 99, 116, 115, 47, 52, 98, 47, 54, 99, 101, 97, 52, 51, 100, 97, 54, 101, 49, 51, 99, 50, 52, 102, 49, 57, 49, 98, 99, 98, 57, 55, 98, 53, 49, 97, 53, 56, 55, 56, 49, 100, 49, 99, 99, 100, 100, 56, 50, 56, 49, 100, 57, 54, 50, 57, 49, 97, 50, 53, 56, 50, 102, 53, 49, 55, 55, 98, 55, 56]⟩⟩], .string ⟨⟨[111, 98, 106, 101, 99, 116, 115, 47, 52, 98]⟩⟩)
theorem m90_4_ok : (allFlat m90_4.1 && yields (run0 90 m90_4.1 Heap.empty) m90_4.2) = true := by kernel_rfl
noncomputable def m90_5 : List Value × Value := ([.string ⟨⟨[111, 98, 106, 101, 99, 116, 115, 47, 101, 51]⟩⟩], .string ⟨⟨[111, 98, 106, 101, 99, 116, 115]⟩⟩)
theorem m90_5_ok : (allFlat m90_5.1 && yields (run0 90 m90_5.1 Heap.empty) m90_5.2) = true := by kernel_rfl
noncomputable def m90_6 : List Value × Value := ([.string ⟨⟨[111, 98, 106, 101, 99, 116, 115, 47, 101, 51, 47, 101, 51, 101, 51, 56, 55, 52, 51, 51, 99, 49, 53, 51, 56, 49, 54, 55, 53, 97, 98, 100, 99, 98, 49, 56, 101, 98, 55, 101, 53, 49, 102, 53, 51, 97, 56, 49, 101, 57, 98, 51, 101, 101, 48, 102, 97, 56, 54, 53, 97, 56, 56, 101, 52, 51, 51, 53, 102, 101, 57, 56, 101]⟩⟩], .string ⟨⟨[111, 98, 106, 101, 99, 116, 115, 47, 101, 51]⟩⟩)
theorem m90_6_ok : (allFlat m90_6.1 && yields (run0 90 m90_6.1 Heap.empty) m90_6.2) = true := by kernel_rfl
noncomputable def m90_7 : List Value × Value := ([.string ⟨⟨[111, 98, 106, 101, 99, 116, 115, 47, 53, 55]⟩⟩], .string ⟨⟨[111, 98, 106, 101, 99, 116, 115]⟩⟩)
theorem m90_7_ok : (allFlat m90_7.1 && yields (run0 90 m90_7.1 Heap.empty) m90_7.2) = true := by kernel_rfl
noncomputable def m90_8 : List Value × Value := ([.string ⟨⟨[111, 98, 106, 101, 99, 116, 115, 47, 53, 55, 47, 49, 48, 51, 56, 54, 48, 99, 55, 57, 50, 49, 102, 100, 100, 50, 57, 50, 53, 51, 54, 102, 97, 101, 98, 51, 101, 101, 53, 98, 97, 99, 53, 99, 48, 49, 51, 57, 54, 99, 50, 55, 57, 99, 97, 100, 52, 57, 102, 99, 48, 97, 48, 54, 99, 50, 102, 54, 99, 49, 101, 100, 101]⟩⟩], .string ⟨⟨[111, 98, 106, 101, 99, 116, 115, 47, 53, 55]⟩⟩)
theorem m90_8_ok : (allFlat m90_8.1 && yields (run0 90 m90_8.1 Heap.empty) m90_8.2) = true := by kernel_rfl
noncomputable def m90_9 : List Value × Value := ([.string ⟨⟨[114, 101, 102, 115, 46, 110, 101, 119]⟩⟩], .string ⟨⟨[]⟩⟩)
theorem m90_9_ok : (allFlat m90_9.1 && yields (run0 90 m90_9.1 Heap.empty) m90_9.2) = true := by kernel_rfl
noncomputable def m90_10 : List Value × Value := ([.string ⟨⟨[114, 101, 102, 115]⟩⟩], .string ⟨⟨[]⟩⟩)
theorem m90_10_ok : (allFlat m90_10.1 && yields (run0 90 m90_10.1 Heap.empty) m90_10.2) = true := by kernel_rfl
noncomputable def tab90 : List (List Value × Value) := [m90_0, m90_1, m90_2, m90_3, m90_4, m90_5, m90_6, m90_7, m90_8, m90_9, m90_10]
theorem memo90 : SpecOk Tryz.prog 90 (memo tab90) := by
  refine memo_ok run0_ok fun e he => ?_
  simp only [tab90, List.mem_cons, List.not_mem_nil, or_false] at he
  rcases he with rfl | rfl | rfl | rfl | rfl | rfl | rfl | rfl | rfl | rfl | rfl
  · exact m90_0_ok
  · exact m90_1_ok
  · exact m90_2_ok
  · exact m90_3_ok
  · exact m90_4_ok
  · exact m90_5_ok
  · exact m90_6_ok
  · exact m90_7_ok
  · exact m90_8_ok
  · exact m90_9_ok
  · exact m90_10_ok
noncomputable def m154_0 : List Value × Value := ([.string ⟨⟨[101, 51, 101, 51, 101, 51, 56, 55, 52, 51, 51, 99, 49, 53, 51, 56, 49, 54, 55, 53, 97, 98, 100, 99, 98, 49, 56, 101, 98, 55, 101, 53, 49, 102, 53, 51, 97, 56, 49, 101, 57, 98, 51, 101, 101, 48, 102, 97, 56, 54, 53, 97, 56, 56, 101, 52, 51, 51, 53, 102, 101, 57, 56, 101]⟩⟩], .tuple ⟨[.string ⟨⟨[227, 227, 227, 135, 67, 60, 21, 56, 22, 117, 171, 220, 177, 142, 183, 229, 31, 83, 168, 30, 155, 62, 224, 250, 134, 90, 136, 228, 51, 95, 233, 142]⟩⟩, .int .i64 (.ofNat 0)]⟩)
theorem m154_0_ok : (allFlat m154_0.1 && yields (run0 154 m154_0.1 Heap.empty) m154_0.2) = true := by kernel_rfl
noncomputable def m154_1 : List Value × Value := ([.string ⟨⟨[53, 55, 49, 48, 51, 56, 54, 48, 99, 55, 57, 50, 49, 102, 100, 100, 50, 57, 50, 53, 51, 54, 102, 97, 101, 98, 51, 101, 101, 53, 98, 97, 99, 53, 99, 48, 49, 51, 57, 54, 99, 50, 55, 57, 99, 97, 100, 52, 57, 102, 99, 48, 97, 48, 54, 99, 50, 102, 54, 99, 49, 101, 100, 101]⟩⟩], .tuple ⟨[.string ⟨⟨[87, 16, 56, 96, 199, 146, 31, 221, 41, 37, 54, 250, 235, 62, 229, 186, 197, 192, 19, 150, 194, 121, 202, 212, 159, 192, 160, 108, 47, 108, 30, 222]⟩⟩, .int .i64 (.ofNat 0)]⟩)
theorem m154_1_ok : (allFlat m154_1.1 && yields (run0 154 m154_1.1 Heap.empty) m154_1.2) = true := by kernel_rfl
noncomputable def tab154 : List (List Value × Value) := [m154_0, m154_1]
theorem memo154 : SpecOk Tryz.prog 154 (memo tab154) := by
  refine memo_ok run0_ok fun e he => ?_
  simp only [tab154, List.mem_cons, List.not_mem_nil, or_false] at he
  rcases he with rfl | rfl
  · exact m154_0_ok
  · exact m154_1_ok
noncomputable def m116_0 : List Value × Value := ([.string ⟨⟨[101, 51, 101, 51, 101, 51, 56, 55, 52, 51, 51, 99, 49, 53, 51, 56, 49, 54, 55, 53, 97, 98, 100, 99, 98, 49, 56, 101, 98, 55, 101, 53, 49, 102, 53, 51, 97, 56, 49, 101, 57, 98, 51, 101, 101, 48, 102, 97, 56, 54, 53, 97, 56, 56, 101, 52, 51, 51, 53, 102, 101, 57, 56, 101]⟩⟩], .tuple ⟨[.string ⟨⟨[227, 227, 227, 135, 67, 60, 21, 56, 22, 117, 171, 220, 177, 142, 183, 229, 31, 83, 168, 30, 155, 62, 224, 250, 134, 90, 136, 228, 51, 95, 233, 142]⟩⟩, .bool true]⟩)
theorem m116_0_ok : (allFlat m116_0.1 && yields (run0 116 m116_0.1 Heap.empty) m116_0.2) = true := by kernel_rfl
noncomputable def tab116 : List (List Value × Value) := [m116_0]
theorem memo116 : SpecOk Tryz.prog 116 (memo tab116) := by
  refine memo_ok run0_ok fun e he => ?_
  simp only [tab116, List.mem_cons, List.not_mem_nil, or_false] at he
  subst he
  exact m116_0_ok
end Go.Proofs
