/- Runs of functions that look at no memory but their own. -/
import Derived.Test.YtdjocjkbdhhpdaaGreatDoorTEnv
/-! Runs of functions that look at no memory but their own. -/
namespace Go.Proofs
open Go.Ev
set_option maxRecDepth 1000000
noncomputable def m182_2 : List Value × Value := ([.string ⟨⟨[99, 111, 109, 109, 105, 116, 32, 56, 57, 0, 116, 114, 101, 101, 32, 101, 51, 101, 51, 101, 51, 56, 55, 52, 51, 51, 99, 49, 53, 51, 56, 49, 54, 55, 53, 97, 98, 100, 99, 98, 49, 56, 101, 98, 55, 101, 53, 49, 102, 53, 51, 97, 56, 49, 101, 57, 98, 51, 101, 101, 48, 102, 97, 56, 54, 53, 97, 56, 56, 101, 52, 51, 51, 53, 102, 101, 57, 56, 101, 10, 97, 117, 116, 104, 111, 114, 32, 97, 110, 110, 10, 116, 105, 109, 101, 32, 48, 10, 10]⟩⟩], .tuple ⟨[.int .i64 (.ofNat 3), .string ⟨⟨[116, 114, 101, 101, 32, 101, 51, 101, 51, 101, 51, 56, 55, 52, 51, 51, 99, 49, 53, 51, 56, 49, 54, 55, 53, 97, 98, 100, 99, 98, 49, 56, 101, 98, 55, 101, 53, 49, 102, 53, 51, 97, 56, 49, 101, 57, 98, 51, 101, 101, 48, 102, 97, 56, 54, 53, 97, 56, 56, 101, 52, 51, 51, 53, 102, 101, 57, 56, 101, 10, 97, 117, 116, 104, 111, 114, 32, 97, 110, 110, 10, 116, 105, 109, 101, 32, 48, 10, 10]⟩⟩, .int .i64 (.ofNat 0)]⟩)
theorem m182_2_ok : (allFlat m182_2.1 && yields (run0 182 m182_2.1 Heap.empty) m182_2.2) = true := by kernel_rfl
noncomputable def m231_0 : List Value × Value := ([.string ⟨⟨[111, 98, 106, 101, 99, 116, 115]⟩⟩, .int .u8 (.ofNat 47)], .int .i64 (.negSucc 0))
theorem m231_0_ok : (allFlat m231_0.1 && yields (run0 231 m231_0.1 Heap.empty) m231_0.2) = true := by kernel_rfl
noncomputable def m231_1 : List Value × Value := ([.string ⟨⟨[112, 97, 99, 107, 115]⟩⟩, .int .u8 (.ofNat 47)], .int .i64 (.negSucc 0))
theorem m231_1_ok : (allFlat m231_1.1 && yields (run0 231 m231_1.1 Heap.empty) m231_1.2) = true := by kernel_rfl
noncomputable def m231_2 : List Value × Value := ([.string ⟨⟨[111, 98, 106, 101, 99, 116, 115, 47, 52, 98]⟩⟩, .int .u8 (.ofNat 47)], .int .i64 (.ofNat 7))
theorem m231_2_ok : (allFlat m231_2.1 && yields (run0 231 m231_2.1 Heap.empty) m231_2.2) = true := by kernel_rfl
noncomputable def m231_3 : List Value × Value := ([.string ⟨⟨[111, 98, 106, 101, 99, 116, 115, 47, 105, 110, 99, 111, 109, 105, 110, 103]⟩⟩, .int .u8 (.ofNat 47)], .int .i64 (.ofNat 7))
theorem m231_3_ok : (allFlat m231_3.1 && yields (run0 231 m231_3.1 Heap.empty) m231_3.2) = true := by kernel_rfl
noncomputable def m231_4 : List Value × Value := ([.string ⟨⟨[111, 98, 106, 101, 99, 116, 115, 47, 52, 98, 47, 54, 99, 101, 97, 52, 51, 100, 97, 54, 101, 49, 51, 99, 50, 52, 102, 49, 57, 49, 98, 99, 98, 57, 55, 98, 53, 49, 97, 53, 56, 55, 56, 49, 100, 49, 99, 99, 100, 100, 56, 50, 56, 49, 100, 57, 54, 50, 57, 49, 97, 50, 53, 56, 50, 102, 53, 49, 55, 55, 98, 55, 56]⟩⟩, .int .u8 (.ofNat 47)], .int .i64 (.ofNat 10))
theorem m231_4_ok : (allFlat m231_4.1 && yields (run0 231 m231_4.1 Heap.empty) m231_4.2) = true := by kernel_rfl
noncomputable def m231_5 : List Value × Value := ([.string ⟨⟨[111, 98, 106, 101, 99, 116, 115, 47, 101, 51]⟩⟩, .int .u8 (.ofNat 47)], .int .i64 (.ofNat 7))
theorem m231_5_ok : (allFlat m231_5.1 && yields (run0 231 m231_5.1 Heap.empty) m231_5.2) = true := by kernel_rfl
noncomputable def m231_6 : List Value × Value := ([.string ⟨⟨[111, 98, 106, 101, 99, 116, 115, 47, 101, 51, 47, 101, 51, 101, 51, 56, 55, 52, 51, 51, 99, 49, 53, 51, 56, 49, 54, 55, 53, 97, 98, 100, 99, 98, 49, 56, 101, 98, 55, 101, 53, 49, 102, 53, 51, 97, 56, 49, 101, 57, 98, 51, 101, 101, 48, 102, 97, 56, 54, 53, 97, 56, 56, 101, 52, 51, 51, 53, 102, 101, 57, 56, 101]⟩⟩, .int .u8 (.ofNat 47)], .int .i64 (.ofNat 10))
theorem m231_6_ok : (allFlat m231_6.1 && yields (run0 231 m231_6.1 Heap.empty) m231_6.2) = true := by kernel_rfl
noncomputable def m231_7 : List Value × Value := ([.string ⟨⟨[111, 98, 106, 101, 99, 116, 115, 47, 100, 98]⟩⟩, .int .u8 (.ofNat 47)], .int .i64 (.ofNat 7))
theorem m231_7_ok : (allFlat m231_7.1 && yields (run0 231 m231_7.1 Heap.empty) m231_7.2) = true := by kernel_rfl
noncomputable def m231_8 : List Value × Value := ([.string ⟨⟨[111, 98, 106, 101, 99, 116, 115, 47, 100, 98, 47, 50, 101, 49, 101, 54, 102, 52, 100, 55, 54, 51, 48, 55, 57, 98, 98, 49, 98, 49, 53, 51, 50, 101, 102, 50, 53, 52, 48, 101, 100, 99, 97, 49, 98, 100, 52, 52, 49, 99, 97, 56, 48, 51, 51, 51, 98, 52, 97, 52, 101, 50, 57, 51, 99, 54, 102, 50, 51, 99, 49, 55, 101]⟩⟩, .int .u8 (.ofNat 47)], .int .i64 (.ofNat 10))
theorem m231_8_ok : (allFlat m231_8.1 && yields (run0 231 m231_8.1 Heap.empty) m231_8.2) = true := by kernel_rfl
noncomputable def m231_9 : List Value × Value := ([.string ⟨⟨[114, 101, 102, 115, 46, 110, 101, 119]⟩⟩, .int .u8 (.ofNat 47)], .int .i64 (.negSucc 0))
theorem m231_9_ok : (allFlat m231_9.1 && yields (run0 231 m231_9.1 Heap.empty) m231_9.2) = true := by kernel_rfl
noncomputable def m231_10 : List Value × Value := ([.string ⟨⟨[114, 101, 102, 115]⟩⟩, .int .u8 (.ofNat 47)], .int .i64 (.negSucc 0))
theorem m231_10_ok : (allFlat m231_10.1 && yields (run0 231 m231_10.1 Heap.empty) m231_10.2) = true := by kernel_rfl
noncomputable def m231_11 : List Value × Value := ([.string ⟨⟨[112, 97, 99, 107, 115, 47, 105, 110, 99, 111, 109, 105, 110, 103]⟩⟩, .int .u8 (.ofNat 47)], .int .i64 (.ofNat 5))
theorem m231_11_ok : (allFlat m231_11.1 && yields (run0 231 m231_11.1 Heap.empty) m231_11.2) = true := by kernel_rfl
noncomputable def m231_12 : List Value × Value := ([.string ⟨⟨[112, 97, 99, 107, 115, 47, 52, 102, 57, 98, 100, 51, 55, 52, 55, 55, 49, 55, 53, 56, 102, 98, 49, 56, 98, 52, 100, 99, 57, 98, 98, 101, 101, 51, 57, 57, 55, 54, 49, 100, 100, 100, 54, 99, 49, 54, 55, 54, 101, 51, 50, 49, 102, 56, 50, 57, 52, 101, 57, 57, 49, 55, 48, 56, 52, 100, 48, 49, 100, 54, 46, 112, 97, 99, 107]⟩⟩, .int .u8 (.ofNat 47)], .int .i64 (.ofNat 5))
theorem m231_12_ok : (allFlat m231_12.1 && yields (run0 231 m231_12.1 Heap.empty) m231_12.2) = true := by kernel_rfl
noncomputable def m231_13 : List Value × Value := ([.string ⟨⟨[112, 97, 99, 107, 115, 47, 52, 102, 57, 98, 100, 51, 55, 52, 55, 55, 49, 55, 53, 56, 102, 98, 49, 56, 98, 52, 100, 99, 57, 98, 98, 101, 101, 51, 57, 57, 55, 54, 49, 100, 100, 100, 54, 99, 49, 54, 55, 54, 101, 51, 50, 49, 102, 56, 50, 57, 52, 101, 57, 57, 49, 55, 48, 56, 52, 100, 48, 49, 100, 54, 46, 105, 110, 100, 101, 120]⟩⟩, .int .u8 (.ofNat 47)], .int .i64 (.ofNat 5))
theorem m231_13_ok : (allFlat m231_13.1 && yields (run0 231 m231_13.1 Heap.empty) m231_13.2) = true := by kernel_rfl
noncomputable def m52_0 : List Value × Value := ([.string ⟨⟨[101, 51, 101, 51, 101, 51, 56, 55, 52, 51, 51, 99, 49, 53, 51, 56, 49, 54, 55, 53, 97, 98, 100, 99, 98, 49, 56, 101, 98, 55, 101, 53, 49, 102, 53, 51, 97, 56, 49, 101, 57, 98, 51, 101, 101, 48, 102, 97, 56, 54, 53, 97, 56, 56, 101, 52, 51, 51, 53, 102, 101, 57, 56, 101]⟩⟩], .tuple ⟨[.string ⟨⟨[227, 227, 227, 135, 67, 60, 21, 56, 22, 117, 171, 220, 177, 142, 183, 229, 31, 83, 168, 30, 155, 62, 224, 250, 134, 90, 136, 228, 51, 95, 233, 142]⟩⟩, .int .i64 (.ofNat 0)]⟩)
theorem m52_0_ok : (allFlat m52_0.1 && yields (run0 52 m52_0.1 Heap.empty) m52_0.2) = true := by kernel_rfl
noncomputable def m265_0 : List Value × Value := ([.string ⟨⟨[97]⟩⟩], .bool true)
theorem m265_0_ok : (allFlat m265_0.1 && yields (run0 265 m265_0.1 Heap.empty) m265_0.2) = true := by kernel_rfl
noncomputable def m265_1 : List Value × Value := ([.string ⟨⟨[97, 110, 110]⟩⟩], .bool true)
theorem m265_1_ok : (allFlat m265_1.1 && yields (run0 265 m265_1.1 Heap.empty) m265_1.2) = true := by kernel_rfl
noncomputable def m235_0 : List Value × Value := ([.string ⟨⟨[104, 101, 97, 100, 115, 47, 109, 97, 105, 110]⟩⟩], .bool true)
theorem m235_0_ok : (allFlat m235_0.1 && yields (run0 235 m235_0.1 Heap.empty) m235_0.2) = true := by kernel_rfl
noncomputable def m235_1 : List Value × Value := ([.string ⟨⟨[104, 101, 97, 100, 115, 47, 102, 97, 114, 45, 109, 97, 105, 110]⟩⟩], .bool true)
theorem m235_1_ok : (allFlat m235_1.1 && yields (run0 235 m235_1.1 Heap.empty) m235_1.2) = true := by kernel_rfl
noncomputable def m352_0 : List Value × Value := ([.int .i64 (.ofNat 0)], .string ⟨⟨[0, 0, 0, 0]⟩⟩)
theorem m352_0_ok : (allFlat m352_0.1 && yields (run0 352 m352_0.1 Heap.empty) m352_0.2) = true := by kernel_rfl
noncomputable def m352_1 : List Value × Value := ([.int .i64 (.ofNat 1)], .string ⟨⟨[0, 0, 0, 1]⟩⟩)
theorem m352_1_ok : (allFlat m352_1.1 && yields (run0 352 m352_1.1 Heap.empty) m352_1.2) = true := by kernel_rfl
noncomputable def m352_2 : List Value × Value := ([.int .i64 (.ofNat 2)], .string ⟨⟨[0, 0, 0, 2]⟩⟩)
theorem m352_2_ok : (allFlat m352_2.1 && yields (run0 352 m352_2.1 Heap.empty) m352_2.2) = true := by kernel_rfl
noncomputable def m352_3 : List Value × Value := ([.int .i64 (.ofNat 3)], .string ⟨⟨[0, 0, 0, 3]⟩⟩)
theorem m352_3_ok : (allFlat m352_3.1 && yields (run0 352 m352_3.1 Heap.empty) m352_3.2) = true := by kernel_rfl
noncomputable def m352_4 : List Value × Value := ([.int .i64 (.ofNat 167)], .string ⟨⟨[0, 0, 0, 167]⟩⟩)
theorem m352_4_ok : (allFlat m352_4.1 && yields (run0 352 m352_4.1 Heap.empty) m352_4.2) = true := by kernel_rfl
noncomputable def m352_5 : List Value × Value := ([.int .i64 (.ofNat 14)], .string ⟨⟨[0, 0, 0, 14]⟩⟩)
theorem m352_5_ok : (allFlat m352_5.1 && yields (run0 352 m352_5.1 Heap.empty) m352_5.2) = true := by kernel_rfl
noncomputable def m352_6 : List Value × Value := ([.int .i64 (.ofNat 116)], .string ⟨⟨[0, 0, 0, 116]⟩⟩)
theorem m352_6_ok : (allFlat m352_6.1 && yields (run0 352 m352_6.1 Heap.empty) m352_6.2) = true := by kernel_rfl
end Go.Proofs
