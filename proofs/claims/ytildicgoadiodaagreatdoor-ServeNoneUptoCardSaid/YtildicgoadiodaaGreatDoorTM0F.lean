/- Runs of functions that look at no memory but their own. -/
import Derived.Test.YtildicgoadiodaaGreatDoorTEnv
/-! Runs of functions that look at no memory but their own. -/
namespace Go.Proofs
open Go.Ev
set_option maxRecDepth 1000000
noncomputable def m194_3 : List Value × Value := ([.string ⟨⟨[111, 98, 106, 101, 99, 116, 115, 47, 105, 110, 99, 111, 109, 105, 110, 103]⟩⟩, .int .u8 (.ofNat 47)], .int .i64 (.ofNat 7))
theorem m194_3_ok : (allFlat m194_3.1 && yields (run0 194 m194_3.1 Heap.empty) m194_3.2) = true := by kernel_rfl
noncomputable def m194_4 : List Value × Value := ([.string ⟨⟨[111, 98, 106, 101, 99, 116, 115, 47, 52, 98, 47, 54, 99, 101, 97, 52, 51, 100, 97, 54, 101, 49, 51, 99, 50, 52, 102, 49, 57, 49, 98, 99, 98, 57, 55, 98, 53, 49, 97, 53, 56, 55, 56, 49, 100, 49, 99, 99, 100, 100, 56, 50, 56, 49, 100, 57, 54, 50, 57, 49, 97, 50, 53, 56, 50, 102, 53, 49, 55, 55, 98, 55, 56]⟩⟩, .int .u8 (.ofNat 47)], .int .i64 (.ofNat 10))
theorem m194_4_ok : (allFlat m194_4.1 && yields (run0 194 m194_4.1 Heap.empty) m194_4.2) = true := by kernel_rfl
noncomputable def m194_5 : List Value × Value := ([.string ⟨⟨[111, 98, 106, 101, 99, 116, 115, 47, 101, 51]⟩⟩, .int .u8 (.ofNat 47)], .int .i64 (.ofNat 7))
theorem m194_5_ok : (allFlat m194_5.1 && yields (run0 194 m194_5.1 Heap.empty) m194_5.2) = true := by kernel_rfl
noncomputable def m194_6 : List Value × Value := ([.string ⟨⟨[111, 98, 106, 101, 99, 116, 115, 47, 101, 51, 47, 101, 51, 101, 51, 56, 55, 52, 51, 51, 99, 49, 53, 51, 56, 49, 54, 55, 53, 97, 98, 100, 99, 98, 49, 56, 101, 98, 55, 101, 53, 49, 102, 53, 51, 97, 56, 49, 101, 57, 98, 51, 101, 101, 48, 102, 97, 56, 54, 53, 97, 56, 56, 101, 52, 51, 51, 53, 102, 101, 57, 56, 101]⟩⟩, .int .u8 (.ofNat 47)], .int .i64 (.ofNat 10))
theorem m194_6_ok : (allFlat m194_6.1 && yields (run0 194 m194_6.1 Heap.empty) m194_6.2) = true := by kernel_rfl
noncomputable def m194_7 : List Value × Value := ([.string ⟨⟨[111, 98, 106, 101, 99, 116, 115, 47, 100, 98]⟩⟩, .int .u8 (.ofNat 47)], .int .i64 (.ofNat 7))
theorem m194_7_ok : (allFlat m194_7.1 && yields (run0 194 m194_7.1 Heap.empty) m194_7.2) = true := by kernel_rfl
noncomputable def m194_8 : List Value × Value := ([.string ⟨⟨[111, 98, 106, 101, 99, 116, 115, 47, 100, 98, 47, 50, 101, 49, 101, 54, 102, 52, 100, 55, 54, 51, 48, 55, 57, 98, 98, 49, 98, 49, 53, 51, 50, 101, 102, 50, 53, 52, 48, 101, 100, 99, 97, 49, 98, 100, 52, 52, 49, 99, 97, 56, 48, 51, 51, 51, 98, 52, 97, 52, 101, 50, 57, 51, 99, 54, 102, 50, 51, 99, 49, 55, 101]⟩⟩, .int .u8 (.ofNat 47)], .int .i64 (.ofNat 10))
theorem m194_8_ok : (allFlat m194_8.1 && yields (run0 194 m194_8.1 Heap.empty) m194_8.2) = true := by kernel_rfl
noncomputable def m194_9 : List Value × Value := ([.string ⟨⟨[114, 101, 102, 115, 46, 110, 101, 119]⟩⟩, .int .u8 (.ofNat 47)], .int .i64 (.negSucc 0))
theorem m194_9_ok : (allFlat m194_9.1 && yields (run0 194 m194_9.1 Heap.empty) m194_9.2) = true := by kernel_rfl
noncomputable def m194_10 : List Value × Value := ([.string ⟨⟨[114, 101, 102, 115]⟩⟩, .int .u8 (.ofNat 47)], .int .i64 (.negSucc 0))
theorem m194_10_ok : (allFlat m194_10.1 && yields (run0 194 m194_10.1 Heap.empty) m194_10.2) = true := by kernel_rfl
noncomputable def m194_11 : List Value × Value := ([.string ⟨⟨[112, 97, 99, 107, 115, 47, 105, 110, 99, 111, 109, 105, 110, 103]⟩⟩, .int .u8 (.ofNat 47)], .int .i64 (.ofNat 5))
theorem m194_11_ok : (allFlat m194_11.1 && yields (run0 194 m194_11.1 Heap.empty) m194_11.2) = true := by kernel_rfl
noncomputable def m194_12 : List Value × Value := ([.string ⟨⟨[112, 97, 99, 107, 115, 47, 52, 102, 57, 98, 100, 51, 55, 52, 55, 55, 49, 55, 53, 56, 102, 98, 49, 56, 98, 52, 100, 99, 57, 98, 98, 101, 101, 51, 57, 57, 55, 54, 49, 100, 100, 100, 54, 99, 49, 54, 55, 54, 101, 51, 50, 49, 102, 56, 50, 57, 52, 101, 57, 57, 49, 55, 48, 56, 52, 100, 48, 49, 100, 54, 46, 112, 97, 99, 107]⟩⟩, .int .u8 (.ofNat 47)], .int .i64 (.ofNat 5))
theorem m194_12_ok : (allFlat m194_12.1 && yields (run0 194 m194_12.1 Heap.empty) m194_12.2) = true := by kernel_rfl
noncomputable def m194_13 : List Value × Value := ([.string ⟨⟨[112, 97, 99, 107, 115, 47, 52, 102, 57, 98, 100, 51, 55, 52, 55, 55, 49, 55, 53, 56, 102, 98, 49, 56, 98, 52, 100, 99, 57, 98, 98, 101, 101, 51, 57, 57, 55, 54, 49, 100, 100, 100, 54, 99, 49, 54, 55, 54, 101, 51, 50, 49, 102, 56, 50, 57, 52, 101, 57, 57, 49, 55, 48, 56, 52, 100, 48, 49, 100, 54, 46, 105, 110, 100, 101, 120]⟩⟩, .int .u8 (.ofNat 47)], .int .i64 (.ofNat 5))
theorem m194_13_ok : (allFlat m194_13.1 && yields (run0 194 m194_13.1 Heap.empty) m194_13.2) = true := by kernel_rfl
noncomputable def m233_0 : List Value × Value := ([.string ⟨⟨[101, 51, 101, 51, 101, 51, 56, 55, 52, 51, 51, 99, 49, 53, 51, 56, 49, 54, 55, 53, 97, 98, 100, 99, 98, 49, 56, 101, 98, 55, 101, 53, 49, 102, 53, 51, 97, 56, 49, 101, 57, 98, 51, 101, 101, 48, 102, 97, 56, 54, 53, 97, 56, 56, 101, 52, 51, 51, 53, 102, 101, 57, 56, 101]⟩⟩], .tuple ⟨[.string ⟨⟨[227, 227, 227, 135, 67, 60, 21, 56, 22, 117, 171, 220, 177, 142, 183, 229, 31, 83, 168, 30, 155, 62, 224, 250, 134, 90, 136, 228, 51, 95, 233, 142]⟩⟩, .int .i64 (.ofNat 0)]⟩)
theorem m233_0_ok : (allFlat m233_0.1 && yields (run0 233 m233_0.1 Heap.empty) m233_0.2) = true := by kernel_rfl
noncomputable def m235_0 : List Value × Value := ([.string ⟨⟨[97]⟩⟩], .bool true)
theorem m235_0_ok : (allFlat m235_0.1 && yields (run0 235 m235_0.1 Heap.empty) m235_0.2) = true := by kernel_rfl
noncomputable def m235_1 : List Value × Value := ([.string ⟨⟨[97, 110, 110]⟩⟩], .bool true)
theorem m235_1_ok : (allFlat m235_1.1 && yields (run0 235 m235_1.1 Heap.empty) m235_1.2) = true := by kernel_rfl
noncomputable def m197_0 : List Value × Value := ([.string ⟨⟨[104, 101, 97, 100, 115, 47, 109, 97, 105, 110]⟩⟩], .bool true)
theorem m197_0_ok : (allFlat m197_0.1 && yields (run0 197 m197_0.1 Heap.empty) m197_0.2) = true := by kernel_rfl
noncomputable def m197_1 : List Value × Value := ([.string ⟨⟨[104, 101, 97, 100, 115, 47, 102, 97, 114, 45, 109, 97, 105, 110]⟩⟩], .bool true)
theorem m197_1_ok : (allFlat m197_1.1 && yields (run0 197 m197_1.1 Heap.empty) m197_1.2) = true := by kernel_rfl
noncomputable def m321_0 : List Value × Value := ([.int .i64 (.ofNat 0)], .string ⟨⟨[0, 0, 0, 0]⟩⟩)
theorem m321_0_ok : (allFlat m321_0.1 && yields (run0 321 m321_0.1 Heap.empty) m321_0.2) = true := by kernel_rfl
noncomputable def m321_1 : List Value × Value := ([.int .i64 (.ofNat 1)], .string ⟨⟨[0, 0, 0, 1]⟩⟩)
theorem m321_1_ok : (allFlat m321_1.1 && yields (run0 321 m321_1.1 Heap.empty) m321_1.2) = true := by kernel_rfl
noncomputable def m321_2 : List Value × Value := ([.int .i64 (.ofNat 2)], .string ⟨⟨[0, 0, 0, 2]⟩⟩)
theorem m321_2_ok : (allFlat m321_2.1 && yields (run0 321 m321_2.1 Heap.empty) m321_2.2) = true := by kernel_rfl
noncomputable def m321_3 : List Value × Value := ([.int .i64 (.ofNat 3)], .string ⟨⟨[0, 0, 0, 3]⟩⟩)
theorem m321_3_ok : (allFlat m321_3.1 && yields (run0 321 m321_3.1 Heap.empty) m321_3.2) = true := by kernel_rfl
noncomputable def m321_4 : List Value × Value := ([.int .i64 (.ofNat 167)], .string ⟨⟨[0, 0, 0, 167]⟩⟩)
theorem m321_4_ok : (allFlat m321_4.1 && yields (run0 321 m321_4.1 Heap.empty) m321_4.2) = true := by kernel_rfl
noncomputable def m321_5 : List Value × Value := ([.int .i64 (.ofNat 14)], .string ⟨⟨[0, 0, 0, 14]⟩⟩)
theorem m321_5_ok : (allFlat m321_5.1 && yields (run0 321 m321_5.1 Heap.empty) m321_5.2) = true := by kernel_rfl
noncomputable def m321_6 : List Value × Value := ([.int .i64 (.ofNat 116)], .string ⟨⟨[0, 0, 0, 116]⟩⟩)
theorem m321_6_ok : (allFlat m321_6.1 && yields (run0 321 m321_6.1 Heap.empty) m321_6.2) = true := by kernel_rfl
end Go.Proofs
