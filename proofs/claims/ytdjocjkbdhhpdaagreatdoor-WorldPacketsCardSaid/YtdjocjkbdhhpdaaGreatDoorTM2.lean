/- Runs of functions that look at no memory but their own. -/
import Derived.Test.YtdjocjkbdhhpdaaGreatDoorTE2
/-! Runs of functions that look at no memory but their own. -/
namespace Go.Proofs
open Go.Ev
set_option maxRecDepth 1000000
noncomputable def m126_0 : List Value × Value := ([.string ⟨⟨[112, 111, 108, 108, 97, 114, 100, 32, 112, 97, 99, 107, 10, 3, 119, 100, 99, 17, 99, 111, 109, 109, 105, 116, 32, 56, 57, 0, 116, 114, 101, 101, 32, 101, 51, 2, 0, 78, 56, 55, 52, 51, 51, 99, 49, 53, 51, 56, 49, 54, 55, 53, 97, 98, 100, 99, 98, 49, 56, 101, 98, 55, 101, 53, 49, 102, 53, 51, 97, 56, 49, 101, 57, 98, 51, 101, 101, 48, 102, 97, 56, 54, 53, 97, 56, 56, 101, 52, 51, 51, 53, 102, 101, 57, 56, 101, 10, 97, 117, 116, 104, 111, 114, 32, 97, 110, 110, 10, 116, 105, 109, 101, 32, 48, 10, 10, 119, 49, 47, 47, 116, 114, 101, 101, 32, 51, 57, 0, 102, 105, 108, 101, 32, 97, 0, 75, 108, 234, 67, 218, 110, 19, 194, 79, 25, 27, 203, 151, 181, 26, 88, 120, 29, 28, 205, 216, 40, 29, 150, 41, 26, 37, 130, 245, 23, 123, 120, 119, 10, 8, 8, 98, 108, 111, 98, 32, 49, 0, 120, 79, 155, 211, 116, 119, 23, 88, 251, 24, 180, 220, 155, 190, 227, 153, 118, 29, 221, 108, 22, 118, 227, 33, 248, 41, 78, 153, 23, 8, 77, 1, 214]⟩⟩], .tuple ⟨[.string ⟨⟨[79, 155, 211, 116, 119, 23, 88, 251, 24, 180, 220, 155, 190, 227, 153, 118, 29, 221, 108, 22, 118, 227, 33, 248, 41, 78, 153, 23, 8, 77, 1, 214]⟩⟩, .int .i64 (.ofNat 0)]⟩)
theorem m126_0_ok : (allFlat m126_0.1 && yields (run2 126 m126_0.1 Heap.empty) m126_0.2) = true := by kernel_rfl
noncomputable def m180_0 : List Value × Value := ([.string ⟨⟨[98, 108, 111, 98, 32, 49, 0, 120]⟩⟩], .string ⟨⟨[75, 108, 234, 67, 218, 110, 19, 194, 79, 25, 27, 203, 151, 181, 26, 88, 120, 29, 28, 205, 216, 40, 29, 150, 41, 26, 37, 130, 245, 23, 123, 120]⟩⟩)
theorem m180_0_ok : (allFlat m180_0.1 && yields (run2 180 m180_0.1 Heap.empty) m180_0.2) = true := by kernel_rfl
noncomputable def m180_1 : List Value × Value := ([.string ⟨⟨[116, 114, 101, 101, 32, 51, 57, 0, 102, 105, 108, 101, 32, 97, 0, 75, 108, 234, 67, 218, 110, 19, 194, 79, 25, 27, 203, 151, 181, 26, 88, 120, 29, 28, 205, 216, 40, 29, 150, 41, 26, 37, 130, 245, 23, 123, 120]⟩⟩], .string ⟨⟨[227, 227, 227, 135, 67, 60, 21, 56, 22, 117, 171, 220, 177, 142, 183, 229, 31, 83, 168, 30, 155, 62, 224, 250, 134, 90, 136, 228, 51, 95, 233, 142]⟩⟩)
theorem m180_1_ok : (allFlat m180_1.1 && yields (run2 180 m180_1.1 Heap.empty) m180_1.2) = true := by kernel_rfl
noncomputable def m180_2 : List Value × Value := ([.string ⟨⟨[99, 111, 109, 109, 105, 116, 32, 56, 57, 0, 116, 114, 101, 101, 32, 101, 51, 101, 51, 101, 51, 56, 55, 52, 51, 51, 99, 49, 53, 51, 56, 49, 54, 55, 53, 97, 98, 100, 99, 98, 49, 56, 101, 98, 55, 101, 53, 49, 102, 53, 51, 97, 56, 49, 101, 57, 98, 51, 101, 101, 48, 102, 97, 56, 54, 53, 97, 56, 56, 101, 52, 51, 51, 53, 102, 101, 57, 56, 101, 10, 97, 117, 116, 104, 111, 114, 32, 97, 110, 110, 10, 116, 105, 109, 101, 32, 48, 10, 10]⟩⟩], .string ⟨⟨[219, 46, 30, 111, 77, 118, 48, 121, 187, 27, 21, 50, 239, 37, 64, 237, 202, 27, 212, 65, 202, 128, 51, 59, 74, 78, 41, 60, 111, 35, 193, 126]⟩⟩)
theorem m180_2_ok : (allFlat m180_2.1 && yields (run2 180 m180_2.1 Heap.empty) m180_2.2) = true := by kernel_rfl
end Go.Proofs

/-! Contracts out of tables. -/
namespace Go.Proofs
open Go.Ev
set_option maxRecDepth 1000000
noncomputable def tab126 : List (List Value × Value) := [m126_0]
theorem tab126_ok [Go.Ev.Sg] : SpecOk Tryz.prog 126 (sOr (memo tab126) (run2 126)) := by
  refine SpecOk.or (memo_ok run2_ok fun e he => ?_) (call_spec run2_ok 126)
  simp only [tab126, List.mem_cons, List.not_mem_nil, or_false] at he
  subst he
  exact m126_0_ok
noncomputable def tab180 : List (List Value × Value) := [m180_0, m180_1, m180_2]
theorem tab180_ok [Go.Ev.Sg] : SpecOk Tryz.prog 180 (sOr (memo tab180) (run2 180)) := by
  refine SpecOk.or (memo_ok run2_ok fun e he => ?_) (call_spec run2_ok 180)
  simp only [tab180, List.mem_cons, List.not_mem_nil, or_false] at he
  rcases he with rfl | rfl | rfl
  · exact m180_0_ok
  · exact m180_1_ok
  · exact m180_2_ok
noncomputable def specs3 : List (FuncId × Spec) := [(126, sOr (memo tab126) (run2 126)), (180, sOr (memo tab180) (run2 180))] ++ specs2
theorem specs3_ok [Go.Ev.Sg] : ∀ e ∈ specs3, SpecOk Tryz.prog e.1 e.2 := by
  intro e he
  rcases List.mem_append.1 he with he | he
  · simp only [List.mem_cons, List.not_mem_nil, or_false] at he
    rcases he with rfl | rfl
    · exact tab126_ok
    · exact tab180_ok
  · exact specs2_ok e he
noncomputable abbrev run3 : Go.Ev.Call := evF (envOf specs3) 100000 200
theorem run3_ok [Go.Ev.Sg] : CallsOk Tryz.prog run3 := calls_of specs3_ok _ _
end Go.Proofs

/-! Runs of functions that look at no memory but their own. -/
namespace Go.Proofs
open Go.Ev
set_option maxRecDepth 1000000
noncomputable def m264_0 : List Value × Value := ([.string ⟨⟨[99, 111, 109, 109, 105, 116, 32, 56, 57, 0, 116, 114, 101, 101, 32, 101, 51, 101, 51, 101, 51, 56, 55, 52, 51, 51, 99, 49, 53, 51, 56, 49, 54, 55, 53, 97, 98, 100, 99, 98, 49, 56, 101, 98, 55, 101, 53, 49, 102, 53, 51, 97, 56, 49, 101, 57, 98, 51, 101, 101, 48, 102, 97, 56, 54, 53, 97, 56, 56, 101, 52, 51, 51, 53, 102, 101, 57, 56, 101, 10, 97, 117, 116, 104, 111, 114, 32, 97, 110, 110, 10, 116, 105, 109, 101, 32, 48, 10, 10]⟩⟩, .slice none 0 0, .string ⟨⟨[219, 46, 30, 111, 77, 118, 48, 121, 187, 27, 21, 50, 239, 37, 64, 237, 202, 27, 212, 65, 202, 128, 51, 59, 74, 78, 41, 60, 111, 35, 193, 126]⟩⟩], .tuple ⟨[.string ⟨⟨[99, 111, 109, 109, 105, 116, 32, 56, 57, 0, 116, 114, 101, 101, 32, 101, 51, 101, 51, 101, 51, 56, 55, 52, 51, 51, 99, 49, 53, 51, 56, 49, 54, 55, 53, 97, 98, 100, 99, 98, 49, 56, 101, 98, 55, 101, 53, 49, 102, 53, 51, 97, 56, 49, 101, 57, 98, 51, 101, 101, 48, 102, 97, 56, 54, 53, 97, 56, 56, 101, 52, 51, 51, 53, 102, 101, 57, 56, 101, 10, 97, 117, 116, 104, 111, 114, 32, 97, 110, 110, 10, 116, 105, 109, 101, 32, 48, 10, 10]⟩⟩, .int .i64 (.ofNat 0)]⟩)
theorem m264_0_ok : (allFlat m264_0.1 && yields (run3 264 m264_0.1 Heap.empty) m264_0.2) = true := by kernel_rfl
noncomputable def m264_1 : List Value × Value := ([.string ⟨⟨[116, 114, 101, 101, 32, 51, 57, 0, 102, 105, 108, 101, 32, 97, 0, 75, 108, 234, 67, 218, 110, 19, 194, 79, 25, 27, 203, 151, 181, 26, 88, 120, 29, 28, 205, 216, 40, 29, 150, 41, 26, 37, 130, 245, 23, 123, 120]⟩⟩, .slice none 0 0, .string ⟨⟨[227, 227, 227, 135, 67, 60, 21, 56, 22, 117, 171, 220, 177, 142, 183, 229, 31, 83, 168, 30, 155, 62, 224, 250, 134, 90, 136, 228, 51, 95, 233, 142]⟩⟩], .tuple ⟨[.string ⟨⟨[116, 114, 101, 101, 32, 51, 57, 0, 102, 105, 108, 101, 32, 97, 0, 75, 108, 234, 67, 218, 110, 19, 194, 79, 25, 27, 203, 151, 181, 26, 88, 120, 29, 28, 205, 216, 40, 29, 150, 41, 26, 37, 130, 245, 23, 123, 120]⟩⟩, .int .i64 (.ofNat 0)]⟩)
theorem m264_1_ok : (allFlat m264_1.1 && yields (run3 264 m264_1.1 Heap.empty) m264_1.2) = true := by kernel_rfl
noncomputable def m264_2 : List Value × Value := ([.string ⟨⟨[98, 108, 111, 98, 32, 49, 0, 120]⟩⟩, .slice none 0 0, .string ⟨⟨[75, 108, 234, 67, 218, 110, 19, 194, 79, 25, 27, 203, 151, 181, 26, 88, 120, 29, 28, 205, 216, 40, 29, 150, 41, 26, 37, 130, 245, 23, 123, 120]⟩⟩], .tuple ⟨[.string ⟨⟨[98, 108, 111, 98, 32, 49, 0, 120]⟩⟩, .int .i64 (.ofNat 0)]⟩)
theorem m264_2_ok : (allFlat m264_2.1 && yields (run3 264 m264_2.1 Heap.empty) m264_2.2) = true := by kernel_rfl
end Go.Proofs

/-! Contracts out of tables. -/
namespace Go.Proofs
open Go.Ev
set_option maxRecDepth 1000000
noncomputable def tab264 : List (List Value × Value) := [m264_0, m264_1, m264_2]
theorem tab264_ok [Go.Ev.Sg] : SpecOk Tryz.prog 264 (sOr (memo tab264) (run3 264)) := by
  refine SpecOk.or (memo_ok run3_ok fun e he => ?_) (call_spec run3_ok 264)
  simp only [tab264, List.mem_cons, List.not_mem_nil, or_false] at he
  rcases he with rfl | rfl | rfl
  · exact m264_0_ok
  · exact m264_1_ok
  · exact m264_2_ok
noncomputable def specs4 : List (FuncId × Spec) := [(264, sOr (memo tab264) (run3 264))] ++ specs3
theorem specs4_ok [Go.Ev.Sg] : ∀ e ∈ specs4, SpecOk Tryz.prog e.1 e.2 := by
  intro e he
  rcases List.mem_append.1 he with he | he
  · simp only [List.mem_cons, List.not_mem_nil, or_false] at he
    subst he
    exact tab264_ok
  · exact specs3_ok e he
noncomputable abbrev run4 : Go.Ev.Call := evF (envOf specs4) 100000 200
theorem run4_ok [Go.Ev.Sg] : CallsOk Tryz.prog run4 := calls_of specs4_ok _ _
end Go.Proofs
