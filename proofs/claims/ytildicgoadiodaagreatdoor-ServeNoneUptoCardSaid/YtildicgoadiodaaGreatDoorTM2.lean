/- Runs of functions that look at no memory but their own. -/
import Derived.Test.YtildicgoadiodaaGreatDoorTE2
/-! Runs of functions that look at no memory but their own. -/
namespace Go.Proofs
open Go.Ev
set_option maxRecDepth 1000000
noncomputable def m205_0 : List Value × Value := ([.string ⟨⟨[112, 111, 108, 108, 97, 114, 100, 32, 112, 97, 99, 107, 10, 3, 119, 100, 99, 17, 99, 111, 109, 109, 105, 116, 32, 56, 57, 0, 116, 114, 101, 101, 32, 101, 51, 2, 0, 78, 56, 55, 52, 51, 51, 99, 49, 53, 51, 56, 49, 54, 55, 53, 97, 98, 100, 99, 98, 49, 56, 101, 98, 55, 101, 53, 49, 102, 53, 51, 97, 56, 49, 101, 57, 98, 51, 101, 101, 48, 102, 97, 56, 54, 53, 97, 56, 56, 101, 52, 51, 51, 53, 102, 101, 57, 56, 101, 10, 97, 117, 116, 104, 111, 114, 32, 97, 110, 110, 10, 116, 105, 109, 101, 32, 48, 10, 10, 119, 49, 47, 47, 116, 114, 101, 101, 32, 51, 57, 0, 102, 105, 108, 101, 32, 97, 0, 75, 108, 234, 67, 218, 110, 19, 194, 79, 25, 27, 203, 151, 181, 26, 88, 120, 29, 28, 205, 216, 40, 29, 150, 41, 26, 37, 130, 245, 23, 123, 120, 119, 10, 8, 8, 98, 108, 111, 98, 32, 49, 0, 120, 79, 155, 211, 116, 119, 23, 88, 251, 24, 180, 220, 155, 190, 227, 153, 118, 29, 221, 108, 22, 118, 227, 33, 248, 41, 78, 153, 23, 8, 77, 1, 214]⟩⟩], .tuple ⟨[.string ⟨⟨[79, 155, 211, 116, 119, 23, 88, 251, 24, 180, 220, 155, 190, 227, 153, 118, 29, 221, 108, 22, 118, 227, 33, 248, 41, 78, 153, 23, 8, 77, 1, 214]⟩⟩, .int .i64 (.ofNat 0)]⟩)
theorem m205_0_ok : (allFlat m205_0.1 && yields (run2 205 m205_0.1 Heap.empty) m205_0.2) = true := by kernel_rfl
noncomputable def m105_0 : List Value × Value := ([.string ⟨⟨[98, 108, 111, 98, 32, 49, 0, 120]⟩⟩], .string ⟨⟨[75, 108, 234, 67, 218, 110, 19, 194, 79, 25, 27, 203, 151, 181, 26, 88, 120, 29, 28, 205, 216, 40, 29, 150, 41, 26, 37, 130, 245, 23, 123, 120]⟩⟩)
theorem m105_0_ok : (allFlat m105_0.1 && yields (run2 105 m105_0.1 Heap.empty) m105_0.2) = true := by kernel_rfl
noncomputable def m105_1 : List Value × Value := ([.string ⟨⟨[116, 114, 101, 101, 32, 51, 57, 0, 102, 105, 108, 101, 32, 97, 0, 75, 108, 234, 67, 218, 110, 19, 194, 79, 25, 27, 203, 151, 181, 26, 88, 120, 29, 28, 205, 216, 40, 29, 150, 41, 26, 37, 130, 245, 23, 123, 120]⟩⟩], .string ⟨⟨[227, 227, 227, 135, 67, 60, 21, 56, 22, 117, 171, 220, 177, 142, 183, 229, 31, 83, 168, 30, 155, 62, 224, 250, 134, 90, 136, 228, 51, 95, 233, 142]⟩⟩)
theorem m105_1_ok : (allFlat m105_1.1 && yields (run2 105 m105_1.1 Heap.empty) m105_1.2) = true := by kernel_rfl
noncomputable def m105_2 : List Value × Value := ([.string ⟨⟨[99, 111, 109, 109, 105, 116, 32, 56, 57, 0, 116, 114, 101, 101, 32, 101, 51, 101, 51, 101, 51, 56, 55, 52, 51, 51, 99, 49, 53, 51, 56, 49, 54, 55, 53, 97, 98, 100, 99, 98, 49, 56, 101, 98, 55, 101, 53, 49, 102, 53, 51, 97, 56, 49, 101, 57, 98, 51, 101, 101, 48, 102, 97, 56, 54, 53, 97, 56, 56, 101, 52, 51, 51, 53, 102, 101, 57, 56, 101, 10, 97, 117, 116, 104, 111, 114, 32, 97, 110, 110, 10, 116, 105, 109, 101, 32, 48, 10, 10]⟩⟩], .string ⟨⟨[219, 46, 30, 111, 77, 118, 48, 121, 187, 27, 21, 50, 239, 37, 64, 237, 202, 27, 212, 65, 202, 128, 51, 59, 74, 78, 41, 60, 111, 35, 193, 126]⟩⟩)
theorem m105_2_ok : (allFlat m105_2.1 && yields (run2 105 m105_2.1 Heap.empty) m105_2.2) = true := by kernel_rfl
end Go.Proofs

/-! Contracts out of tables. -/
namespace Go.Proofs
open Go.Ev
set_option maxRecDepth 1000000
noncomputable def tab205 : List (List Value × Value) := [m205_0]
theorem tab205_ok [Go.Ev.Sg] : SpecOk Tryz.prog 205 (sOr (memo tab205) (run2 205)) := by
  refine SpecOk.or (memo_ok run2_ok fun e he => ?_) (call_spec run2_ok 205)
  simp only [tab205, List.mem_cons, List.not_mem_nil, or_false] at he
  subst he
  exact m205_0_ok
noncomputable def tab105 : List (List Value × Value) := [m105_0, m105_1, m105_2]
theorem tab105_ok [Go.Ev.Sg] : SpecOk Tryz.prog 105 (sOr (memo tab105) (run2 105)) := by
  refine SpecOk.or (memo_ok run2_ok fun e he => ?_) (call_spec run2_ok 105)
  simp only [tab105, List.mem_cons, List.not_mem_nil, or_false] at he
  rcases he with rfl | rfl | rfl
  · exact m105_0_ok
  · exact m105_1_ok
  · exact m105_2_ok
noncomputable def specs3 : List (FuncId × Spec) := [(205, sOr (memo tab205) (run2 205)), (105, sOr (memo tab105) (run2 105))] ++ specs2
theorem specs3_ok [Go.Ev.Sg] : ∀ e ∈ specs3, SpecOk Tryz.prog e.1 e.2 := by
  intro e he
  rcases List.mem_append.1 he with he | he
  · simp only [List.mem_cons, List.not_mem_nil, or_false] at he
    rcases he with rfl | rfl
    · exact tab205_ok
    · exact tab105_ok
  · exact specs2_ok e he
noncomputable abbrev run3 : Go.Ev.Call := evF (envOf specs3) 100000 200
theorem run3_ok [Go.Ev.Sg] : CallsOk Tryz.prog run3 := calls_of specs3_ok _ _
end Go.Proofs

/-! Runs of functions that look at no memory but their own. -/
namespace Go.Proofs
open Go.Ev
set_option maxRecDepth 1000000
noncomputable def m111_0 : List Value × Value := ([.string ⟨⟨[99, 111, 109, 109, 105, 116, 32, 56, 57, 0, 116, 114, 101, 101, 32, 101, 51, 101, 51, 101, 51, 56, 55, 52, 51, 51, 99, 49, 53, 51, 56, 49, 54, 55, 53, 97, 98, 100, 99, 98, 49, 56, 101, 98, 55, 101, 53, 49, 102, 53, 51, 97, 56, 49, 101, 57, 98, 51, 101, 101, 48, 102, 97, 56, 54, 53, 97, 56, 56, 101, 52, 51, 51, 53, 102, 101, 57, 56, 101, 10, 97, 117, 116, 104, 111, 114, 32, 97, 110, 110, 10, 116, 105, 109, 101, 32, 48, 10, 10]⟩⟩, .slice none 0 0, .string ⟨⟨[219, 46, 30, 111, 77, 118, 48, 121, 187, 27, 21, 50, 239, 37, 64, 237, 202, 27, 212, 65, 202, 128, 51, 59, 74, 78, 41, 60, 111, 35, 193, 126]⟩⟩], .tuple ⟨[.string ⟨⟨[99, 111, 109, 109, 105, 116, 32, 56, 57, 0, 116, 114, 101, 101, 32, 101, 51, 101, 51, 101, 51, 56, 55, 52, 51, 51, 99, 49, 53, 51, 56, 49, 54, 55, 53, 97, 98, 100, 99, 98, 49, 56, 101, 98, 55, 101, 53, 49, 102, 53, 51, 97, 56, 49, 101, 57, 98, 51, 101, 101, 48, 102, 97, 56, 54, 53, 97, 56, 56, 101, 52, 51, 51, 53, 102, 101, 57, 56, 101, 10, 97, 117, 116, 104, 111, 114, 32, 97, 110, 110, 10, 116, 105, 109, 101, 32, 48, 10, 10]⟩⟩, .int .i64 (.ofNat 0)]⟩)
theorem m111_0_ok : (allFlat m111_0.1 && yields (run3 111 m111_0.1 Heap.empty) m111_0.2) = true := by kernel_rfl
noncomputable def m111_1 : List Value × Value := ([.string ⟨⟨[116, 114, 101, 101, 32, 51, 57, 0, 102, 105, 108, 101, 32, 97, 0, 75, 108, 234, 67, 218, 110, 19, 194, 79, 25, 27, 203, 151, 181, 26, 88, 120, 29, 28, 205, 216, 40, 29, 150, 41, 26, 37, 130, 245, 23, 123, 120]⟩⟩, .slice none 0 0, .string ⟨⟨[227, 227, 227, 135, 67, 60, 21, 56, 22, 117, 171, 220, 177, 142, 183, 229, 31, 83, 168, 30, 155, 62, 224, 250, 134, 90, 136, 228, 51, 95, 233, 142]⟩⟩], .tuple ⟨[.string ⟨⟨[116, 114, 101, 101, 32, 51, 57, 0, 102, 105, 108, 101, 32, 97, 0, 75, 108, 234, 67, 218, 110, 19, 194, 79, 25, 27, 203, 151, 181, 26, 88, 120, 29, 28, 205, 216, 40, 29, 150, 41, 26, 37, 130, 245, 23, 123, 120]⟩⟩, .int .i64 (.ofNat 0)]⟩)
theorem m111_1_ok : (allFlat m111_1.1 && yields (run3 111 m111_1.1 Heap.empty) m111_1.2) = true := by kernel_rfl
noncomputable def m111_2 : List Value × Value := ([.string ⟨⟨[98, 108, 111, 98, 32, 49, 0, 120]⟩⟩, .slice none 0 0, .string ⟨⟨[75, 108, 234, 67, 218, 110, 19, 194, 79, 25, 27, 203, 151, 181, 26, 88, 120, 29, 28, 205, 216, 40, 29, 150, 41, 26, 37, 130, 245, 23, 123, 120]⟩⟩], .tuple ⟨[.string ⟨⟨[98, 108, 111, 98, 32, 49, 0, 120]⟩⟩, .int .i64 (.ofNat 0)]⟩)
theorem m111_2_ok : (allFlat m111_2.1 && yields (run3 111 m111_2.1 Heap.empty) m111_2.2) = true := by kernel_rfl
end Go.Proofs

/-! Contracts out of tables. -/
namespace Go.Proofs
open Go.Ev
set_option maxRecDepth 1000000
noncomputable def tab111 : List (List Value × Value) := [m111_0, m111_1, m111_2]
theorem tab111_ok [Go.Ev.Sg] : SpecOk Tryz.prog 111 (sOr (memo tab111) (run3 111)) := by
  refine SpecOk.or (memo_ok run3_ok fun e he => ?_) (call_spec run3_ok 111)
  simp only [tab111, List.mem_cons, List.not_mem_nil, or_false] at he
  rcases he with rfl | rfl | rfl
  · exact m111_0_ok
  · exact m111_1_ok
  · exact m111_2_ok
noncomputable def specs4 : List (FuncId × Spec) := [(111, sOr (memo tab111) (run3 111))] ++ specs3
theorem specs4_ok [Go.Ev.Sg] : ∀ e ∈ specs4, SpecOk Tryz.prog e.1 e.2 := by
  intro e he
  rcases List.mem_append.1 he with he | he
  · simp only [List.mem_cons, List.not_mem_nil, or_false] at he
    subst he
    exact tab111_ok
  · exact specs3_ok e he
noncomputable abbrev run4 : Go.Ev.Call := evF (envOf specs4) 100000 200
theorem run4_ok [Go.Ev.Sg] : CallsOk Tryz.prog run4 := calls_of specs4_ok _ _
end Go.Proofs
