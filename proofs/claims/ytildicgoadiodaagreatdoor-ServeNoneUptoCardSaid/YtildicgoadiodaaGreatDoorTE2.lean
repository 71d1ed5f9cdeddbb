/- Contracts out of tables. -/
import Derived.Test.YtildicgoadiodaaGreatDoorTM1A
/-! Contracts out of tables. -/
namespace Go.Proofs
open Go.Ev
set_option maxRecDepth 1000000
noncomputable def tab128 : List (List Value × Value) := [m128_0, m128_1, m128_2, m128_3, m128_4]
theorem tab128_ok [Go.Ev.Sg] : SpecOk Tryz.prog 128 (sOr (memo tab128) (run1 128)) := by
  refine SpecOk.or (memo_ok run1_ok fun e he => ?_) (call_spec run1_ok 128)
  simp only [tab128, List.mem_cons, List.not_mem_nil, or_false] at he
  rcases he with rfl | rfl | rfl | rfl | rfl
  · exact m128_0_ok
  · exact m128_1_ok
  · exact m128_2_ok
  · exact m128_3_ok
  · exact m128_4_ok
noncomputable def tab103 : List (List Value × Value) := [m103_0, m103_1, m103_2]
theorem tab103_ok [Go.Ev.Sg] : SpecOk Tryz.prog 103 (sOr (memo tab103) (run1 103)) := by
  refine SpecOk.or (memo_ok run1_ok fun e he => ?_) (call_spec run1_ok 103)
  simp only [tab103, List.mem_cons, List.not_mem_nil, or_false] at he
  rcases he with rfl | rfl | rfl
  · exact m103_0_ok
  · exact m103_1_ok
  · exact m103_2_ok
noncomputable def tab86 : List (List Value × Value) := [m86_0, m86_1, m86_2, m86_3, m86_4, m86_5, m86_6, m86_7, m86_8, m86_9, m86_10, m86_11, m86_12, m86_13]
theorem tab86_ok [Go.Ev.Sg] : SpecOk Tryz.prog 86 (sOr (memo tab86) (run1 86)) := by
  refine SpecOk.or (memo_ok run1_ok fun e he => ?_) (call_spec run1_ok 86)
  simp only [tab86, List.mem_cons, List.not_mem_nil, or_false] at he
  rcases he with rfl | rfl | rfl | rfl | rfl | rfl | rfl | rfl | rfl | rfl | rfl | rfl | rfl | rfl
  · exact m86_0_ok
  · exact m86_1_ok
  · exact m86_2_ok
  · exact m86_3_ok
  · exact m86_4_ok
  · exact m86_5_ok
  · exact m86_6_ok
  · exact m86_7_ok
  · exact m86_8_ok
  · exact m86_9_ok
  · exact m86_10_ok
  · exact m86_11_ok
  · exact m86_12_ok
  · exact m86_13_ok
noncomputable def tab246 : List (List Value × Value) := [m246_0, m246_1]
theorem tab246_ok [Go.Ev.Sg] : SpecOk Tryz.prog 246 (sOr (memo tab246) (run1 246)) := by
  refine SpecOk.or (memo_ok run1_ok fun e he => ?_) (call_spec run1_ok 246)
  simp only [tab246, List.mem_cons, List.not_mem_nil, or_false] at he
  rcases he with rfl | rfl
  · exact m246_0_ok
  · exact m246_1_ok
noncomputable def tab207 : List (List Value × Value) := [m207_0]
theorem tab207_ok [Go.Ev.Sg] : SpecOk Tryz.prog 207 (sOr (memo tab207) (run1 207)) := by
  refine SpecOk.or (memo_ok run1_ok fun e he => ?_) (call_spec run1_ok 207)
  simp only [tab207, List.mem_cons, List.not_mem_nil, or_false] at he
  subst he
  exact m207_0_ok
noncomputable def tab127 : List (List Value × Value) := [m127_0, m127_1, m127_2]
theorem tab127_ok [Go.Ev.Sg] : SpecOk Tryz.prog 127 (sOr (memo tab127) (run1 127)) := by
  refine SpecOk.or (memo_ok run1_ok fun e he => ?_) (call_spec run1_ok 127)
  simp only [tab127, List.mem_cons, List.not_mem_nil, or_false] at he
  rcases he with rfl | rfl | rfl
  · exact m127_0_ok
  · exact m127_1_ok
  · exact m127_2_ok
noncomputable def tab210 : List (List Value × Value) := [m210_0]
theorem tab210_ok [Go.Ev.Sg] : SpecOk Tryz.prog 210 (sOr (memo tab210) (run1 210)) := by
  refine SpecOk.or (memo_ok run1_ok fun e he => ?_) (call_spec run1_ok 210)
  simp only [tab210, List.mem_cons, List.not_mem_nil, or_false] at he
  subst he
  exact m210_0_ok
noncomputable def tab144 : List (List Value × Value) := [m144_0, m144_1]
theorem tab144_ok [Go.Ev.Sg] : SpecOk Tryz.prog 144 (sOr (memo tab144) (run1 144)) := by
  refine SpecOk.or (memo_ok run1_ok fun e he => ?_) (call_spec run1_ok 144)
  simp only [tab144, List.mem_cons, List.not_mem_nil, or_false] at he
  rcases he with rfl | rfl
  · exact m144_0_ok
  · exact m144_1_ok
noncomputable def specs2 : List (FuncId × Spec) := [(128, sOr (memo tab128) (run1 128)), (103, sOr (memo tab103) (run1 103)), (86, sOr (memo tab86) (run1 86)), (246, sOr (memo tab246) (run1 246)), (207, sOr (memo tab207) (run1 207)), (127, sOr (memo tab127) (run1 127)), (210, sOr (memo tab210) (run1 210)), (144, sOr (memo tab144) (run1 144))] ++ specs1
theorem specs2_ok [Go.Ev.Sg] : ∀ e ∈ specs2, SpecOk Tryz.prog e.1 e.2 := by
  intro e he
  rcases List.mem_append.1 he with he | he
  · simp only [List.mem_cons, List.not_mem_nil, or_false] at he
    rcases he with rfl | rfl | rfl | rfl | rfl | rfl | rfl | rfl
    · exact tab128_ok
    · exact tab103_ok
    · exact tab86_ok
    · exact tab246_ok
    · exact tab207_ok
    · exact tab127_ok
    · exact tab210_ok
    · exact tab144_ok
  · exact specs1_ok e he
noncomputable abbrev run2 : Go.Ev.Call := evF (envOf specs2) 100000 200
theorem run2_ok [Go.Ev.Sg] : CallsOk Tryz.prog run2 := calls_of specs2_ok _ _
end Go.Proofs
