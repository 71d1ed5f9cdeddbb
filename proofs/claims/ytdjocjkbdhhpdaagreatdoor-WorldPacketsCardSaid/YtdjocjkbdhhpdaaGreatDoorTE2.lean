/- Contracts out of tables. -/
import Derived.Test.YtdjocjkbdhhpdaaGreatDoorTM1A
import Derived.Test.YtdjocjkbdhhpdaaGreatDoorTM1B
/-! Contracts out of tables. -/
namespace Go.Proofs
open Go.Ev
set_option maxRecDepth 1000000
noncomputable def tab211 : List (List Value × Value) := [m211_0, m211_1, m211_2, m211_3, m211_4]
theorem tab211_ok [Go.Ev.Sg] : SpecOk Tryz.prog 211 (sOr (memo tab211) (run1 211)) := by
  refine SpecOk.or (memo_ok run1_ok fun e he => ?_) (call_spec run1_ok 211)
  simp only [tab211, List.mem_cons, List.not_mem_nil, or_false] at he
  rcases he with rfl | rfl | rfl | rfl | rfl
  · exact m211_0_ok
  · exact m211_1_ok
  · exact m211_2_ok
  · exact m211_3_ok
  · exact m211_4_ok
noncomputable def tab259 : List (List Value × Value) := [m259_0, m259_1, m259_2]
theorem tab259_ok [Go.Ev.Sg] : SpecOk Tryz.prog 259 (sOr (memo tab259) (run1 259)) := by
  refine SpecOk.or (memo_ok run1_ok fun e he => ?_) (call_spec run1_ok 259)
  simp only [tab259, List.mem_cons, List.not_mem_nil, or_false] at he
  rcases he with rfl | rfl | rfl
  · exact m259_0_ok
  · exact m259_1_ok
  · exact m259_2_ok
noncomputable def tab82 : List (List Value × Value) := [m82_0, m82_1, m82_2, m82_3, m82_4, m82_5, m82_6, m82_7, m82_8, m82_9, m82_10, m82_11, m82_12, m82_13]
theorem tab82_ok [Go.Ev.Sg] : SpecOk Tryz.prog 82 (sOr (memo tab82) (run1 82)) := by
  refine SpecOk.or (memo_ok run1_ok fun e he => ?_) (call_spec run1_ok 82)
  simp only [tab82, List.mem_cons, List.not_mem_nil, or_false] at he
  rcases he with rfl | rfl | rfl | rfl | rfl | rfl | rfl | rfl | rfl | rfl | rfl | rfl | rfl | rfl
  · exact m82_0_ok
  · exact m82_1_ok
  · exact m82_2_ok
  · exact m82_3_ok
  · exact m82_4_ok
  · exact m82_5_ok
  · exact m82_6_ok
  · exact m82_7_ok
  · exact m82_8_ok
  · exact m82_9_ok
  · exact m82_10_ok
  · exact m82_11_ok
  · exact m82_12_ok
  · exact m82_13_ok
noncomputable def tab174 : List (List Value × Value) := [m174_0, m174_1, m174_2, m174_3, m174_4, m174_5, m174_6, m174_7]
theorem tab174_ok [Go.Ev.Sg] : SpecOk Tryz.prog 174 (sOr (memo tab174) (run1 174)) := by
  refine SpecOk.or (memo_ok run1_ok fun e he => ?_) (call_spec run1_ok 174)
  simp only [tab174, List.mem_cons, List.not_mem_nil, or_false] at he
  rcases he with rfl | rfl | rfl | rfl | rfl | rfl | rfl | rfl
  · exact m174_0_ok
  · exact m174_1_ok
  · exact m174_2_ok
  · exact m174_3_ok
  · exact m174_4_ok
  · exact m174_5_ok
  · exact m174_6_ok
  · exact m174_7_ok
noncomputable def tab136 : List (List Value × Value) := [m136_0, m136_1, m136_2, m136_3, m136_4, m136_5]
theorem tab136_ok [Go.Ev.Sg] : SpecOk Tryz.prog 136 (sOr (memo tab136) (run1 136)) := by
  refine SpecOk.or (memo_ok run1_ok fun e he => ?_) (call_spec run1_ok 136)
  simp only [tab136, List.mem_cons, List.not_mem_nil, or_false] at he
  rcases he with rfl | rfl | rfl | rfl | rfl | rfl
  · exact m136_0_ok
  · exact m136_1_ok
  · exact m136_2_ok
  · exact m136_3_ok
  · exact m136_4_ok
  · exact m136_5_ok
noncomputable def tab209 : List (List Value × Value) := [m209_0]
theorem tab209_ok [Go.Ev.Sg] : SpecOk Tryz.prog 209 (sOr (memo tab209) (run1 209)) := by
  refine SpecOk.or (memo_ok run1_ok fun e he => ?_) (call_spec run1_ok 209)
  simp only [tab209, List.mem_cons, List.not_mem_nil, or_false] at he
  subst he
  exact m209_0_ok
noncomputable def tab348 : List (List Value × Value) := [m348_0, m348_1, m348_2]
theorem tab348_ok [Go.Ev.Sg] : SpecOk Tryz.prog 348 (sOr (memo tab348) (run1 348)) := by
  refine SpecOk.or (memo_ok run1_ok fun e he => ?_) (call_spec run1_ok 348)
  simp only [tab348, List.mem_cons, List.not_mem_nil, or_false] at he
  rcases he with rfl | rfl | rfl
  · exact m348_0_ok
  · exact m348_1_ok
  · exact m348_2_ok
noncomputable def tab257 : List (List Value × Value) := [m257_0]
theorem tab257_ok [Go.Ev.Sg] : SpecOk Tryz.prog 257 (sOr (memo tab257) (run1 257)) := by
  refine SpecOk.or (memo_ok run1_ok fun e he => ?_) (call_spec run1_ok 257)
  simp only [tab257, List.mem_cons, List.not_mem_nil, or_false] at he
  subst he
  exact m257_0_ok
noncomputable def tab196 : List (List Value × Value) := [m196_0, m196_1]
theorem tab196_ok [Go.Ev.Sg] : SpecOk Tryz.prog 196 (sOr (memo tab196) (run1 196)) := by
  refine SpecOk.or (memo_ok run1_ok fun e he => ?_) (call_spec run1_ok 196)
  simp only [tab196, List.mem_cons, List.not_mem_nil, or_false] at he
  rcases he with rfl | rfl
  · exact m196_0_ok
  · exact m196_1_ok
noncomputable def specs2 : List (FuncId × Spec) := [(211, sOr (memo tab211) (run1 211)), (259, sOr (memo tab259) (run1 259)), (82, sOr (memo tab82) (run1 82)), (174, sOr (memo tab174) (run1 174)), (136, sOr (memo tab136) (run1 136)), (209, sOr (memo tab209) (run1 209)), (348, sOr (memo tab348) (run1 348)), (257, sOr (memo tab257) (run1 257)), (196, sOr (memo tab196) (run1 196))] ++ specs1
theorem specs2_ok [Go.Ev.Sg] : ∀ e ∈ specs2, SpecOk Tryz.prog e.1 e.2 := by
  intro e he
  rcases List.mem_append.1 he with he | he
  · simp only [List.mem_cons, List.not_mem_nil, or_false] at he
    rcases he with rfl | rfl | rfl | rfl | rfl | rfl | rfl | rfl | rfl
    · exact tab211_ok
    · exact tab259_ok
    · exact tab82_ok
    · exact tab174_ok
    · exact tab136_ok
    · exact tab209_ok
    · exact tab348_ok
    · exact tab257_ok
    · exact tab196_ok
  · exact specs1_ok e he
noncomputable abbrev run2 : Go.Ev.Call := evF (envOf specs2) 100000 200
theorem run2_ok [Go.Ev.Sg] : CallsOk Tryz.prog run2 := calls_of specs2_ok _ _
end Go.Proofs
