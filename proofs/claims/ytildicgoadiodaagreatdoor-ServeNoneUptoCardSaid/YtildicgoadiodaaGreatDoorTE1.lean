/- Contracts out of tables. -/
import Derived.Test.YtildicgoadiodaaGreatDoorTM0A
import Derived.Test.YtildicgoadiodaaGreatDoorTM0B
import Derived.Test.YtildicgoadiodaaGreatDoorTM0C
import Derived.Test.YtildicgoadiodaaGreatDoorTM0D
import Derived.Test.YtildicgoadiodaaGreatDoorTM0E
import Derived.Test.YtildicgoadiodaaGreatDoorTM0F
/-! Contracts out of tables. -/
namespace Go.Proofs
open Go.Ev
set_option maxRecDepth 1000000
noncomputable def tab80 : List Win := [w80_0, w80_1, w80_2, w80_3, w80_4, w80_5, w80_6, w80_7, w80_8, w80_9, w80_10, w80_11, w80_12, w80_13, w80_14, w80_15, w80_16, w80_17, w80_18, w80_19, w80_20, w80_21, w80_22, w80_23, w80_24, w80_25, w80_26]
theorem tab80_ok [Go.Ev.Sg] : SpecOk Tryz.prog 80 (sOr (winSpec 64 5 tab80) (run0 80)) := by
  refine SpecOk.or (win_ok run0_ok (by decide) one5 fun e he => ?_) (call_spec run0_ok 80)
  simp only [tab80, List.mem_cons, List.not_mem_nil, or_false] at he
  rcases he with rfl | rfl | rfl | rfl | rfl | rfl | rfl | rfl | rfl | rfl | rfl | rfl | rfl | rfl | rfl | rfl | rfl | rfl | rfl | rfl | rfl | rfl | rfl | rfl | rfl | rfl | rfl
  · exact w80_0_ok
  · exact w80_1_ok
  · exact w80_2_ok
  · exact w80_3_ok
  · exact w80_4_ok
  · exact w80_5_ok
  · exact w80_6_ok
  · exact w80_7_ok
  · exact w80_8_ok
  · exact w80_9_ok
  · exact w80_10_ok
  · exact w80_11_ok
  · exact w80_12_ok
  · exact w80_13_ok
  · exact w80_14_ok
  · exact w80_15_ok
  · exact w80_16_ok
  · exact w80_17_ok
  · exact w80_18_ok
  · exact w80_19_ok
  · exact w80_20_ok
  · exact w80_21_ok
  · exact w80_22_ok
  · exact w80_23_ok
  · exact w80_24_ok
  · exact w80_25_ok
  · exact w80_26_ok
noncomputable def tab232 : List (List Value × Value) := [m232_0, m232_1]
theorem tab232_ok [Go.Ev.Sg] : SpecOk Tryz.prog 232 (sOr (memo tab232) (run0 232)) := by
  refine SpecOk.or (memo_ok run0_ok fun e he => ?_) (call_spec run0_ok 232)
  simp only [tab232, List.mem_cons, List.not_mem_nil, or_false] at he
  rcases he with rfl | rfl
  · exact m232_0_ok
  · exact m232_1_ok
noncomputable def tab227 : List (List Value × Value) := [m227_0, m227_1, m227_2, m227_3, m227_4, m227_5, m227_6, m227_7, m227_8, m227_9, m227_10, m227_11, m227_12, m227_13]
theorem tab227_ok [Go.Ev.Sg] : SpecOk Tryz.prog 227 (sOr (memo tab227) (run0 227)) := by
  refine SpecOk.or (memo_ok run0_ok fun e he => ?_) (call_spec run0_ok 227)
  simp only [tab227, List.mem_cons, List.not_mem_nil, or_false] at he
  rcases he with rfl | rfl | rfl | rfl | rfl | rfl | rfl | rfl | rfl | rfl | rfl | rfl | rfl | rfl
  · exact m227_0_ok
  · exact m227_1_ok
  · exact m227_2_ok
  · exact m227_3_ok
  · exact m227_4_ok
  · exact m227_5_ok
  · exact m227_6_ok
  · exact m227_7_ok
  · exact m227_8_ok
  · exact m227_9_ok
  · exact m227_10_ok
  · exact m227_11_ok
  · exact m227_12_ok
  · exact m227_13_ok
noncomputable def tab159 : List (List Value × Value) := [m159_0, m159_1, m159_2, m159_3, m159_4, m159_5, m159_6, m159_7, m159_8]
theorem tab159_ok [Go.Ev.Sg] : SpecOk Tryz.prog 159 (sOr (memo tab159) (run0 159)) := by
  refine SpecOk.or (memo_ok run0_ok fun e he => ?_) (call_spec run0_ok 159)
  simp only [tab159, List.mem_cons, List.not_mem_nil, or_false] at he
  rcases he with rfl | rfl | rfl | rfl | rfl | rfl | rfl | rfl | rfl
  · exact m159_0_ok
  · exact m159_1_ok
  · exact m159_2_ok
  · exact m159_3_ok
  · exact m159_4_ok
  · exact m159_5_ok
  · exact m159_6_ok
  · exact m159_7_ok
  · exact m159_8_ok
noncomputable def tab190 : List (List Value × Value) := [m190_0, m190_1, m190_2]
theorem tab190_ok [Go.Ev.Sg] : SpecOk Tryz.prog 190 (sOr (memo tab190) (run0 190)) := by
  refine SpecOk.or (memo_ok run0_ok fun e he => ?_) (call_spec run0_ok 190)
  simp only [tab190, List.mem_cons, List.not_mem_nil, or_false] at he
  rcases he with rfl | rfl | rfl
  · exact m190_0_ok
  · exact m190_1_ok
  · exact m190_2_ok
noncomputable def tab104 : List (List Value × Value) := [m104_0, m104_1, m104_2, m104_3, m104_4, m104_5]
theorem tab104_ok [Go.Ev.Sg] : SpecOk Tryz.prog 104 (sOr (memo tab104) (run0 104)) := by
  refine SpecOk.or (memo_ok run0_ok fun e he => ?_) (call_spec run0_ok 104)
  simp only [tab104, List.mem_cons, List.not_mem_nil, or_false] at he
  rcases he with rfl | rfl | rfl | rfl | rfl | rfl
  · exact m104_0_ok
  · exact m104_1_ok
  · exact m104_2_ok
  · exact m104_3_ok
  · exact m104_4_ok
  · exact m104_5_ok
noncomputable def tab75 : List (List Value × Value) := [m75_0, m75_1, m75_2]
theorem tab75_ok [Go.Ev.Sg] : SpecOk Tryz.prog 75 (sOr (memo tab75) (run0 75)) := by
  refine SpecOk.or (memo_ok run0_ok fun e he => ?_) (call_spec run0_ok 75)
  simp only [tab75, List.mem_cons, List.not_mem_nil, or_false] at he
  rcases he with rfl | rfl | rfl
  · exact m75_0_ok
  · exact m75_1_ok
  · exact m75_2_ok
noncomputable def tab194 : List (List Value × Value) := [m194_0, m194_1, m194_2, m194_3, m194_4, m194_5, m194_6, m194_7, m194_8, m194_9, m194_10, m194_11, m194_12, m194_13]
theorem tab194_ok [Go.Ev.Sg] : SpecOk Tryz.prog 194 (sOr (memo tab194) (run0 194)) := by
  refine SpecOk.or (memo_ok run0_ok fun e he => ?_) (call_spec run0_ok 194)
  simp only [tab194, List.mem_cons, List.not_mem_nil, or_false] at he
  rcases he with rfl | rfl | rfl | rfl | rfl | rfl | rfl | rfl | rfl | rfl | rfl | rfl | rfl | rfl
  · exact m194_0_ok
  · exact m194_1_ok
  · exact m194_2_ok
  · exact m194_3_ok
  · exact m194_4_ok
  · exact m194_5_ok
  · exact m194_6_ok
  · exact m194_7_ok
  · exact m194_8_ok
  · exact m194_9_ok
  · exact m194_10_ok
  · exact m194_11_ok
  · exact m194_12_ok
  · exact m194_13_ok
noncomputable def tab233 : List (List Value × Value) := [m233_0]
theorem tab233_ok [Go.Ev.Sg] : SpecOk Tryz.prog 233 (sOr (memo tab233) (run0 233)) := by
  refine SpecOk.or (memo_ok run0_ok fun e he => ?_) (call_spec run0_ok 233)
  simp only [tab233, List.mem_cons, List.not_mem_nil, or_false] at he
  subst he
  exact m233_0_ok
noncomputable def tab235 : List (List Value × Value) := [m235_0, m235_1]
theorem tab235_ok [Go.Ev.Sg] : SpecOk Tryz.prog 235 (sOr (memo tab235) (run0 235)) := by
  refine SpecOk.or (memo_ok run0_ok fun e he => ?_) (call_spec run0_ok 235)
  simp only [tab235, List.mem_cons, List.not_mem_nil, or_false] at he
  rcases he with rfl | rfl
  · exact m235_0_ok
  · exact m235_1_ok
noncomputable def tab197 : List (List Value × Value) := [m197_0, m197_1]
theorem tab197_ok [Go.Ev.Sg] : SpecOk Tryz.prog 197 (sOr (memo tab197) (run0 197)) := by
  refine SpecOk.or (memo_ok run0_ok fun e he => ?_) (call_spec run0_ok 197)
  simp only [tab197, List.mem_cons, List.not_mem_nil, or_false] at he
  rcases he with rfl | rfl
  · exact m197_0_ok
  · exact m197_1_ok
noncomputable def tab321 : List (List Value × Value) := [m321_0, m321_1, m321_2, m321_3, m321_4, m321_5, m321_6]
theorem tab321_ok [Go.Ev.Sg] : SpecOk Tryz.prog 321 (sOr (memo tab321) (run0 321)) := by
  refine SpecOk.or (memo_ok run0_ok fun e he => ?_) (call_spec run0_ok 321)
  simp only [tab321, List.mem_cons, List.not_mem_nil, or_false] at he
  rcases he with rfl | rfl | rfl | rfl | rfl | rfl | rfl
  · exact m321_0_ok
  · exact m321_1_ok
  · exact m321_2_ok
  · exact m321_3_ok
  · exact m321_4_ok
  · exact m321_5_ok
  · exact m321_6_ok
noncomputable def specs1 : List (FuncId × Spec) := [(80, sOr (winSpec 64 5 tab80) (run0 80)), (232, sOr (memo tab232) (run0 232)), (227, sOr (memo tab227) (run0 227)), (159, sOr (memo tab159) (run0 159)), (190, sOr (memo tab190) (run0 190)), (104, sOr (memo tab104) (run0 104)), (75, sOr (memo tab75) (run0 75)), (194, sOr (memo tab194) (run0 194)), (233, sOr (memo tab233) (run0 233)), (235, sOr (memo tab235) (run0 235)), (197, sOr (memo tab197) (run0 197)), (321, sOr (memo tab321) (run0 321))] ++ specs0
theorem specs1_ok [Go.Ev.Sg] : ∀ e ∈ specs1, SpecOk Tryz.prog e.1 e.2 := by
  intro e he
  rcases List.mem_append.1 he with he | he
  · simp only [List.mem_cons, List.not_mem_nil, or_false] at he
    rcases he with rfl | rfl | rfl | rfl | rfl | rfl | rfl | rfl | rfl | rfl | rfl | rfl
    · exact tab80_ok
    · exact tab232_ok
    · exact tab227_ok
    · exact tab159_ok
    · exact tab190_ok
    · exact tab104_ok
    · exact tab75_ok
    · exact tab194_ok
    · exact tab233_ok
    · exact tab235_ok
    · exact tab197_ok
    · exact tab321_ok
  · exact specs0_ok e he
noncomputable abbrev run1 : Go.Ev.Call := evF (envOf specs1) 100000 200
theorem run1_ok [Go.Ev.Sg] : CallsOk Tryz.prog run1 := calls_of specs1_ok _ _
end Go.Proofs
