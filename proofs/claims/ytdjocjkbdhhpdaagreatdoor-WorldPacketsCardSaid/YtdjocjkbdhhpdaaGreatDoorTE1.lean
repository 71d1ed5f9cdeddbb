/- Contracts out of tables. -/
import Derived.Test.YtdjocjkbdhhpdaaGreatDoorTM0A
import Derived.Test.YtdjocjkbdhhpdaaGreatDoorTM0B
import Derived.Test.YtdjocjkbdhhpdaaGreatDoorTM0C
import Derived.Test.YtdjocjkbdhhpdaaGreatDoorTM0D
import Derived.Test.YtdjocjkbdhhpdaaGreatDoorTM0E
import Derived.Test.YtdjocjkbdhhpdaaGreatDoorTM0F
/-! Contracts out of tables. -/
namespace Go.Proofs
open Go.Ev
set_option maxRecDepth 1000000
noncomputable def tab354 : List Win := [w354_0, w354_1, w354_2, w354_3, w354_4, w354_5, w354_6, w354_7, w354_8, w354_9, w354_10, w354_11, w354_12, w354_13, w354_14, w354_15, w354_16, w354_17, w354_18, w354_19, w354_20, w354_21, w354_22, w354_23, w354_24, w354_25, w354_26]
theorem tab354_ok [Go.Ev.Sg] : SpecOk Tryz.prog 354 (sOr (winSpec 64 5 tab354) (run0 354)) := by
  refine SpecOk.or (win_ok run0_ok (by decide) one5 fun e he => ?_) (call_spec run0_ok 354)
  simp only [tab354, List.mem_cons, List.not_mem_nil, or_false] at he
  rcases he with rfl | rfl | rfl | rfl | rfl | rfl | rfl | rfl | rfl | rfl | rfl | rfl | rfl | rfl | rfl | rfl | rfl | rfl | rfl | rfl | rfl | rfl | rfl | rfl | rfl | rfl | rfl
  · exact w354_0_ok
  · exact w354_1_ok
  · exact w354_2_ok
  · exact w354_3_ok
  · exact w354_4_ok
  · exact w354_5_ok
  · exact w354_6_ok
  · exact w354_7_ok
  · exact w354_8_ok
  · exact w354_9_ok
  · exact w354_10_ok
  · exact w354_11_ok
  · exact w354_12_ok
  · exact w354_13_ok
  · exact w354_14_ok
  · exact w354_15_ok
  · exact w354_16_ok
  · exact w354_17_ok
  · exact w354_18_ok
  · exact w354_19_ok
  · exact w354_20_ok
  · exact w354_21_ok
  · exact w354_22_ok
  · exact w354_23_ok
  · exact w354_24_ok
  · exact w354_25_ok
  · exact w354_26_ok
noncomputable def tab224 : List (List Value × Value) := [m224_0, m224_1, m224_2, m224_3, m224_4, m224_5, m224_6, m224_7]
theorem tab224_ok [Go.Ev.Sg] : SpecOk Tryz.prog 224 (sOr (memo tab224) (run0 224)) := by
  refine SpecOk.or (memo_ok run0_ok fun e he => ?_) (call_spec run0_ok 224)
  simp only [tab224, List.mem_cons, List.not_mem_nil, or_false] at he
  rcases he with rfl | rfl | rfl | rfl | rfl | rfl | rfl | rfl
  · exact m224_0_ok
  · exact m224_1_ok
  · exact m224_2_ok
  · exact m224_3_ok
  · exact m224_4_ok
  · exact m224_5_ok
  · exact m224_6_ok
  · exact m224_7_ok
noncomputable def tab78 : List (List Value × Value) := [m78_0, m78_1, m78_2, m78_3, m78_4, m78_5, m78_6, m78_7, m78_8, m78_9, m78_10, m78_11, m78_12, m78_13]
theorem tab78_ok [Go.Ev.Sg] : SpecOk Tryz.prog 78 (sOr (memo tab78) (run0 78)) := by
  refine SpecOk.or (memo_ok run0_ok fun e he => ?_) (call_spec run0_ok 78)
  simp only [tab78, List.mem_cons, List.not_mem_nil, or_false] at he
  rcases he with rfl | rfl | rfl | rfl | rfl | rfl | rfl | rfl | rfl | rfl | rfl | rfl | rfl | rfl
  · exact m78_0_ok
  · exact m78_1_ok
  · exact m78_2_ok
  · exact m78_3_ok
  · exact m78_4_ok
  · exact m78_5_ok
  · exact m78_6_ok
  · exact m78_7_ok
  · exact m78_8_ok
  · exact m78_9_ok
  · exact m78_10_ok
  · exact m78_11_ok
  · exact m78_12_ok
  · exact m78_13_ok
noncomputable def tab200 : List (List Value × Value) := [m200_0, m200_1, m200_2, m200_3, m200_4, m200_5, m200_6, m200_7, m200_8]
theorem tab200_ok [Go.Ev.Sg] : SpecOk Tryz.prog 200 (sOr (memo tab200) (run0 200)) := by
  refine SpecOk.or (memo_ok run0_ok fun e he => ?_) (call_spec run0_ok 200)
  simp only [tab200, List.mem_cons, List.not_mem_nil, or_false] at he
  rcases he with rfl | rfl | rfl | rfl | rfl | rfl | rfl | rfl | rfl
  · exact m200_0_ok
  · exact m200_1_ok
  · exact m200_2_ok
  · exact m200_3_ok
  · exact m200_4_ok
  · exact m200_5_ok
  · exact m200_6_ok
  · exact m200_7_ok
  · exact m200_8_ok
noncomputable def tab252 : List (List Value × Value) := [m252_0, m252_1, m252_2]
theorem tab252_ok [Go.Ev.Sg] : SpecOk Tryz.prog 252 (sOr (memo tab252) (run0 252)) := by
  refine SpecOk.or (memo_ok run0_ok fun e he => ?_) (call_spec run0_ok 252)
  simp only [tab252, List.mem_cons, List.not_mem_nil, or_false] at he
  rcases he with rfl | rfl | rfl
  · exact m252_0_ok
  · exact m252_1_ok
  · exact m252_2_ok
noncomputable def tab260 : List (List Value × Value) := [m260_0, m260_1, m260_2, m260_3, m260_4, m260_5]
theorem tab260_ok [Go.Ev.Sg] : SpecOk Tryz.prog 260 (sOr (memo tab260) (run0 260)) := by
  refine SpecOk.or (memo_ok run0_ok fun e he => ?_) (call_spec run0_ok 260)
  simp only [tab260, List.mem_cons, List.not_mem_nil, or_false] at he
  rcases he with rfl | rfl | rfl | rfl | rfl | rfl
  · exact m260_0_ok
  · exact m260_1_ok
  · exact m260_2_ok
  · exact m260_3_ok
  · exact m260_4_ok
  · exact m260_5_ok
noncomputable def tab182 : List (List Value × Value) := [m182_0, m182_1, m182_2]
theorem tab182_ok [Go.Ev.Sg] : SpecOk Tryz.prog 182 (sOr (memo tab182) (run0 182)) := by
  refine SpecOk.or (memo_ok run0_ok fun e he => ?_) (call_spec run0_ok 182)
  simp only [tab182, List.mem_cons, List.not_mem_nil, or_false] at he
  rcases he with rfl | rfl | rfl
  · exact m182_0_ok
  · exact m182_1_ok
  · exact m182_2_ok
noncomputable def tab231 : List (List Value × Value) := [m231_0, m231_1, m231_2, m231_3, m231_4, m231_5, m231_6, m231_7, m231_8, m231_9, m231_10, m231_11, m231_12, m231_13]
theorem tab231_ok [Go.Ev.Sg] : SpecOk Tryz.prog 231 (sOr (memo tab231) (run0 231)) := by
  refine SpecOk.or (memo_ok run0_ok fun e he => ?_) (call_spec run0_ok 231)
  simp only [tab231, List.mem_cons, List.not_mem_nil, or_false] at he
  rcases he with rfl | rfl | rfl | rfl | rfl | rfl | rfl | rfl | rfl | rfl | rfl | rfl | rfl | rfl
  · exact m231_0_ok
  · exact m231_1_ok
  · exact m231_2_ok
  · exact m231_3_ok
  · exact m231_4_ok
  · exact m231_5_ok
  · exact m231_6_ok
  · exact m231_7_ok
  · exact m231_8_ok
  · exact m231_9_ok
  · exact m231_10_ok
  · exact m231_11_ok
  · exact m231_12_ok
  · exact m231_13_ok
noncomputable def tab52 : List (List Value × Value) := [m52_0]
theorem tab52_ok [Go.Ev.Sg] : SpecOk Tryz.prog 52 (sOr (memo tab52) (run0 52)) := by
  refine SpecOk.or (memo_ok run0_ok fun e he => ?_) (call_spec run0_ok 52)
  simp only [tab52, List.mem_cons, List.not_mem_nil, or_false] at he
  subst he
  exact m52_0_ok
noncomputable def tab265 : List (List Value × Value) := [m265_0, m265_1]
theorem tab265_ok [Go.Ev.Sg] : SpecOk Tryz.prog 265 (sOr (memo tab265) (run0 265)) := by
  refine SpecOk.or (memo_ok run0_ok fun e he => ?_) (call_spec run0_ok 265)
  simp only [tab265, List.mem_cons, List.not_mem_nil, or_false] at he
  rcases he with rfl | rfl
  · exact m265_0_ok
  · exact m265_1_ok
noncomputable def tab235 : List (List Value × Value) := [m235_0, m235_1]
theorem tab235_ok [Go.Ev.Sg] : SpecOk Tryz.prog 235 (sOr (memo tab235) (run0 235)) := by
  refine SpecOk.or (memo_ok run0_ok fun e he => ?_) (call_spec run0_ok 235)
  simp only [tab235, List.mem_cons, List.not_mem_nil, or_false] at he
  rcases he with rfl | rfl
  · exact m235_0_ok
  · exact m235_1_ok
noncomputable def tab352 : List (List Value × Value) := [m352_0, m352_1, m352_2, m352_3, m352_4, m352_5, m352_6]
theorem tab352_ok [Go.Ev.Sg] : SpecOk Tryz.prog 352 (sOr (memo tab352) (run0 352)) := by
  refine SpecOk.or (memo_ok run0_ok fun e he => ?_) (call_spec run0_ok 352)
  simp only [tab352, List.mem_cons, List.not_mem_nil, or_false] at he
  rcases he with rfl | rfl | rfl | rfl | rfl | rfl | rfl
  · exact m352_0_ok
  · exact m352_1_ok
  · exact m352_2_ok
  · exact m352_3_ok
  · exact m352_4_ok
  · exact m352_5_ok
  · exact m352_6_ok
noncomputable def specs1 : List (FuncId × Spec) := [(354, sOr (winSpec 64 5 tab354) (run0 354)), (224, sOr (memo tab224) (run0 224)), (78, sOr (memo tab78) (run0 78)), (200, sOr (memo tab200) (run0 200)), (252, sOr (memo tab252) (run0 252)), (260, sOr (memo tab260) (run0 260)), (182, sOr (memo tab182) (run0 182)), (231, sOr (memo tab231) (run0 231)), (52, sOr (memo tab52) (run0 52)), (265, sOr (memo tab265) (run0 265)), (235, sOr (memo tab235) (run0 235)), (352, sOr (memo tab352) (run0 352))] ++ specs0
theorem specs1_ok [Go.Ev.Sg] : ∀ e ∈ specs1, SpecOk Tryz.prog e.1 e.2 := by
  intro e he
  rcases List.mem_append.1 he with he | he
  · simp only [List.mem_cons, List.not_mem_nil, or_false] at he
    rcases he with rfl | rfl | rfl | rfl | rfl | rfl | rfl | rfl | rfl | rfl | rfl | rfl
    · exact tab354_ok
    · exact tab224_ok
    · exact tab78_ok
    · exact tab200_ok
    · exact tab252_ok
    · exact tab260_ok
    · exact tab182_ok
    · exact tab231_ok
    · exact tab52_ok
    · exact tab265_ok
    · exact tab235_ok
    · exact tab352_ok
  · exact specs0_ok e he
noncomputable abbrev run1 : Go.Ev.Call := evF (envOf specs1) 100000 200
theorem run1_ok [Go.Ev.Sg] : CallsOk Tryz.prog run1 := calls_of specs1_ok _ _
end Go.Proofs
