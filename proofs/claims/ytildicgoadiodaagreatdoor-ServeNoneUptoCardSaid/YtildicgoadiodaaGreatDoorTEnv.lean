/- The tables of this seat's program, and its contracts. -/
import Derived.Test.YtildicgoadiodaaGreatDoorTSpecs
import Derived.Test.YtildicgoadiodaaGreatDoorEvStage
/-! The tables of this seat's program, and its contracts. -/
namespace Go.Proofs
open Go.Ev
noncomputable def tyT : Tr TypeInfo := trOf Tryz.prog.types.toList
noncomputable def fnT : Tr Func := trOf Tryz.prog.funcs.toList

abbrev Spec := List Value → Heap → Res
noncomputable def specAt (l : List (FuncId × Spec)) (f : FuncId) : Option Spec := List.rec (motive := fun _ => Option Spec) none (fun e _ ih => ifB (Nat.beq e.1 f) (some e.2) ih) l
theorem specs_of [Go.Ev.Sg] {l : List (FuncId × Spec)} {env : Env} (he : env.spec = specAt l) (h : ∀ e ∈ l, SpecOk Tryz.prog e.1 e.2) : SpecsOk Tryz.prog env := by
  intro f s hs
  rw [he] at hs
  clear he
  induction l with
  | nil => cases hs
  | cons e l ih =>
    have hs' : ifB (Nat.beq e.1 f) (some e.2) (specAt l f) = some s := hs
    cases hb : Nat.beq e.1 f with
    | true =>
      rw [hb, ifB_true] at hs'
      cases hs'
      have := Nat.eq_of_beq_eq_true hb
      subst this
      exact h e (by simp)
    | false =>
      rw [hb, ifB_false] at hs'
      exact ih (fun e he => h e (List.mem_cons_of_mem _ he)) hs'

noncomputable def envOf (l : List (FuncId × Spec)) : Env := envK tyT fnT (fun _ => false) (specAt l)

theorem env_ok [Go.Ev.Sg] {l : List (FuncId × Spec)} : EnvOk Tryz.prog (envOf l) := envOk rfl (fun _ h => by cases h)
noncomputable def specs0 : List (FuncId × Spec) := [(87, sKids), (319, sUsed), (188, sBlocks), (107, sKeys 165), (147, sKeys 199), (228, sKeys 285), (150, sKeys 202), (149, sSortedI 202 3), (106, sOr (sSorted 165 9) (sOr (sSorted 199 9) (sSorted 285 9))), (88, sClone), (252, sCompare), (192, sSame), (339, sIndexByte), (352, sCount)]

theorem specs0_ok [Go.Ev.Sg] : ∀ e ∈ specs0, SpecOk Tryz.prog e.1 e.2 := by
  intro e he
  simp only [specs0, List.mem_cons, List.not_mem_nil, or_false] at he
  rcases he with rfl | rfl | rfl | rfl | rfl | rfl | rfl | rfl | rfl | rfl | rfl | rfl | rfl | rfl
  · exact kids87
  · exact used319
  · exact blocks188
  · exact mkeys107
  · exact mkeys147
  · exact mkeys228
  · exact mkeys150
  · exact msorted150
  · exact msorted107.or (msorted147.or (msorted228))
  · exact clone_ok ext88
  · exact compare_ok ext252
  · exact same_ok ext192
  · exact indexByte_ok ext339
  · exact count_ok ext352

theorem mixed : Tryz.prog.follows .mixedOrders = true := by kernel_rfl

theorem calls_of [Go.Ev.Sg] {l : List (FuncId × Spec)} (h : ∀ e ∈ l, SpecOk Tryz.prog e.1 e.2) (N d : Nat) : CallsOk Tryz.prog (evF (envOf l) N d) :=
  evF_ok env_ok mixed (funsOk rfl) (specs_of rfl h) N d

noncomputable abbrev run0 : Go.Ev.Call := evF (envOf specs0) 100000 200
theorem run0_ok [Go.Ev.Sg] : CallsOk Tryz.prog run0 := calls_of specs0_ok _ _
theorem one5 : ∀ i, Tryz.prog.info? 5 = some i → i.size = 1 := by
  have h : (Tryz.prog.info? 5).map (fun i => i.size) = some 1 := by kernel_rfl
  intro i hi
  rw [hi] at h
  simpa using h
end Go.Proofs
