/- The tables of this seat's program, and its contracts. -/
import Derived.Test.YtgfkoolajkccnaaGreatDoorTSpecs
/-! The tables of this seat's program, and its contracts. -/
namespace Go.Proofs
open Go.Ev
noncomputable def tyT : Tr TypeInfo := trOf Tryz.prog.types.toList
noncomputable def fnT : Tr Func := trOf Tryz.prog.funcs.toList

abbrev Spec := List Value → Heap → Res
noncomputable def specAt (l : List (FuncId × Spec)) (f : FuncId) : Option Spec := List.rec (motive := fun _ => Option Spec) none (fun e _ ih => ifB (Nat.beq e.1 f) (some e.2) ih) l
theorem specs_of {l : List (FuncId × Spec)} {env : Env} (he : env.spec = specAt l) (h : ∀ e ∈ l, SpecOk Tryz.prog e.1 e.2) : SpecsOk Tryz.prog env := by
  intro f s hs
  rw [he] at hs
  clear he
  induction l with
  | nil => cases hs
  | cons e l ih =>
    have hs' : ifB (Nat.beq e.1 f) (some e.2) (specAt l f) = some s := hs
    cases hb : Nat.beq e.1 f with
    | true =>
      rw [hb, ifB_true] at hs'
      cases hs'
      have := Nat.eq_of_beq_eq_true hb
      subst this
      exact h e (by simp)
    | false =>
      rw [hb, ifB_false] at hs'
      exact ih (fun e he => h e (List.mem_cons_of_mem _ he)) hs'

noncomputable def eqT (t : TypeId) : Bool := Nat.beq t 107
noncomputable def envOf (l : List (FuncId × Spec)) : Env := envK tyT fnT eqT (specAt l)
theorem eqT107 : Tryz.prog.eqGuardType Tryz.prog.depth 107 = false ∧ Tryz.prog.stoodInHeld 107 = false := ⟨by kernel_rfl, by kernel_rfl⟩
theorem env_ok {l : List (FuncId × Spec)} : EnvOk Tryz.prog (envOf l) := envOk rfl fun t h => by
  unfold eqT at h
  rw [Nat.eq_of_beq_eq_true h]; exact eqT107


noncomputable def specs0 : List (FuncId × Spec) := [(91, sKids), (229, sUsed), (109, sKeys 180), (144, sKeys 213), (205, sKeys 262), (108, sOr (sSorted 180 9) (sOr (sSorted 213 9) (sSorted 262 9))), (92, sClone), (247, sCompare), (246, sSame), (275, sIndexByte), (280, sCount)]

theorem specs0_ok : ∀ e ∈ specs0, SpecOk Tryz.prog e.1 e.2 := by
  intro e he
  simp only [specs0, List.mem_cons, List.not_mem_nil, or_false] at he
  rcases he with rfl | rfl | rfl | rfl | rfl | rfl | rfl | rfl | rfl | rfl | rfl
  · exact kids91
  · exact used229
  · exact mkeys109
  · exact mkeys144
  · exact mkeys205
  · exact msorted109.or (msorted144.or (msorted205))
  · exact clone_ok ext92
  · exact compare_ok ext247
  · exact same_ok ext246
  · exact indexByte_ok ext275
  · exact count_ok ext280

theorem mixed : Tryz.prog.follows .mixedOrders = true := by kernel_rfl

theorem calls_of {l : List (FuncId × Spec)} (h : ∀ e ∈ l, SpecOk Tryz.prog e.1 e.2) (N d : Nat) : CallsOk Tryz.prog (evF (envOf l) N d) :=
  evF_ok env_ok mixed (funsOk rfl) (specs_of rfl h) N d

noncomputable abbrev run0 : Go.Ev.Call := evF (envOf specs0) 100000 200
theorem run0_ok : CallsOk Tryz.prog run0 := calls_of specs0_ok _ _
theorem one5 : ∀ i, Tryz.prog.info? 5 = some i → i.size = 1 := by
  have h : (Tryz.prog.info? 5).map (fun i => i.size) = some 1 := by kernel_rfl
  intro i hi
  rw [hi] at h
  simpa using h
end Go.Proofs
