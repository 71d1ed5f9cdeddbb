/- The tables of this seat's program, and its contracts. -/
import Derived.Test.YthnojgpobfpgeaaGreatDoorProg
import Derived.Test.YthnojgpobfpgeaaGreatDoorEvSpecs
namespace Go.Proofs
open Go.Ev
noncomputable def tyT : Tr TypeInfo := trOf Tryz.prog.types.toList
noncomputable def fnT : Tr Func := trOf Tryz.prog.funcs.toList
abbrev Spec := List Value -> Heap -> Res
noncomputable def specAt (l : List (FuncId × Spec)) (f : FuncId) : Option Spec := List.rec (motive := fun _ => Option Spec) none (fun e _ ih => ifB (Nat.beq e.1 f) (some e.2) ih) l
theorem specs_of [Go.Ev.Sg] {l : List (FuncId × Spec)} {env : Env} (he : env.spec = specAt l) (h : ∀ e ∈ l, SpecOk Tryz.prog e.1 e.2) : SpecsOk Tryz.prog env := by
 intro f s hs
 rw [he] at hs
 clear he
 induction l with
 | nil => cases hs
 | cons e l ih =>
  have hs' : ifB (Nat.beq e.1 f) (some e.2) (specAt l f) = some s := hs
  cases hb : Nat.beq e.1 f with
  | true =>
   rw [hb, ifB_true] at hs'
   cases hs'
   have := Nat.eq_of_beq_eq_true hb
   subst this
   exact h e (by simp)
  | false =>
   rw [hb, ifB_false] at hs'
   exact ih (fun e he => h e (List.mem_cons_of_mem _ he)) hs'
noncomputable def envOf (l : List (FuncId × Spec)) : Env := envK tyT fnT (fun _ => false) (specAt l)
theorem env_ok [Go.Ev.Sg] {l : List (FuncId × Spec)} : EnvOk Tryz.prog (envOf l) := envOk rfl (fun _ h => by cases h)
theorem mixed : Tryz.prog.follows .mixedOrders = true := by kernel_rfl
end Go.Proofs
