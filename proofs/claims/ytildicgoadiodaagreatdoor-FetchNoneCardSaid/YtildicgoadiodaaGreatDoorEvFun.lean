/- Functions, and the evaluator's theorem. -/
import Derived.Test.YtildicgoadiodaaGreatDoorEvDraw
/-! Functions, and the evaluator's theorem. -/
namespace Go.Ev
open Go.RowKit
variable [Sg]

/-- What a table of functions owes to the program. -/
def FunsOk (P : Program) (env : Env) : Prop :=
  ∀ f fn, env.func f = some fn → ∃ F, P.funcs[f]? = some F ∧ F.body = some fn.body ∧ F.ntmps = fn.ntmps ∧ F.results.toList = fn.results ∧ (F.name == "runtime.NumGoroutine") = false ∧ codeOk fn.ntmps fn.body = true

/-- What a contract owes. -/
def SpecOk (P : Program) (f : FuncId) (s : List Value → Heap → Res) : Prop :=
  ∀ args H v H', s args H = some (v, H') → ∀ ρ w args', VL ρ args args' → HR P ρ H w → Invokes P f ⟨args'⟩ w (Post P (fun b => H.next ≤ b) ρ H w v H')

def SpecsOk (P : Program) (env : Env) : Prop := ∀ f s, env.spec f = some s → SpecOk P f s

omit [Sg] in
theorem slot_argsT : ∀ (l : List Value) (i : Nat) (tm : Tm) (t : Nat), slot (argsT l i tm) t = if i ≤ t ∧ t < i + l.length then l.getD (t - i) undef else slot tm t
  | [], i, tm, t => by rw [if_neg (by simp)]; rfl
  | v :: l, i, tm, t => by
    show slot (argsT l (i + 1) (putT tm (some i) v)) t = _
    rw [slot_argsT l (i + 1) _ t, slot_put]
    by_cases h1 : t = i
    · subst h1
      rw [if_neg (by omega), if_pos rfl, if_pos (by simp)]; simp
    · rw [if_neg h1]
      by_cases h2 : i + 1 ≤ t ∧ t < i + 1 + l.length
      · rw [if_pos h2, if_pos (by simp; omega)]
        have : t - i = (t - (i + 1)) + 1 := by omega
        rw [this]; rfl
      · rw [if_neg h2, if_neg (by simp; omega)]

omit [Sg] in
theorem slot_leaf (t : Nat) : slot (bank undef 2) t = undef := getF_bank undef 2 t

theorem TR.start {ρ : Map} {args args' : List Value} (h : VL ρ args args') (n : Nat) : TR ρ (argsT args 0 (bank undef 2)) ((⟨args'⟩ : Array Value) ++ Array.replicate n undef) := by
  intro t
  rw [slot_argsT, slot_leaf]
  have hl := h.length
  by_cases ht : t < args.length
  · rw [if_pos (by omega)]
    have h1 : args[t]? = some args[t] := List.getElem?_eq_getElem ht
    obtain ⟨v', h2, hV⟩ := h.get h1
    have : ((⟨args'⟩ : Array Value) ++ Array.replicate n undef).getD t undef = v' := by
      rw [Array.getD_eq_getD_getElem?, Array.getElem?_append_left (by simpa using (by omega : t < args'.length))]
      simp [h2]
    rw [this]
    simpa [ht] using hV
  · rw [if_neg (by omega)]
    have : ((⟨args'⟩ : Array Value) ++ Array.replicate n undef).getD t undef = undef := by
      rw [Array.getD_eq_getD_getElem?, Array.getElem?_append_right (by simpa using (by omega : args'.length ≤ t))]
      simp only [Array.getElem?_replicate]
      split <;> rfl
    rw [this]; exact undef_V

section
variable {P : Program} {env : Env} (hE : EnvOk P env)
variable {ρ : Map} {H : Heap} {w : World} (hH : HR P ρ H w) {tm : Tm} {tmps : Array Value} (hT : TR ρ tm tmps)

/-- A function's result, as the model reads it. -/
def readVar (tmps : Array Value) : ResultVar → Sem Value
  | .tmp t => pure (tmps.getD t undef)
  | .cell a t => do Go.loadVar t (← asAddr (tmps.getD a undef))

include hE hH hT in
theorem resultVar_ok {r : ResultVar} {v : Value} (h : resultVar env tm H r = some v) : ∃ v', (readVar tmps r).run P w = .ok v' w ∧ V ρ v v' := by
  cases r with
  | tmp t =>
    have h' : some (slot tm t) = some v := h
    cases h'
    exact ⟨_, by simp [readVar], hT t⟩
  | cell a t =>
    have h' : resultCell env tm H a t = some v := h
    unfold resultCell at h'
    rw [bnd_eq] at h'
    obtain ⟨x, hx, h'⟩ := h'
    obtain ⟨hs, hA⟩ : slot tm a = .pointer (some x) ∧ True := ⟨addrOf_eq.1 hx, trivial⟩
    have hV := hT a
    rw [hs] at hV
    obtain ⟨x', hx', hAR⟩ := hV.ptrInv
    obtain ⟨v', hrun, hv⟩ := loadVar_ok hE hH hAR h'
    exact ⟨v', by simp [readVar, hx', asAddr, hrun], hv⟩

include hE hH hT in
theorem results_ok : ∀ {l : List ResultVar} {vs : List Value}, results env tm H l = some vs → ∃ vs', (l.mapM (readVar tmps)).run P w = .ok vs' w ∧ VL ρ vs vs'
  | [], vs, h => by
    have h' : some ([] : List Value) = some vs := h
    cases h'
    exact ⟨[], by simp, .nil⟩
  | r :: l, vs, h => by
    have h' : bnd (resultVar env tm H r) (fun v => bnd (results env tm H l) fun vs => some (v :: vs)) = some vs := h
    simp only [bnd_eq] at h'
    obtain ⟨v, hv, vs1, hvs, e⟩ := h'
    cases e
    obtain ⟨v', h1, h2⟩ := resultVar_ok hE hH hT hv
    obtain ⟨vs', h3, h4⟩ := results_ok hvs
    exact ⟨v' :: vs', by simp [List.mapM_cons, Sem.run_bind, h1, h3], .cons h2 h4⟩

theorem result_V {vs vs' : List Value} (h : VL ρ vs vs') : V ρ (result vs) (if h : (⟨vs'⟩ : Array Value).size = 1 then (⟨vs'⟩ : Array Value)[0] else .tuple ⟨vs'⟩) := by
  cases h with
  | nil => exact .tuple .nil
  | cons hv ht =>
    cases ht with
    | nil => exact hv
    | cons hv2 ht2 =>
      rw [dif_neg (by simp)]
      exact .tuple (.cons hv (.cons hv2 ht2))
end

section
variable {P : Program} {env : Env} (hE : EnvOk P env) (hM : P.follows .mixedOrders = true) (hFn : FunsOk P env) (hSp : SpecsOk P env)

omit [Sg] in
theorem results_def (F : Func) (tmps : Array Value) : Go.results F tmps = (do let vs ← F.results.mapM (readVar tmps); pure (if h : vs.size = 1 then vs[0] else .tuple vs)) := by
  unfold Go.results
  congr 1

include hE hM hFn in
theorem runFun_ok {call : Call} (hC : CallsOk P call) {N : Nat} {f : FuncId} {fn : Fun} (hf : env.func f = some fn) {args : List Value} {H : Heap} {v : Value} {H' : Heap} (h : runFun env call N fn args H = some (v, H'))
    {ρ : Map} {w : World} {args' : List Value} (hA : VL ρ args args') (hH : HR P ρ H w) : Invokes P f ⟨args'⟩ w (Post P (fun b => H.next ≤ b) ρ H w v H') := by
  obtain ⟨F, hP, hbody, hnt, hres, hname, hok⟩ := hFn f fn hf
  unfold runFun at h
  rw [chk_eq] at h
  obtain ⟨hlen, h⟩ := h
  simp only [bnd_eq, chk_eq] at h
  obtain ⟨r, hev, hex, vs, hvs, e⟩ := h
  cases e
  have hlen' : args.length ≤ fn.ntmps := by rw [lenL_eq] at hlen; exact Nat.le_of_ble_eq_true hlen
  have hl := hA.length
  refine .inr ⟨?_, ?_⟩
  · unfold callFunc
    simp only [Sem.run_bind, run_program, Result.andThen_ok, hP, hname, hbody, Option.isNone_some, Bool.false_eq_true, if_false, Sem.run_pure]
  · refine calls_of_wp hP hbody ?_
    have hsz : ((⟨args'⟩ : Array Value) ++ Array.replicate (F.ntmps - (⟨args'⟩ : Array Value).size) undef).size = fn.ntmps := by
      simp [hnt]; omega
    refine (evC_ok (P := P) (env := env) (call := call) hE hC (drawOk hE hC hM) fn.ntmps N).1 fn.body ρ (argsT args 0 (bank undef 2)) H
      { tmps := (⟨args'⟩ : Array Value) ++ Array.replicate (F.ntmps - (⟨args'⟩ : Array Value).size) undef, defers := [] } w r hev hok hsz (TR.start hA _) hH _ ?_
    intro ρ' a' w' hT hH' hS _ hdf
    have fin : a'.defers = [] ∧ ∃ v', (Go.results F a'.tmps).run P w' = .ok v' w' ∧ ∃ u, Ending.returned v' = .returned u ∧ Post P (fun b => H.next ≤ b) ρ H w (result vs) r.2.2 u w' := by
      refine ⟨hdf, ?_⟩
      obtain ⟨vs', h1, h2⟩ := results_ok hE hH' hT hvs
      refine ⟨_, ?_, _, rfl, ρ', result_V h2, hH', hS⟩
      rw [results_def]
      have : F.results.mapM (readVar a'.tmps) = (do let l ← fn.results.mapM (readVar a'.tmps); pure ⟨l⟩) := by
        rw [Array.mapM_eq_mapM_toList, hres, map_eq_pure_bind]
      rw [this]
      simp [h1]
    generalize r.1 = ex at hex
    cases ex with
    | normal => exact fin
    | ret => exact fin
    | exit id => cases hex

include hE hM hFn hSp in
/-- THE THEOREM: what the evaluator answers, the program does. -/
theorem evF_ok (N : Nat) : ∀ d, CallsOk P (evF env N d)
  | 0 => fun f args H v H' h => by cases h
  | d + 1 => by
    intro f args H v H' h ρ w args' hA hH
    have h' : Option.rec (motive := fun _ => Res) (bnd (env.func f) fun fn => runFun env (evF env N d) N fn args H) (fun s => s args H) (env.spec f) = some (v, H') := h
    cases hs : env.spec f with
    | some s => rw [hs] at h'; exact hSp f s hs args H v H' h' ρ w args' hA hH
    | none =>
      rw [hs] at h'
      have h2 : bnd (env.func f) (fun fn => runFun env (evF env N d) N fn args H) = some (v, H') := h'
      rw [bnd_eq] at h2
      obtain ⟨fn, hf, h2⟩ := h2
      exact runFun_ok hE hM hFn (evF_ok N d) hf h2 hA hH

theorem HR.empty (w : World) : HR P (fun _ => none) Heap.empty w :=
  ⟨fun b _ _ h => (by rw [Heap.get_empty] at h; cases h), fun b _ _ _ _ _ h => (by rw [Heap.get_empty] at h; cases h), fun _ _ h => (by cases h), by decide, fun b _ => Heap.get_empty b⟩

include hE hM hFn hSp in
/-- A function that looks at no memory. -/
theorem calls_closed (N d : Nat) {f : FuncId} {args : List Value} {v : Value} {H' : Heap} (h : evF env N d f args Heap.empty = some (v, H')) {args' : List Value} (hA : VL (fun _ => none) args args') (w : World)
    (hf : (P.funcs[f]?).any (fun F => F.body.isSome) = true) :
    Calls P f ⟨args'⟩ w fun e w' => ∃ u, e = .returned u ∧ (∃ ρ, V ρ v u) ∧ Below w.heap.size w w' := by
  rcases evF_ok hE hM hFn hSp N d f args Heap.empty v H' h _ w args' hA (HR.empty w) with ⟨u, w', hr, _⟩ | ⟨_, hc⟩
  · exfalso
    unfold callFunc at hr
    simp only [Sem.run_bind, run_program, Result.andThen_ok] at hr
    cases hP : P.funcs[f]? with
    | none => rw [hP] at hf; cases hf
    | some F =>
      rw [hP] at hf hr
      simp only [Option.any_some] at hf
      simp only at hr
      split at hr
      · simp at hr
      · rename_i hn
        have : F.body.isNone = false := by cases hb : F.body <;> simp_all
        rw [this] at hr
        simp at hr
  · refine Calls.mono hc ?_
    rintro e w' ⟨u, rfl, ρ', hV, hR, hS⟩
    exact ⟨u, rfl, ⟨ρ', hV⟩, hS.below fun B _ ⟨b, x, e, _, h2, _⟩ => by cases h2⟩
end
end Go.Ev
