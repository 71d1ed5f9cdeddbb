/- Functions, and the evaluator's theorem. -/
import Derived.Test.YthnojgpobfpgeaaGreatDoorEvDraw
import Derived.Lib.Bytealg
namespace Go.Ev
open Go.RowKit
variable [Sg]
def FunsOk (P : Program) (env : Env) : Prop :=
 ∀ f fn, env.func f = some fn -> ∃ F, P.funcs[f]? = some F /\ F.body = some fn.body /\ F.ntmps = fn.ntmps /\ F.results.toList = fn.results /\ (F.name == "runtime.NumGoroutine") = false /\ codeOk fn.ntmps fn.body = true
def SpecOk (P : Program) (f : FuncId) (s : List Value -> Heap -> Res) : Prop :=
 ∀ args H v H', s args H = some (v, H') -> ∀ ρ w args', VL ρ args args' -> HR P ρ H w -> Invokes P f ⟨args'⟩ w (Post P (fun b => H.next <= b) ρ H w v H')
def SpecsOk (P : Program) (env : Env) : Prop := ∀ f s, env.spec f = some s -> SpecOk P f s
omit [Sg] in
theorem slot_argsT : ∀ (l : List Value) (i : Nat) (tm : Tm) (t : Nat), slot (argsT l i tm) t = if i <= t /\ t < i + l.length then l.getD (t - i) undef else slot tm t
 | [], i, tm, t => by rw [if_neg (by simp)]; rfl
 | v :: l, i, tm, t => by
  show slot (argsT l (i + 1) (putT tm (some i) v)) t = _
  rw [slot_argsT l (i + 1) _ t, slot_put]
  by_cases h1 : t = i
  ·
   subst h1
   rw [if_neg (by omega), if_pos rfl, if_pos (by simp)]; simp
  ·
   rw [if_neg h1]
   by_cases h2 : i + 1 <= t /\ t < i + 1 + l.length
   ·
    rw [if_pos h2, if_pos (by simp; omega)]
    have : t - i = (t - (i + 1)) + 1 := by omega
    rw [this]; rfl
   ·
    rw [if_neg h2, if_neg (by simp; omega)]
omit [Sg] in
theorem slot_leaf (t : Nat) : slot (bank undef 2) t = undef := getF_bank undef 2 t
theorem TR.start {ρ : Map} {args args' : List Value} (h : VL ρ args args') (n : Nat) : TR ρ (argsT args 0 (bank undef 2)) ((⟨args'⟩ : Array Value) ++ Array.replicate n undef) := by
 intro t
 rw [slot_argsT, slot_leaf]
 have hl := h.length
 by_cases ht : t < args.length
 ·
  rw [if_pos (by omega)]
  have h1 : args[t]? = some args[t] := List.getElem?_eq_getElem ht
  obtain ⟨v', h2, hV⟩ := h.get h1
  have : ((⟨args'⟩ : Array Value) ++ Array.replicate n undef).getD t undef = v' := by
   rw [Array.getD_eq_getD_getElem?, Array.getElem?_append_left (by simpa using (by omega : t < args'.length))]
   simp [h2]
  rw [this]
  simpa [ht] using hV
 ·
  rw [if_neg (by omega)]
  have : ((⟨args'⟩ : Array Value) ++ Array.replicate n undef).getD t undef = undef := by
   rw [Array.getD_eq_getD_getElem?, Array.getElem?_append_right (by simpa using (by omega : args'.length <= t))]
   simp only [Array.getElem?_replicate]
   split <;> rfl
  rw [this]; exact undef_V
section
variable {P : Program} {env : Env} (hE : EnvOk P env)
variable {ρ : Map} {H : Heap} {w : World} (hH : HR P ρ H w) {tm : Tm} {tmps : Array Value} (hT : TR ρ tm tmps)
def readVar (tmps : Array Value) : ResultVar -> Sem Value
 | .tmp t => pure (tmps.getD t undef)
 | .cell a t => do Go.loadVar t (<- asAddr (tmps.getD a undef))
include hE hH hT in
theorem resultVar_ok {r : ResultVar} {v : Value} (h : resultVar env tm H r = some v) : ∃ v', (readVar tmps r).run P w = .ok v' w /\ V ρ v v' := by
 cases r with
 | tmp t =>
  have h' : some (slot tm t) = some v := h
  cases h'
  exact ⟨_, by simp [readVar], hT t⟩
 | cell a t =>
  have h' : resultCell env tm H a t = some v := h
  unfold resultCell at h'
  rw [bnd_eq] at h'
  obtain ⟨x, hx, h'⟩ := h'
  obtain ⟨hs, hA⟩ : slot tm a = .pointer (some x) /\ True := ⟨addrOf_eq.1 hx, trivial⟩
  have hV := hT a
  rw [hs] at hV
  obtain ⟨x', hx', hAR⟩ := hV.ptrInv
  obtain ⟨v', hrun, hv⟩ := loadVar_ok hE hH hAR h'
  exact ⟨v', by simp [readVar, hx', asAddr, hrun], hv⟩
include hE hH hT in
theorem results_ok : ∀ {l : List ResultVar} {vs : List Value}, results env tm H l = some vs -> ∃ vs', (l.mapM (readVar tmps)).run P w = .ok vs' w /\ VL ρ vs vs'
 | [], vs, h => by
  have h' : some ([] : List Value) = some vs := h
  cases h'
  exact ⟨[], by simp, .nil⟩
 | r :: l, vs, h => by
  have h' : bnd (resultVar env tm H r) (fun v => bnd (results env tm H l) fun vs => some (v :: vs)) = some vs := h
  simp only [bnd_eq] at h'
  obtain ⟨v, hv, vs1, hvs, e⟩ := h'
  cases e
  obtain ⟨v', h1, h2⟩ := resultVar_ok hE hH hT hv
  obtain ⟨vs', h3, h4⟩ := results_ok hvs
  exact ⟨v' :: vs', by simp [List.mapM_cons, Sem.run_bind, h1, h3], .cons h2 h4⟩
theorem result_V {vs vs' : List Value} (h : VL ρ vs vs') : V ρ (result vs) (if h : (⟨vs'⟩ : Array Value).size = 1 then (⟨vs'⟩ : Array Value)[0] else .tuple ⟨vs'⟩) := by
 cases h with
 | nil => exact .tuple .nil
 | cons hv ht =>
  cases ht with
  | nil => exact hv
  | cons hv2 ht2 =>
   rw [dif_neg (by simp)]
   exact .tuple (.cons hv (.cons hv2 ht2))
end
section
variable {P : Program} {env : Env} (hE : EnvOk P env) (hM : P.follows .mixedOrders = true) (hFn : FunsOk P env) (hSp : SpecsOk P env)
omit [Sg] in
theorem results_def (F : Func) (tmps : Array Value) : Go.results F tmps = (do let vs <- F.results.mapM (readVar tmps); pure (if h : vs.size = 1 then vs[0] else .tuple vs)) := by
 unfold Go.results
 congr 1
include hE hM hFn in
theorem runFun_ok {call : Call} (hC : CallsOk P call) {N : Nat} {f : FuncId} {fn : Fun} (hf : env.func f = some fn) {args : List Value} {H : Heap} {v : Value} {H' : Heap} (h : runFun env call N fn args H = some (v, H'))
  {ρ : Map} {w : World} {args' : List Value} (hA : VL ρ args args') (hH : HR P ρ H w) : Invokes P f ⟨args'⟩ w (Post P (fun b => H.next <= b) ρ H w v H') := by
 obtain ⟨F, hP, hbody, hnt, hres, hname, hok⟩ := hFn f fn hf
 unfold runFun at h
 rw [chk_eq] at h
 obtain ⟨hlen, h⟩ := h
 simp only [bnd_eq, chk_eq] at h
 obtain ⟨r, hev, hex, vs, hvs, e⟩ := h
 cases e
 have hlen' : args.length <= fn.ntmps := by rw [lenL_eq] at hlen; exact Nat.le_of_ble_eq_true hlen
 have hl := hA.length
 refine .inr ⟨?_, ?_⟩
 ·
  unfold callFunc
  simp only [Sem.run_bind, run_program, Result.andThen_ok, hP, hname, hbody, Option.isNone_some, Bool.false_eq_true, if_false, Sem.run_pure]
 ·
  refine calls_of_wp hP hbody ?_
  have hsz : ((⟨args'⟩ : Array Value) ++ Array.replicate (F.ntmps - (⟨args'⟩ : Array Value).size) undef).size = fn.ntmps := by
   simp [hnt]; omega
  refine (evC_ok (P := P) (env := env) (call := call) hE hC (drawOk hE hC hM) fn.ntmps N).1 fn.body ρ (argsT args 0 (bank undef 2)) H
   { tmps := (⟨args'⟩ : Array Value) ++ Array.replicate (F.ntmps - (⟨args'⟩ : Array Value).size) undef, defers := [] } w r hev hok hsz (TR.start hA _) hH _ ?_
  intro ρ' a' w' hT hH' hS _ hdf
  have fin : a'.defers = [] /\ ∃ v', (Go.results F a'.tmps).run P w' = .ok v' w' /\ ∃ u, Ending.returned v' = .returned u /\ Post P (fun b => H.next <= b) ρ H w (result vs) r.2.2 u w' := by
   refine ⟨hdf, ?_⟩
   obtain ⟨vs', h1, h2⟩ := results_ok hE hH' hT hvs
   refine ⟨_, ?_, _, rfl, ρ', result_V h2, hH', hS⟩
   rw [results_def]
   have : F.results.mapM (readVar a'.tmps) = (do let l <- fn.results.mapM (readVar a'.tmps); pure ⟨l⟩) := by
    rw [Array.mapM_eq_mapM_toList, hres, map_eq_pure_bind]
   rw [this]
   simp [h1]
  generalize r.1 = ex at hex
  cases ex with
  | normal => exact fin
  | ret => exact fin
  | exit id => cases hex
include hE hM hFn hSp in
theorem evF_ok (N : Nat) : ∀ d, CallsOk P (evF env N d)
 | 0 => fun f args H v H' h => by cases h
 | d + 1 => by
  intro f args H v H' h ρ w args' hA hH
  have h' : Option.rec (motive := fun _ => Res) (bnd (env.func f) fun fn => runFun env (evF env N d) N fn args H) (fun s => s args H) (env.spec f) = some (v, H') := h
  cases hs : env.spec f with
  | some s => rw [hs] at h'; exact hSp f s hs args H v H' h' ρ w args' hA hH
  | none =>
   rw [hs] at h'
   have h2 : bnd (env.func f) (fun fn => runFun env (evF env N d) N fn args H) = some (v, H') := h'
   rw [bnd_eq] at h2
   obtain ⟨fn, hf, h2⟩ := h2
   exact runFun_ok hE hM hFn (evF_ok N d) hf h2 hA hH
theorem HR.empty (w : World) : HR P (fun _ => none) Heap.empty w :=
 ⟨fun b _ _ h => (by rw [Heap.get_empty] at h; cases h), fun b _ _ _ _ _ h => (by rw [Heap.get_empty] at h; cases h), fun _ _ h => (by cases h), by decide, fun b _ => Heap.get_empty b⟩
include hE hM hFn hSp in
theorem calls_closed (N d : Nat) {f : FuncId} {args : List Value} {v : Value} {H' : Heap} (h : evF env N d f args Heap.empty = some (v, H')) {args' : List Value} (hA : VL (fun _ => none) args args') (w : World)
  (hf : (P.funcs[f]?).any (fun F => F.body.isSome) = true) :
  Calls P f ⟨args'⟩ w fun e w' => ∃ u, e = .returned u /\ (∃ ρ, V ρ v u) /\ Below w.heap.size w w' := by
 rcases evF_ok hE hM hFn hSp N d f args Heap.empty v H' h _ w args' hA (HR.empty w) with ⟨u, w', hr, _⟩ | ⟨_, hc⟩
 ·
  exfalso
  unfold callFunc at hr
  simp only [Sem.run_bind, run_program, Result.andThen_ok] at hr
  cases hP : P.funcs[f]? with
  | none => rw [hP] at hf; cases hf
  | some F =>
   rw [hP] at hf hr
   simp only [Option.any_some] at hf
   simp only at hr
   split at hr
   ·
    simp at hr
   ·
    rename_i hn
    have : F.body.isNone = false := by cases hb : F.body <;> simp_all
    rw [this] at hr
    simp at hr
 ·
  refine Calls.mono hc ?_
  rintro e w' ⟨u, rfl, ρ', hV, hR, hS⟩
  exact ⟨u, rfl, ⟨ρ', hV⟩, hS.below fun B _ ⟨b, x, e, _, h2, _⟩ => by cases h2⟩
end
end Go.Ev
namespace Go.Ev
open Go.RowKit
variable [Sg]
noncomputable def trFrom {α : Type} (l : List α) : Nat -> Tr α -> Tr α :=
 List.rec (motive := fun _ => Nat -> Tr α -> Tr α) (fun _ t => t) (fun x _ ih i t => ih (Nat.succ i) (t.put (some x) (path i))) l
noncomputable def trOf {α : Type} (l : List α) : Tr α := trFrom l 0 .leaf
omit [Sg] in
theorem get_trFrom {α : Type} : ∀ (l : List α) (i : Nat) (t : Tr α) (k : Nat), (trFrom l i t).get (path k) = if i <= k /\ k < i + l.length then l[k - i]? else t.get (path k)
 | [], i, t, k => by rw [if_neg (by simp)]; rfl
 | x :: l, i, t, k => by
  show (trFrom l (i + 1) (t.put (some x) (path i))).get (path k) = _
  rw [get_trFrom l (i + 1)]
  by_cases h1 : k = i
  ·
   subst h1
   rw [if_neg (by omega), if_pos (by simp), get_put_same]; simp
  ·
   rw [get_put_other _ _ _ _ (fun e => h1 (path_inj' e).symm)]
   by_cases h2 : i + 1 <= k /\ k < i + 1 + l.length
   ·
    rw [if_pos h2, if_pos (by simp; omega)]
    have : k - i = (k - (i + 1)) + 1 := by omega
    rw [this]; rfl
   ·
    rw [if_neg h2, if_neg (by simp; omega)]
omit [Sg] in
theorem get_trOf {α : Type} (l : List α) (k : Nat) : (trOf l).get (path k) = l[k]? := by
 unfold trOf
 rw [get_trFrom]
 by_cases h : k < l.length
 ·
  rw [if_pos (by omega)]; simp
 ·
  rw [if_neg (by omega), List.getElem?_eq_none (by omega)]
  rfl
noncomputable def allPlain (l : List Value) : Bool := List.rec (motive := fun _ => Bool) true (fun v _ ih => ifB (plain v) ih false) l
noncomputable def zOk (i : TypeInfo) : Bool :=
 match i.zero with
 | none => true
 | some (.agg cs) => allPlain cs.toList && Nat.beq (lenL cs.toList) i.size
 | some v => plain v && Nat.beq i.size 1
noncomputable def infoK (ty : Tr TypeInfo) (t : TypeId) : Option TypeInfo := bnd (ty.get (path t)) fun i => chk (zOk i) (some i)
noncomputable def undOf (ty : Tr TypeInfo) (d : TypeDesc) : Option TypeDesc :=
 match d with
 | .named _ u => bnd (ty.get (path u)) fun i => some i.desc
 | d => some d
noncomputable def undK (ty : Tr TypeInfo) (t : TypeId) : Option TypeDesc := bnd (ty.get (path t)) fun i => undOf ty i.desc
noncomputable def funcK (fn : Tr Func) (f : FuncId) : Option Fun :=
 bnd (fn.get (path f)) fun F => bnd F.body fun b => chk (!(F.name == "runtime.NumGoroutine") && codeOk F.ntmps b) (some ⟨b, F.ntmps, F.results.toList⟩)
structure Syms where
 bin : BinOp -> Value -> Value -> Option Value
 conv : TypeDesc -> Value -> Option Value
 bytes : List Value -> Option Value
 slice : Value -> Option Value -> Option Value -> Option Value
 len : Nat -> Option Value
 index : Value -> Value -> Option Value
 un : UnOp -> Value -> Option Value := fun _ _ => none
 key : Value -> Value -> Option Bool := fun _ _ => none
def noSyms : Syms := ⟨fun _ _ _ => none, fun _ _ => none, fun _ => none, fun _ _ _ => none, fun _ => none, fun _ _ => none, fun _ _ => none, fun _ _ => none⟩
noncomputable def envS (S : Syms) (ty : Tr TypeInfo) (fn : Tr Func) (eqok : TypeId -> Bool) (spec : FuncId -> Option (List Value -> Heap -> Res)) : Env :=
 { und := undK ty, info := infoK ty, func := funcK fn, eqok := eqok, spec := spec, symBin := S.bin, symConv := S.conv, symStr := S.bytes, symSlice := S.slice, symLen := S.len, symIndex := S.index, symUn := S.un, symKey := S.key }
noncomputable def envK (ty : Tr TypeInfo) (fn : Tr Func) (eqok : TypeId -> Bool) (spec : FuncId -> Option (List Value -> Heap -> Res)) : Env := envS noSyms ty fn eqok spec
structure SymsOk (P : Program) (S : Syms) : Prop where
 bin : ∀ op t x y v, S.bin op x y = some v -> ∀ ρ x' y' (w : World) (a b : Operand), V ρ x x' -> V ρ y y' -> ∃ v', V ρ v v' /\ (do eqGuard op t a b x' y'; Go.binOp op t x' y' : Sem Value).run P w = .ok v' w
 conv : ∀ d x v, S.conv d x = some v -> ∀ ρ x' (w : World) s t sd, V ρ x x' -> P.underlying s = some sd -> P.underlying t = some d -> ∃ v', V ρ v v' /\ (Go.convert s t x').run P w = .ok v' w
 bytes : ∀ l v, S.bytes l = some v -> ∀ ρ l', VL ρ l l' -> ∃ ns : List Int, l' = ns.map (Value.int .u8) /\ V ρ v (str (ns.map fun n => UInt8.ofNat n.toNat))
 slice : ∀ x lo hi v, S.slice x lo hi = some v -> ∀ ρ x' lo' hi' (w : World) t, V ρ x x' -> OV ρ lo lo' -> OV ρ hi hi' -> P.underlying t = some .string -> ∃ v', V ρ v v' /\ (Instr.sliceAt t x' lo' hi' none).run P w = .ok v' w
 len : ∀ i v, S.len i = some v -> ∀ ρ x', V ρ (.float .f64 i) x' -> ∃ s : ByteArray, x' = .string s /\ V ρ v (.int .i64 s.size)
 index : ∀ x i v, S.index x i = some v -> ∀ ρ x' i' (w : World) t, V ρ x x' -> V ρ i i' -> P.underlying t = some .string -> ∃ v', V ρ v v' /\ (Instr.index t x' i').run P w = .ok v' w
 un : ∀ op x v, S.un op x = some v -> ∀ ρ x' (w : World), V ρ x x' -> ∃ v', V ρ v v' /\ (Op.unary op x').run P w = .ok v' w
 key : ∀ x y b, S.key x y = some b -> ∀ ρ x' y', V ρ x x' -> V ρ y y' -> ∃ p q : ByteArray, x' = .string p /\ y' = .string q /\ b = same p.data.toList q.data.toList
theorem noSyms_ok (P : Program) : SymsOk P noSyms :=
 ⟨fun _ _ _ _ _ h => (by cases h), fun _ _ _ h => (by cases h), fun _ _ h => (by cases h), fun _ _ _ _ h => (by cases h), fun _ _ h => (by cases h), fun _ _ _ h => (by cases h), fun _ _ _ h => (by cases h), fun _ _ _ h => (by cases h)⟩
theorem allPlain_V {ρ : Map} : ∀ {l : List Value}, allPlain l = true -> VL ρ l l /\ ∀ v ∈ l, v.oneCell' = true
 | [], _ => ⟨.nil, by simp⟩
 | v :: l, h => by
  have h' : ifB (plain v) (allPlain l) false = true := h
  cases hp : plain v with
  | false => rw [hp, ifB_false] at h'; cases h'
  | true =>
   rw [hp, ifB_true] at h'
   obtain ⟨h1, h2⟩ := allPlain_V (ρ := ρ) h'
   refine ⟨.cons (.plain hp) h1, fun x hx => ?_⟩
   rcases List.mem_cons.1 hx with rfl | hx
   ·
    cases x <;> first | rfl | (cases hp; done)
   ·
    exact h2 x hx
section
variable {P : Program}
omit [Sg] in
theorem info_of {t : TypeId} {i : TypeInfo} (h : (trOf P.types.toList).get (path t) = some i) : P.info? t = some i := by
 rw [get_trOf, Array.getElem?_toList] at h
 have hlt : t < P.types.size := (Array.getElem?_eq_some_iff.1 h).1
 show (if t < P.types.size then P.types[t]? else Made.infoAt P.toTables Made.depth t) = some i
 rw [if_pos hlt]; exact h
theorem envSOk {S : Syms} (hS : SymsOk P S) {ty : Tr TypeInfo} {fn : Tr Func} {eqok : TypeId -> Bool} {spec : FuncId -> Option (List Value -> Heap -> Res)} (hty : ty = trOf P.types.toList)
  (heq : ∀ t, eqok t = true -> P.eqGuardType P.depth t = false /\ P.stoodInHeld t = false) : EnvOk P (envS S ty fn eqok spec) := by
 subst hty
 refine ⟨fun t d h => ?_, fun t i h => ?_, fun t i z h hz => ?_, heq, hS.bin, hS.conv, hS.bytes, hS.slice, hS.len, hS.index, hS.un, hS.key⟩
 ·
  have h' : bnd ((trOf P.types.toList).get (path t)) (fun i => undOf (trOf P.types.toList) i.desc) = some d := h
  rw [bnd_eq] at h'
  obtain ⟨i, hi, h'⟩ := h'
  have hP := info_of hi
  unfold Program.underlying
  rw [hP]
  obtain ⟨desc, str, size, bytes, hp, al, fal, zero, cmp, ms⟩ := i
  cases desc with
  | named n u =>
   have h2 : bnd ((trOf P.types.toList).get (path u)) (fun i => some i.desc) = some d := h'
   rw [bnd_eq] at h2
   obtain ⟨j, hj, e⟩ := h2
   cases e
   simp [info_of hj]
  | _ => cases h'; rfl
 ·
  have h' : bnd ((trOf P.types.toList).get (path t)) (fun i => chk (zOk i) (some i)) = some i := h
  simp only [bnd_eq, chk_eq] at h'
  obtain ⟨j, hj, _, e⟩ := h'
  cases e
  exact info_of hj
 ·
  have h' : bnd ((trOf P.types.toList).get (path t)) (fun i => chk (zOk i) (some i)) = some i := h
  simp only [bnd_eq, chk_eq] at h'
  obtain ⟨j, hj, hz', e⟩ := h'
  cases e
  unfold zOk at hz'
  rw [hz] at hz'
  have other : plain z = true /\ Nat.beq i.size 1 = true -> (∀ ρ, V ρ z z) /\ ∀ l, cellsV z = some l -> l.length = i.size := by
   rintro ⟨h1, h2⟩
   refine ⟨fun ρ => .plain h1, fun l hl => ?_⟩
   have := Nat.eq_of_beq_eq_true h2
   cases z <;> first | (cases hl; rw [this]; rfl) | (cases h1; done)
  cases z with
  | agg cs =>
   simp only [Bool.and_eq_true] at hz'
   obtain ⟨cs⟩ := cs
   refine ⟨fun ρ => .agg (allPlain_V hz'.1).1 (allPlain_V (ρ := ρ) hz'.1).2, fun l hl => ?_⟩
   have := Nat.eq_of_beq_eq_true hz'.2
   rw [lenL_eq] at this
   cases hl
   exact this
  | _ =>
   simp only [Bool.and_eq_true] at hz'
   exact other hz'
theorem envOk {ty : Tr TypeInfo} {fn : Tr Func} {eqok : TypeId -> Bool} {spec : FuncId -> Option (List Value -> Heap -> Res)} (hty : ty = trOf P.types.toList)
  (heq : ∀ t, eqok t = true -> P.eqGuardType P.depth t = false /\ P.stoodInHeld t = false) : EnvOk P (envK ty fn eqok spec) := envSOk (noSyms_ok P) hty heq
omit [Sg] in
theorem funsSOk {S : Syms} {ty : Tr TypeInfo} {fn : Tr Func} {eqok : TypeId -> Bool} {spec : FuncId -> Option (List Value -> Heap -> Res)} (hfn : fn = trOf P.funcs.toList) : FunsOk P (envS S ty fn eqok spec) := by
 subst hfn
 intro f g h
 have h' : bnd ((trOf P.funcs.toList).get (path f)) (fun F => bnd F.body fun b => chk (!(F.name == "runtime.NumGoroutine") && codeOk F.ntmps b) (some ⟨b, F.ntmps, F.results.toList⟩)) = some g := h
 simp only [bnd_eq, chk_eq, Bool.and_eq_true] at h'
 obtain ⟨F, hF, b, hb, ⟨h1, h2⟩, e⟩ := h'
 cases e
 rw [get_trOf, Array.getElem?_toList] at hF
 exact ⟨F, hF, hb, rfl, rfl, by simpa using h1, h2⟩
omit [Sg] in
theorem funsOk {ty : Tr TypeInfo} {fn : Tr Func} {eqok : TypeId -> Bool} {spec : FuncId -> Option (List Value -> Heap -> Res)} (hfn : fn = trOf P.funcs.toList) : FunsOk P (envK ty fn eqok spec) := funsSOk (S := noSyms) hfn
end
end Go.Ev
namespace Go.Ev
open Go.RowKit
variable [Sg]
structure Ext (P : Program) (f : FuncId) (e : Array Value -> Sem Value) : Prop where
 fn : ∃ F, P.funcs[f]? = some F /\ (F.name == "runtime.NumGoroutine") = false /\ F.body = none /\ Extern.findNext F = none /\ Extern.find F = some e
omit [Sg] in
theorem Ext.run {P : Program} {f : FuncId} {e : Array Value -> Sem Value} (h : Ext P f e) {args : Array Value} {w w' : World} {v : Value} (hr : (e args).run P w = .ok v w') : (callFunc f args).run P w = .ok (.value v) w' := by
 obtain ⟨F, h1, h2, h3, h4, h5⟩ := h.fn
 unfold callFunc
 simp only [Sem.run_bind, run_program, Result.andThen_ok, h1, h2, h3, h4, h5, Option.isNone_none, if_true, Bool.false_eq_true, if_false, run_mark, Sem.run_pure, hr]
theorem SpecOk.plain {P : Program} {f : FuncId} {s : List Value -> Heap -> Res} {e : Array Value -> Sem Value} (hx : Ext P f e)
  (h : ∀ args H v H', s args H = some (v, H') -> H' = H /\ Ev.plain v = true /\ ∀ ρ args', VL ρ args args' -> ∀ w, (e ⟨args'⟩).run P w = .ok v w) : SpecOk P f s := by
 intro args H v H' hs ρ w args' hA hH
 obtain ⟨rfl, hp, hr⟩ := h args H v H' hs
 exact .inl ⟨v, w, hx.run (hr ρ args' hA w), ρ, .plain hp, hH, .refl _ _ _ _⟩
noncomputable def idxL (c : UInt8) (l : List UInt8) : Nat -> Option Nat :=
 List.rec (motive := fun _ => Nat -> Option Nat) (fun _ => none) (fun b _ ih i => ifB (Nat.beq b.toNat c.toNat) (some i) (ih (Nat.succ i))) l
noncomputable def idxInt (x : Option Nat) : Option Value := Option.rec (motive := fun _ => Option Value) (some (goInt (-1))) (fun i => mkInt .i64 (.ofNat i)) x
noncomputable def strU8 (args : List Value) : Option (List UInt8 × UInt8) := bnd (two args) fun p => bnd (strOf p.1) fun s => bnd (byteOf p.2) fun c => some (s, c)
noncomputable def sIndexByte (args : List Value) (H : Heap) : Res := bnd (strU8 args) fun p => retO (idxInt (idxL p.2 p.1 0)) H
noncomputable def cntL (c : UInt8) (l : List UInt8) : Nat -> Nat := List.rec (motive := fun _ => Nat -> Nat) (fun n => n) (fun b _ ih n => ih (ifB (Nat.beq b.toNat c.toNat) (Nat.succ n) n)) l
noncomputable def sCount (args : List Value) (H : Heap) : Res := bnd (strU8 args) fun p => retO (mkInt .i64 (.ofNat (cntL p.2 p.1 0))) H
omit [Sg] in
theorem strU8_inv {args : List Value} {p : List UInt8 × UInt8} (h : strU8 args = some p) : ∃ (s : ByteArray) (n : Int), args = [.string s, .int .u8 n] /\ p = (s.data.toList, UInt8.ofNat n.toNat) := by
 unfold strU8 at h
 simp only [bnd_eq] at h
 obtain ⟨⟨x, y⟩, h1, s, hs, c, hc, e⟩ := h
 have : args = [x, y] := by
  match args, h1 with
  | [a, b], h1 => cases h1; rfl
 subst this
 cases e
 dsimp only at hs hc
 cases x <;> first | (cases hs; done) | skip
 cases hs
 rw [byteOf_eq] at hc
 unfold byteOf0 at hc
 split at hc
 ·
  cases hc; exact ⟨_, _, rfl, rfl⟩
 ·
  cases hc
theorem VL2_inv {ρ : Map} {s : ByteArray} {n : Int} {args' : List Value} (h : VL ρ [.string s, .int .u8 n] args') : args' = [.string s, .int .u8 n] := by
 cases h with
 | cons h1 t => cases t with
  | cons h2 t => cases t; rw [h1.string_inv, h2.int_inv]
omit [Sg] in
theorem beq_u8 (b c : UInt8) : Nat.beq b.toNat c.toNat = (b == c) := by
 cases h : (b == c) with
 | true => rw [beq_iff_eq] at h; subst h; exact Nat.beq_refl _
 | false =>
  cases h2 : Nat.beq b.toNat c.toNat with
  | false => rfl
  | true =>
   have := UInt8.toNat.inj (Nat.eq_of_beq_eq_true h2)
   subst this
   simp at h
omit [Sg] in
theorem cntL_eq (c : UInt8) : ∀ (l : List UInt8) (n : Nat), cntL c l n = n + l.count c
 | [], n => by simp [cntL]
 | b :: l, n => by
  show cntL c l (ifB (Nat.beq b.toNat c.toNat) (Nat.succ n) n) = _
  rw [cntL_eq c l, beq_u8, List.count_cons]
  cases h : (b == c) with
  | true => rw [ifB_true, if_pos rfl]; omega
  | false => rw [ifB_false, if_neg (by simp)]; omega
theorem count_ok {P : Program} {f : FuncId} (hx : Ext P f Extern.BytealgCount.count) : SpecOk P f sCount := by
 refine .plain hx fun args H v H' hs => ?_
 unfold sCount at hs
 rw [bnd_eq] at hs
 obtain ⟨p, hp, hs⟩ := hs
 obtain ⟨hv, rfl⟩ := retO_inv hs
 obtain ⟨s, n, rfl, rfl⟩ := strU8_inv hp
 simp only [mkInt_eq, Option.some.injEq] at hv
 subst hv
 refine ⟨rfl, rfl, fun ρ args' hA w => ?_⟩
 rw [VL2_inv hA]
 refine (Lib.run_countString s n w).trans ?_
 rw [cntL_eq, Nat.zero_add]
 rfl
omit [Sg] in
theorem idxL_eq (c : UInt8) : ∀ (l : List UInt8) (i : Nat), (Lib.indexByte l c = -1 /\ idxL c l i = none) \/ ∃ j : Nat, Lib.indexByte l c = (j : Int) /\ idxL c l i = some (i + j)
 | [], i => .inl ⟨rfl, rfl⟩
 | b :: l, i => by
  have e : idxL c (b :: l) i = ifB (Nat.beq b.toNat c.toNat) (some i) (idxL c l (i + 1)) := rfl
  rw [beq_u8] at e
  unfold Lib.indexByte
  cases h : (b == c) with
  | true => rw [h, ifB_true] at e; exact .inr ⟨0, by simp, by rw [e]; rfl⟩
  | false =>
   rw [h, ifB_false] at e
   rcases idxL_eq c l (i + 1) with ⟨h1, h2⟩ | ⟨j, h1, h2⟩
   ·
    exact .inl ⟨by simp [h1], by rw [e, h2]⟩
   ·
    refine .inr ⟨j + 1, ?_, by rw [e, h2]; congr 1; omega⟩
    have : ((j : Int) == -1) = false := by
     cases hb : ((j : Int) == -1) with
     | false => rfl
     | true => rw [beq_iff_eq] at hb; omega
    rw [h1, this]
    simp
theorem indexByte_ok {P : Program} {f : FuncId} (hx : Ext P f Extern.BytealgIndexByte.indexByte) : SpecOk P f sIndexByte := by
 refine .plain hx fun args H v H' hs => ?_
 unfold sIndexByte at hs
 rw [bnd_eq] at hs
 obtain ⟨p, hp, hs⟩ := hs
 obtain ⟨hv, rfl⟩ := retO_inv hs
 obtain ⟨s, n, rfl, rfl⟩ := strU8_inv hp
 dsimp only at hv
 have key : v = .int .i64 (Lib.indexByte s.data.toList n.toNat.toUInt8) := by
  rcases idxL_eq (UInt8.ofNat n.toNat) s.data.toList 0 with ⟨h1, h2⟩ | ⟨j, h1, h2⟩
  ·
   rw [h2] at hv
   have hv' : some (goInt (-1)) = some v := hv
   cases hv'
   show goInt (-1) = .int .i64 (Lib.indexByte s.data.toList (UInt8.ofNat n.toNat))
   rw [h1]; rfl
  ·
   rw [h2] at hv
   have hv' : mkInt .i64 (.ofNat (0 + j)) = some v := hv
   rw [mkInt_eq] at hv'
   cases hv'
   show _ = Value.int .i64 (Lib.indexByte s.data.toList (UInt8.ofNat n.toNat))
   rw [h1, Nat.zero_add]; rfl
 subst key
 refine ⟨rfl, rfl, fun ρ args' hA w => ?_⟩
 rw [VL2_inv hA]
 exact Lib.run_indexByteString s n w
end Go.Ev
