/- The evaluator's tables, out of a program. -/
import Derived.Test.YtildicgoadiodaaGreatDoorEvFun
/-! The evaluator's tables, out of a program. -/
namespace Go.Ev
open Go.RowKit
variable [Sg]

noncomputable def trFrom {α : Type} (l : List α) : Nat → Tr α → Tr α :=
  List.rec (motive := fun _ => Nat → Tr α → Tr α) (fun _ t => t) (fun x _ ih i t => ih (Nat.succ i) (t.put (some x) (path i))) l
noncomputable def trOf {α : Type} (l : List α) : Tr α := trFrom l 0 .leaf

omit [Sg] in
theorem get_trFrom {α : Type} : ∀ (l : List α) (i : Nat) (t : Tr α) (k : Nat), (trFrom l i t).get (path k) = if i ≤ k ∧ k < i + l.length then l[k - i]? else t.get (path k)
  | [], i, t, k => by rw [if_neg (by simp)]; rfl
  | x :: l, i, t, k => by
    show (trFrom l (i + 1) (t.put (some x) (path i))).get (path k) = _
    rw [get_trFrom l (i + 1)]
    by_cases h1 : k = i
    · subst h1
      rw [if_neg (by omega), if_pos (by simp), get_put_same]; simp
    · rw [get_put_other _ _ _ _ (fun e => h1 (path_inj' e).symm)]
      by_cases h2 : i + 1 ≤ k ∧ k < i + 1 + l.length
      · rw [if_pos h2, if_pos (by simp; omega)]
        have : k - i = (k - (i + 1)) + 1 := by omega
        rw [this]; rfl
      · rw [if_neg h2, if_neg (by simp; omega)]

omit [Sg] in
theorem get_trOf {α : Type} (l : List α) (k : Nat) : (trOf l).get (path k) = l[k]? := by
  unfold trOf
  rw [get_trFrom]
  by_cases h : k < l.length
  · rw [if_pos (by omega)]; simp
  · rw [if_neg (by omega), List.getElem?_eq_none (by omega)]
    rfl

noncomputable def allPlain (l : List Value) : Bool := List.rec (motive := fun _ => Bool) true (fun v _ ih => ifB (plain v) ih false) l

/-- A zero value that the evaluator knows. -/
noncomputable def zOk (i : TypeInfo) : Bool :=
  match i.zero with
  | none => true
  | some (.agg cs) => allPlain cs.toList && Nat.beq (lenL cs.toList) i.size
  | some v => plain v && Nat.beq i.size 1

noncomputable def infoK (ty : Tr TypeInfo) (t : TypeId) : Option TypeInfo := bnd (ty.get (path t)) fun i => chk (zOk i) (some i)
noncomputable def undOf (ty : Tr TypeInfo) (d : TypeDesc) : Option TypeDesc :=
  match d with
  | .named _ u => bnd (ty.get (path u)) fun i => some i.desc
  | d => some d
noncomputable def undK (ty : Tr TypeInfo) (t : TypeId) : Option TypeDesc := bnd (ty.get (path t)) fun i => undOf ty i.desc
noncomputable def funcK (fn : Tr Func) (f : FuncId) : Option Fun :=
  bnd (fn.get (path f)) fun F => bnd F.body fun b => chk (!(F.name == "runtime.NumGoroutine") && codeOk F.ntmps b) (some ⟨b, F.ntmps, F.results.toList⟩)

/-- What is known of values that have but a number. -/
structure Syms where
  bin : BinOp → Value → Value → Option Value
  conv : TypeDesc → Value → Option Value
  bytes : List Value → Option Value
  slice : Value → Option Value → Option Value → Option Value
  len : Nat → Option Value
def noSyms : Syms := ⟨fun _ _ _ => none, fun _ _ => none, fun _ => none, fun _ _ _ => none, fun _ => none⟩
noncomputable def envS (S : Syms) (ty : Tr TypeInfo) (fn : Tr Func) (eqok : TypeId → Bool) (spec : FuncId → Option (List Value → Heap → Res)) : Env :=
  { und := undK ty, info := infoK ty, func := funcK fn, eqok := eqok, spec := spec, symBin := S.bin, symConv := S.conv, symStr := S.bytes, symSlice := S.slice, symLen := S.len }
noncomputable def envK (ty : Tr TypeInfo) (fn : Tr Func) (eqok : TypeId → Bool) (spec : FuncId → Option (List Value → Heap → Res)) : Env := envS noSyms ty fn eqok spec
structure SymsOk (P : Program) (S : Syms) : Prop where
  bin : ∀ op t x y v, S.bin op x y = some v → ∀ ρ x' y' (w : World) (a b : Operand), V ρ x x' → V ρ y y' → ∃ v', V ρ v v' ∧ (do eqGuard op t a b x' y'; Go.binOp op t x' y' : Sem Value).run P w = .ok v' w
  conv : ∀ d x v, S.conv d x = some v → ∀ ρ x' (w : World) s t sd, V ρ x x' → P.underlying s = some sd → P.underlying t = some d → ∃ v', V ρ v v' ∧ (Go.convert s t x').run P w = .ok v' w
  bytes : ∀ l v, S.bytes l = some v → ∀ ρ l', VL ρ l l' → ∃ ns : List Int, l' = ns.map (Value.int .u8) ∧ V ρ v (str (ns.map fun n => UInt8.ofNat n.toNat))
  slice : ∀ x lo hi v, S.slice x lo hi = some v → ∀ ρ x' lo' hi' (w : World) t, V ρ x x' → OV ρ lo lo' → OV ρ hi hi' → P.underlying t = some .string → ∃ v', V ρ v v' ∧ (Instr.sliceAt t x' lo' hi' none).run P w = .ok v' w
  len : ∀ i v, S.len i = some v → ∀ ρ x', V ρ (.float .f64 i) x' → ∃ s : ByteArray, x' = .string s ∧ V ρ v (.int .i64 s.size)
theorem noSyms_ok (P : Program) : SymsOk P noSyms :=
  ⟨fun _ _ _ _ _ h => (by cases h), fun _ _ _ h => (by cases h), fun _ _ h => (by cases h), fun _ _ _ _ h => (by cases h), fun _ _ h => (by cases h)⟩

theorem allPlain_V {ρ : Map} : ∀ {l : List Value}, allPlain l = true → VL ρ l l ∧ ∀ v ∈ l, v.oneCell' = true
  | [], _ => ⟨.nil, by simp⟩
  | v :: l, h => by
    have h' : ifB (plain v) (allPlain l) false = true := h
    cases hp : plain v with
    | false => rw [hp, ifB_false] at h'; cases h'
    | true =>
      rw [hp, ifB_true] at h'
      obtain ⟨h1, h2⟩ := allPlain_V (ρ := ρ) h'
      refine ⟨.cons (.plain hp) h1, fun x hx => ?_⟩
      rcases List.mem_cons.1 hx with rfl | hx
      · cases x <;> first | rfl | (cases hp; done)
      · exact h2 x hx

section
variable {P : Program}

omit [Sg] in
theorem info_of {t : TypeId} {i : TypeInfo} (h : (trOf P.types.toList).get (path t) = some i) : P.info? t = some i := by
  rw [get_trOf, Array.getElem?_toList] at h
  have hlt : t < P.types.size := (Array.getElem?_eq_some_iff.1 h).1
  show (if t < P.types.size then P.types[t]? else Made.infoAt P.toTables Made.depth t) = some i
  rw [if_pos hlt]; exact h

theorem envSOk {S : Syms} (hS : SymsOk P S) {ty : Tr TypeInfo} {fn : Tr Func} {eqok : TypeId → Bool} {spec : FuncId → Option (List Value → Heap → Res)} (hty : ty = trOf P.types.toList)
    (heq : ∀ t, eqok t = true → P.eqGuardType P.depth t = false ∧ P.stoodInHeld t = false) : EnvOk P (envS S ty fn eqok spec) := by
  subst hty
  refine ⟨fun t d h => ?_, fun t i h => ?_, fun t i z h hz => ?_, heq, hS.bin, hS.conv, hS.bytes, hS.slice, hS.len⟩
  · have h' : bnd ((trOf P.types.toList).get (path t)) (fun i => undOf (trOf P.types.toList) i.desc) = some d := h
    rw [bnd_eq] at h'
    obtain ⟨i, hi, h'⟩ := h'
    have hP := info_of hi
    unfold Program.underlying
    rw [hP]
    obtain ⟨desc, str, size, bytes, hp, al, fal, zero, cmp, ms⟩ := i
    cases desc with
    | named n u =>
      have h2 : bnd ((trOf P.types.toList).get (path u)) (fun i => some i.desc) = some d := h'
      rw [bnd_eq] at h2
      obtain ⟨j, hj, e⟩ := h2
      cases e
      simp [info_of hj]
    | _ => cases h'; rfl
  · have h' : bnd ((trOf P.types.toList).get (path t)) (fun i => chk (zOk i) (some i)) = some i := h
    simp only [bnd_eq, chk_eq] at h'
    obtain ⟨j, hj, _, e⟩ := h'
    cases e
    exact info_of hj
  · have h' : bnd ((trOf P.types.toList).get (path t)) (fun i => chk (zOk i) (some i)) = some i := h
    simp only [bnd_eq, chk_eq] at h'
    obtain ⟨j, hj, hz', e⟩ := h'
    cases e
    unfold zOk at hz'
    rw [hz] at hz'
    have other : plain z = true ∧ Nat.beq i.size 1 = true → (∀ ρ, V ρ z z) ∧ ∀ l, cellsV z = some l → l.length = i.size := by
      rintro ⟨h1, h2⟩
      refine ⟨fun ρ => .plain h1, fun l hl => ?_⟩
      have := Nat.eq_of_beq_eq_true h2
      cases z <;> first | (cases hl; rw [this]; rfl) | (cases h1; done)
    cases z with
    | agg cs =>
      simp only [Bool.and_eq_true] at hz'
      obtain ⟨cs⟩ := cs
      refine ⟨fun ρ => .agg (allPlain_V hz'.1).1 (allPlain_V (ρ := ρ) hz'.1).2, fun l hl => ?_⟩
      have := Nat.eq_of_beq_eq_true hz'.2
      rw [lenL_eq] at this
      cases hl
      exact this
    | _ =>
      simp only [Bool.and_eq_true] at hz'
      exact other hz'

theorem envOk {ty : Tr TypeInfo} {fn : Tr Func} {eqok : TypeId → Bool} {spec : FuncId → Option (List Value → Heap → Res)} (hty : ty = trOf P.types.toList)
    (heq : ∀ t, eqok t = true → P.eqGuardType P.depth t = false ∧ P.stoodInHeld t = false) : EnvOk P (envK ty fn eqok spec) := envSOk (noSyms_ok P) hty heq

omit [Sg] in
theorem funsSOk {S : Syms} {ty : Tr TypeInfo} {fn : Tr Func} {eqok : TypeId → Bool} {spec : FuncId → Option (List Value → Heap → Res)} (hfn : fn = trOf P.funcs.toList) : FunsOk P (envS S ty fn eqok spec) := by
  subst hfn
  intro f g h
  have h' : bnd ((trOf P.funcs.toList).get (path f)) (fun F => bnd F.body fun b => chk (!(F.name == "runtime.NumGoroutine") && codeOk F.ntmps b) (some ⟨b, F.ntmps, F.results.toList⟩)) = some g := h
  simp only [bnd_eq, chk_eq, Bool.and_eq_true] at h'
  obtain ⟨F, hF, b, hb, ⟨h1, h2⟩, e⟩ := h'
  cases e
  rw [get_trOf, Array.getElem?_toList] at hF
  exact ⟨F, hF, hb, rfl, rfl, by simpa using h1, h2⟩
omit [Sg] in
theorem funsOk {ty : Tr TypeInfo} {fn : Tr Func} {eqok : TypeId → Bool} {spec : FuncId → Option (List Value → Heap → Res)} (hfn : fn = trOf P.funcs.toList) : FunsOk P (envK ty fn eqok spec) := funsSOk (S := noSyms) hfn
end
end Go.Ev
