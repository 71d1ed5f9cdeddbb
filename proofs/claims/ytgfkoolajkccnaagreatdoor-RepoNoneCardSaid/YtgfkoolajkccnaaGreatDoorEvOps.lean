/- One operation: the evaluator's answer is the model's. -/
import Derived.Test.YtgfkoolajkccnaaGreatDoorEvArith
import Derived.Laws.Entries
import Derived.Laws.BytesString
import Derived.Laws.StructEq
import Derived.WideLaws
import Derived.Lib.Builder
import Derived.Lib.UnsafeStr
/-! One operation: the evaluator's answer is the model's. -/
namespace Go.Ev
open Go.RowKit

/-- What the evaluator's tables owe to the program. -/
structure EnvOk (P : Program) (env : Env) : Prop where
  und : ∀ t d, env.und t = some d → P.underlying t = some d
  info : ∀ t i, env.info t = some i → P.info? t = some i
  zero : ∀ t i z, env.info t = some i → i.zero = some z → (∀ ρ, V ρ z z) ∧ ∀ l, cellsV z = some l → l.length = i.size
  eqok : ∀ t, env.eqok t = true → P.eqGuardType P.depth t = false ∧ P.stoodInHeld t = false

/-- What an operation of the model comes to. -/
def Does (P : Program) (o : Oper) (a : Act) (w : World) (R : Value → World → Prop) : Prop :=
  match (execOp a.eval o).run P w with
  | .ok (.value v) w' => R v w'
  | .ok .skip w' => R undef w'
  | .ok (.enter f args) w' => Calls P f args w' fun e w'' => ∃ v, e = .returned v ∧ R v w''
  | _ => False

theorem Does.wp {P : Program} {o : Oper} {a : Act} {w : World} {R : Value → World → Prop} (h : Does P o a w R) {next : Act → World → Prop} {Q : Exit → Act → World → Prop}
    (k : ∀ v w', R v w' → next (a.put o.dst v) w') : o.wp P a w next Q := by
  unfold Does at h
  unfold Oper.wp
  generalize (execOp a.eval o).run P w = r at h
  cases r with
  | halt x w' => exact h.elim
  | ok n w' =>
    cases n with
    | value v => exact k _ _ h
    | skip => exact k _ _ h
    | enter f args =>
      refine Calls.mono h ?_
      rintro e w'' ⟨v, rfl, hR⟩
      exact k _ _ hR
    | _ => exact h.elim

theorem Does.mono {P : Program} {o : Oper} {a : Act} {w : World} {R R' : Value → World → Prop} (h : Does P o a w R) (k : ∀ v w', R v w' → R' v w') : Does P o a w R' := by
  unfold Does at h ⊢
  generalize (execOp a.eval o).run P w = r at h
  cases r with
  | halt x w' => exact h.elim
  | ok n w' =>
    cases n with
    | value v => exact k _ _ h
    | skip => exact k _ _ h
    | enter f args => exact Calls.mono h fun e w'' ⟨v, he, hR⟩ => ⟨v, he, k _ _ hR⟩
    | _ => exact h.elim

/-- What stands behind a piece of a run that the evaluator answers with v and H'. -/
def Post (P : Program) (S : Nat → Prop) (ρ : Map) (H : Heap) (w : World) (v : Value) (H' : Heap) : Value → World → Prop :=
  fun v' w' => ∃ ρ', V ρ' v v' ∧ HR P ρ' H' w' ∧ Step S ρ H w ρ' H' w'

section
variable {P : Program} {S : Nat → Prop} {ρ : Map} {H : Heap} {w : World} {o : Oper} {a : Act}

theorem does_val {R : Value → World → Prop} {v : Value} {w' : World} (h : (execOp a.eval o).run P w = .ok (.value v) w') (k : R v w') : Does P o a w R := by
  unfold Does; rw [h]; exact k
theorem does_skip {R : Value → World → Prop} {w' : World} (h : (execOp a.eval o).run P w = .ok .skip w') (k : R undef w') : Does P o a w R := by
  unfold Does; rw [h]; exact k
theorem does_pure (hH : HR P ρ H w) {v v' : Value} (h : (execOp a.eval o).run P w = .ok (.value v') w) (k : V ρ v v') : Does P o a w (Post P S ρ H w v H) :=
  does_val h ⟨ρ, k, hH, .refl _ _ _ _⟩

theorem run_v {x : Sem Value} {v : Value} {w' : World} (h : x.run P w = .ok v w') : (do pure (Next.value (← x)) : Sem Next).run P w = .ok (.value v) w' := by
  simp [h]
theorem run_u {x : Sem Unit} {w' : World} (h : x.run P w = .ok () w') : (do x; pure Next.skip : Sem Next).run P w = .ok .skip w' := by
  simp [h]

/-- The slots. -/
def TR (ρ : Map) (tm : Tm) (tmps : Array Value) : Prop := ∀ t, V ρ (slot tm t) (tmps.getD t undef)

theorem TR.mono {ρ ρ' : Map} (h : Le ρ ρ') {tm : Tm} {tmps : Array Value} (k : TR ρ tm tmps) : TR ρ' tm tmps := fun t => (k t).mono h

theorem eval_ok {tm : Tm} (hT : TR ρ tm a.tmps) {x : Operand} {v : Value} (h : eval tm x = some v) : V ρ v (a.eval x) := by
  cases x with
  | tmp t => have e := Option.some.inj h; subst e; exact hT t
  | const c =>
    have h' : chk (plain c) (some c) = some v := h
    rw [chk_eq] at h'
    obtain ⟨hp, e⟩ := h'
    cases e
    exact .plain hp
  | global g => cases h
  | func f => have e := Option.some.inj h; subst e; exact .func _ .nil .nil

theorem evals_ok {tm : Tm} (hT : TR ρ tm a.tmps) : ∀ {l : List Operand} {vs : List Value}, evals tm l = some vs → VL ρ vs (l.map a.eval)
  | [], vs, h => by
    have e : some [] = some vs := h
    cases e; exact .nil
  | x :: l, vs, h => by
    have h' : bnd (eval tm x) (fun v => bnd (evals tm l) fun vs => some (v :: vs)) = some vs := h
    rw [bnd_eq] at h'
    obtain ⟨v, hv, h'⟩ := h'
    rw [bnd_eq] at h'
    obtain ⟨r, hr, e⟩ := h'
    cases e
    exact .cons (eval_ok hT hv) (evals_ok hT hr)

/-! ### Inversions -/
theorem addrOf_eq {v : Value} {a : Addr} : addrOf v = some a ↔ v = .pointer (some a) := by
  cases v with
  | pointer p => cases p <;> simp [addrOf]
  | _ => simp [addrOf]
theorem intOf_eq {v : Value} {n : Int} (h : intOf' v = some n) : ∃ k, v = .int k n := by
  cases v with
  | int k m => exact ⟨k, by simpa [intOf'] using h⟩
  | _ => simp [intOf'] at h
theorem boolOf_eq {v : Value} {b : Bool} (h : boolOf v = some b) : v = .bool b := by
  cases v with
  | bool c => simpa [boolOf] using h
  | _ => simp [boolOf] at h
theorem V.bool_inv {b : Bool} {v : Value} (h : V ρ (.bool b) v) : v = .bool b := by cases h; rfl
theorem V.int_inv {k : IntKind} {n : Int} {v : Value} (h : V ρ (.int k n) v) : v = .int k n := by cases h; rfl
theorem V.string_inv {s : ByteArray} {v : Value} (h : V ρ (.string s) v) : v = .string s := by cases h; rfl

theorem undef_V : V ρ undef undef := .tuple .nil

theorem cellsV_ok {v v' : Value} {l : List Value} (hv : V ρ v v') (h : cellsV v = some l) : ∃ l', v'.cells = ⟨l'⟩ ∧ VL ρ l l' ∧ ∀ x ∈ l', x.oneCell' = true := by
  cases hv with
  | agg ha h1 => simp [cellsV] at h; subst h; exact ⟨_, rfl, ha, h1⟩
  | tuple ht => simp [cellsV] at h
  | bool b => simp [cellsV] at h; subst h; exact ⟨_, rfl, .cons (.bool b) .nil, by simp [Value.oneCell']⟩
  | int k n => simp [cellsV] at h; subst h; exact ⟨_, rfl, .cons (.int k n) .nil, by simp [Value.oneCell']⟩
  | string s => simp [cellsV] at h; subst h; exact ⟨_, rfl, .cons (.string s) .nil, by simp [Value.oneCell']⟩
  | nilPtr => simp [cellsV] at h; subst h; exact ⟨_, rfl, .cons .nilPtr .nil, by simp [Value.oneCell']⟩
  | nilSlice => simp [cellsV] at h; subst h; exact ⟨_, rfl, .cons .nilSlice .nil, by simp [Value.oneCell']⟩
  | nilMap => simp [cellsV] at h; subst h; exact ⟨_, rfl, .cons .nilMap .nil, by simp [Value.oneCell']⟩
  | nilFunc => simp [cellsV] at h; subst h; exact ⟨_, rfl, .cons .nilFunc .nil, by simp [Value.oneCell']⟩
  | nilIface => simp [cellsV] at h; subst h; exact ⟨_, rfl, .cons .nilIface .nil, by simp [Value.oneCell']⟩
  | ptr h0 => simp [cellsV] at h; subst h; exact ⟨_, rfl, .cons (.ptr h0) .nil, by simp [Value.oneCell']⟩
  | slice h0 hn hc => simp [cellsV] at h; subst h; exact ⟨_, rfl, .cons (.slice h0 hn hc) .nil, by simp [Value.oneCell']⟩
  | sliceU h0 hn hc => simp [cellsV] at h; subst h; exact ⟨_, rfl, .cons (.sliceU h0 hn hc) .nil, by simp [Value.oneCell']⟩
  | empty h0 hs => simp [cellsV] at h; subst h; exact ⟨_, rfl, .cons (.empty h0 hs) .nil, by simp [Value.oneCell']⟩
  | map h0 => simp [cellsV] at h; subst h; exact ⟨_, rfl, .cons (.map h0) .nil, by simp [Value.oneCell']⟩
  | func fn ha hb => simp [cellsV] at h; subst h; exact ⟨_, rfl, .cons (.func fn ha hb) .nil, by simp [Value.oneCell']⟩
  | iface t h0 => simp [cellsV] at h; subst h; exact ⟨_, rfl, .cons (.iface t h0) .nil, by simp [Value.oneCell']⟩

theorem toVal_ok {agg : Bool} {l l' : List Value} {v : Value} (hl : VL ρ l l') (h1 : ∀ x ∈ l', x.oneCell' = true) (h : toVal agg l = some v) :
    (agg = true ∧ V ρ v (.agg ⟨l'⟩)) ∨ (agg = false ∧ ∃ x, l' = [x] ∧ V ρ v x) := by
  cases agg with
  | true => simp [toVal, oneL] at h; subst h; exact .inl ⟨rfl, .agg hl h1⟩
  | false =>
    match l, l', hl with
    | [x], [x'], .cons hx .nil => simp [toVal, oneL] at h; subst h; exact .inr ⟨rfl, x', rfl, hx⟩
    | [], _, .nil => simp [toVal, oneL] at h
    | _ :: _ :: _, _, _ => simp [toVal, oneL] at h

/-! ### The tables -/
variable {env : Env} (hE : EnvOk P env)
include hE

theorem run_und {t : TypeId} {d : TypeDesc} (h : env.und t = some d) (w : World) : (underlying t).run P w = .ok d w := run_underlying (hE.und t d h) w
theorem run_info {t : TypeId} {i : TypeInfo} (h : env.info t = some i) (w : World) : (typeInfo t).run P w = .ok i w := by
  simp [typeInfo, hE.info t i h]
theorem run_size {t : TypeId} {n : Nat} (h : env.size t = some n) (w : World) : (sizeOf t).run P w = .ok n w := by
  unfold Env.size at h
  rw [bnd_eq] at h
  obtain ⟨i, hi, e⟩ := h
  cases e
  simp [sizeOf, run_info hE hi]
theorem run_isAgg {t : TypeId} {d : TypeDesc} (h : env.und t = some d) (w : World) : (isAgg t).run P w = .ok (isAggD d) w := by
  simp only [isAgg, Sem.run_bind, run_und hE h, Result.andThen_ok]
  cases d <;> rfl
omit hE in
theorem shape_inv {t : TypeId} {s : Bool × Nat} (h : env.shape t = some s) : ∃ d, env.und t = some d ∧ isAggD d = s.1 ∧ env.size t = some s.2 := by
  unfold Env.shape at h
  rw [bnd_eq] at h
  obtain ⟨i, hi, h⟩ := h
  rw [bnd_eq] at h
  obtain ⟨d, hd, e⟩ := h
  cases e
  exact ⟨d, hd, rfl, by simp [Env.size, hi]⟩
theorem run_zero {t : TypeId} {z : Value} (h : env.zero t = some z) (w : World) : (zeroValue t).run P w = .ok z w := by
  unfold Env.zero at h
  rw [bnd_eq] at h
  obtain ⟨i, hi, e⟩ := h
  simp [zeroValue, run_info hE hi, e]
omit hE in
theorem slice_inv {t e : TypeId} (h : env.slice t = some e) : env.und t = some (.slice e) := by
  unfold Env.slice at h
  rw [bnd_eq] at h
  obtain ⟨d, hd, e'⟩ := h
  cases d with
  | slice x => simp [asSlice] at e'; subst e'; exact hd
  | _ => simp [asSlice] at e'
omit hE in
theorem map_inv {t : TypeId} {p : TypeId × TypeId} (h : env.map t = some p) : env.und t = some (.map p.1 p.2) := by
  unfold Env.map at h
  rw [bnd_eq] at h
  obtain ⟨d, hd, e'⟩ := h
  cases d with
  | map x y => simp [asMap] at e'; subst e'; exact hd
  | _ => simp [asMap] at e'
omit hE in
theorem struct_inv {t : TypeId} {fs : List Field} (h : env.struct t = some fs) : env.und t = some (.struct ⟨fs⟩) := by
  unfold Env.struct at h
  rw [bnd_eq] at h
  obtain ⟨d, hd, e'⟩ := h
  cases d with
  | struct x => simp [asStruct] at e'; subst e'; exact hd
  | _ => simp [asStruct] at e'

theorem loadVar_ok (hH : HR P ρ H w) {x x' : Addr} (hx : AR ρ x x') {t : TypeId} {v : Value} (h : loadVar env H t x = some v) : ∃ v', (Go.loadVar t x').run P w = .ok v' w ∧ V ρ v v' := by
  unfold loadVar at h
  rw [bnd_eq] at h
  obtain ⟨s, hs, h⟩ := h
  rw [bnd_eq] at h
  obtain ⟨l, hl, h⟩ := h
  obtain ⟨d, hd, hagg, hsz⟩ := shape_inv hs
  obtain ⟨l', hv, h1, hlen, hc⟩ := hH.load hx hl
  rcases toVal_ok hv h1 h with ⟨ha, hV⟩ | ⟨ha, y, rfl, hV⟩
  · refine ⟨_, ?_, hV⟩
    simp only [Go.loadVar, Sem.run_bind, run_isAgg hE hd, Result.andThen_ok, hagg, ha, if_true, run_size hE hsz, run_loadCells_of hlen hc, Sem.run_pure]
  · refine ⟨y, ?_, hV⟩
    have := hc 0 y rfl
    rw [Addr.add_zero'] at this
    simp only [Go.loadVar, Sem.run_bind, run_isAgg hE hd, Result.andThen_ok, hagg, ha, Bool.false_eq_true, if_false, run_load, this]

/-! ### The operations, one by one -/
variable {env' : Env} {call : Call} {id : Nat} {tm : Tm} {v : Value} {H' : Heap}
variable (hH : HR P ρ H w) (hT : TR ρ tm a.tmps)
include hH hT

omit hE in
theorem ok_move {x : Operand} (ho : o.op = .move x ∨ o.op = .assign x) (h : oMove x env call id tm H = some (v, H')) : Does P o a w (Post P S ρ H w v H') := by
  unfold oMove retO at h
  rw [bnd_eq] at h
  obtain ⟨u, hu, e⟩ := h
  cases e
  refine does_pure hH ?_ (eval_ok hT hu)
  rcases ho with ho | ho <;> simp [execOp, ho]

omit hE in
theorem ok_pick {c x y : Operand} (ho : o.op = .pick c x y) (h : oPick c x y env call id tm H = some (v, H')) : Does P o a w (Post P S ρ H w v H') := by
  unfold oPick at h
  rw [bnd_eq] at h
  obtain ⟨u, hu, h⟩ := h
  rw [bnd_eq] at h
  obtain ⟨b, hb, h⟩ := h
  have hu' := boolOf_eq hb
  subst hu'
  have hc := (eval_ok hT hu).bool_inv
  cases b
  · rw [ifB_false] at h
    unfold retO at h
    rw [bnd_eq] at h
    obtain ⟨q, hq, e⟩ := h
    cases e
    exact does_pure hH (by simp [execOp, ho, hc, asBool]) (eval_ok hT hq)
  · rw [ifB_true] at h
    unfold retO at h
    rw [bnd_eq] at h
    obtain ⟨q, hq, e⟩ := h
    cases e
    exact does_pure hH (by simp [execOp, ho, hc, asBool]) (eval_ok hT hq)

theorem ok_load {t : TypeId} {x : Operand} (ho : o.op = .load t x) (h : oLoad t x env call id tm H = some (v, H')) : Does P o a w (Post P S ρ H w v H') := by
  unfold oLoad at h
  rw [bnd_eq] at h
  obtain ⟨u, hu, h⟩ := h
  rw [bnd_eq] at h
  obtain ⟨p, hp, h⟩ := h
  unfold retO at h
  rw [bnd_eq] at h
  obtain ⟨q, hq, e⟩ := h
  cases e
  rw [addrOf_eq] at hp
  subst hp
  obtain ⟨p', hp', hAR⟩ := (eval_ok hT hu).ptrInv
  obtain ⟨q', hrun, hV⟩ := loadVar_ok hE hH hAR hq
  refine does_pure hH ?_ hV
  simp only [execOp, ho]
  exact run_v (by simp only [Instr.loadAt, hp', Instr.sureAddr, Sem.run_bind, Sem.run_pure, Result.andThen_ok, hrun])

theorem ok_store {t : TypeId} {x y : Operand} (ho : o.op = .store t x y) (h : oStore t x y env call id tm H = some (v, H')) : Does P o a w (Post P S ρ H w v H') := by
  unfold oStore at h
  simp only [bnd_eq, chk_eq] at h
  obtain ⟨u, hu, p, hp, q, hq, n, hn, cs, hcs, hlen, H1, hst, e⟩ := h
  cases e
  rw [addrOf_eq] at hp
  subst hp
  obtain ⟨p', hp', hAR⟩ := (eval_ok hT hu).ptrInv
  obtain ⟨l', hl', hVL, h1⟩ := cellsV_ok (eval_ok hT hq) hcs
  obtain ⟨w', hrun, hH', hS⟩ := hH.store hAR hst hVL h1 S
  refine does_skip (w' := w') ?_ ⟨ρ, undef_V, hH', hS⟩
  have hn' : l'.length = n := by
    have := Nat.eq_of_beq_eq_true hlen
    rw [lenL_eq] at this
    rw [← hVL.length, this]
  simp only [execOp, ho]
  refine run_u ?_
  simp only [Instr.storeAt, hp', Instr.sureAddr, Sem.run_bind, Sem.run_pure, Result.andThen_ok, storeVar, hl', run_size hE hn]
  have : ¬ (⟨l'⟩ : Array Value).size ≠ n := by simpa using hn'
  simp only [this, if_false]
  exact hrun

end
end Go.Ev
