/- One operation: the evaluator's answer is the model's. -/
import Derived.Test.YthnojgpobfpgeaaGreatDoorEvMem
import Derived.Laws.Entries
import Derived.Laws.BytesString
import Derived.Laws.StructEq
import Derived.WideLaws
import Derived.Lib.Builder
import Derived.Lib.UnsafeStr
namespace Go.Ev
open Go.RowKit
variable [Sg]
structure EnvOk (P : Program) (env : Env) : Prop where
 und : ∀ t d, env.und t = some d -> P.underlying t = some d
 info : ∀ t i, env.info t = some i -> P.info? t = some i
 zero : ∀ t i z, env.info t = some i -> i.zero = some z -> (∀ ρ, V ρ z z) /\ ∀ l, cellsV z = some l -> l.length = i.size
 eqok : ∀ t, env.eqok t = true -> P.eqGuardType P.depth t = false /\ P.stoodInHeld t = false
 symBin : ∀ op t x y v, env.symBin op x y = some v -> ∀ ρ x' y' (w : World) (a b : Operand), V ρ x x' -> V ρ y y' -> ∃ v', V ρ v v' /\ (do eqGuard op t a b x' y'; Go.binOp op t x' y' : Sem Value).run P w = .ok v' w
 symConv : ∀ d x v, env.symConv d x = some v -> ∀ ρ x' (w : World) s t sd, V ρ x x' -> P.underlying s = some sd -> P.underlying t = some d -> ∃ v', V ρ v v' /\ (Go.convert s t x').run P w = .ok v' w
 symStr : ∀ l v, env.symStr l = some v -> ∀ ρ l', VL ρ l l' -> ∃ ns : List Int, l' = ns.map (Value.int .u8) /\ V ρ v (str (ns.map fun n => UInt8.ofNat n.toNat))
 symSlice : ∀ x lo hi v, env.symSlice x lo hi = some v -> ∀ ρ x' lo' hi' (w : World) t, V ρ x x' -> OV ρ lo lo' -> OV ρ hi hi' -> P.underlying t = some .string -> ∃ v', V ρ v v' /\ (Instr.sliceAt t x' lo' hi' none).run P w = .ok v' w
 symLen : ∀ i v, env.symLen i = some v -> ∀ ρ x', V ρ (.float .f64 i) x' -> ∃ s : ByteArray, x' = .string s /\ V ρ v (.int .i64 s.size)
 symIndex : ∀ x i v, env.symIndex x i = some v -> ∀ ρ x' i' (w : World) t, V ρ x x' -> V ρ i i' -> P.underlying t = some .string -> ∃ v', V ρ v v' /\ (Instr.index t x' i').run P w = .ok v' w
 symUn : ∀ op x v, env.symUn op x = some v -> ∀ ρ x' (w : World), V ρ x x' -> ∃ v', V ρ v v' /\ (Op.unary op x').run P w = .ok v' w
 symKey : ∀ x y b, env.symKey x y = some b -> ∀ ρ x' y', V ρ x x' -> V ρ y y' -> ∃ p q : ByteArray, x' = .string p /\ y' = .string q /\ b = same p.data.toList q.data.toList
def Does (P : Program) (o : Oper) (a : Act) (w : World) (R : Value -> World -> Prop) : Prop :=
 match (execOp a.eval o).run P w with
 | .ok (.value v) w' => R v w'
 | .ok .skip w' => R undef w'
 | .ok (.enter f args) w' => Calls P f args w' fun e w'' => ∃ v, e = .returned v /\ R v w''
 | _ => False
omit [Sg] in
theorem Does.wp {P : Program} {o : Oper} {a : Act} {w : World} {R : Value -> World -> Prop} (h : Does P o a w R) {next : Act -> World -> Prop} {Q : Exit -> Act -> World -> Prop}
  (k : ∀ v w', R v w' -> next (a.put o.dst v) w') : o.wp P a w next Q := by
 unfold Does at h
 unfold Oper.wp
 generalize (execOp a.eval o).run P w = r at h
 cases r with
 | halt x w' => exact h.elim
 | ok n w' =>
  cases n with
  | value v => exact k _ _ h
  | skip => exact k _ _ h
  | enter f args =>
   refine Calls.mono h ?_
   rintro e w'' ⟨v, rfl, hR⟩
   exact k _ _ hR
  | _ => exact h.elim
omit [Sg] in
theorem Does.mono {P : Program} {o : Oper} {a : Act} {w : World} {R R' : Value -> World -> Prop} (h : Does P o a w R) (k : ∀ v w', R v w' -> R' v w') : Does P o a w R' := by
 unfold Does at h ⊢
 generalize (execOp a.eval o).run P w = r at h
 cases r with
 | halt x w' => exact h.elim
 | ok n w' =>
  cases n with
  | value v => exact k _ _ h
  | skip => exact k _ _ h
  | enter f args => exact Calls.mono h fun e w'' ⟨v, he, hR⟩ => ⟨v, he, k _ _ hR⟩
  | _ => exact h.elim
def Post (P : Program) (S : Nat -> Prop) (ρ : Map) (H : Heap) (w : World) (v : Value) (H' : Heap) : Value -> World -> Prop :=
 fun v' w' => ∃ ρ', V ρ' v v' /\ HR P ρ' H' w' /\ Step S ρ H w ρ' H' w'
section
variable {P : Program} {S : Nat -> Prop} {ρ : Map} {H : Heap} {w : World} {o : Oper} {a : Act}
omit [Sg] in
theorem does_val {R : Value -> World -> Prop} {v : Value} {w' : World} (h : (execOp a.eval o).run P w = .ok (.value v) w') (k : R v w') : Does P o a w R := by
 unfold Does; rw [h]; exact k
omit [Sg] in
theorem does_skip {R : Value -> World -> Prop} {w' : World} (h : (execOp a.eval o).run P w = .ok .skip w') (k : R undef w') : Does P o a w R := by
 unfold Does; rw [h]; exact k
theorem does_pure (hH : HR P ρ H w) {v v' : Value} (h : (execOp a.eval o).run P w = .ok (.value v') w) (k : V ρ v v') : Does P o a w (Post P S ρ H w v H) :=
 does_val h ⟨ρ, k, hH, .refl _ _ _ _⟩
omit [Sg] in
theorem run_v {x : Sem Value} {v : Value} {w' : World} (h : x.run P w = .ok v w') : (do pure (Next.value (<- x)) : Sem Next).run P w = .ok (.value v) w' := by
 simp [h]
omit [Sg] in
theorem run_u {x : Sem Unit} {w' : World} (h : x.run P w = .ok () w') : (do x; pure Next.skip : Sem Next).run P w = .ok .skip w' := by
 simp [h]
def TR (ρ : Map) (tm : Tm) (tmps : Array Value) : Prop := ∀ t, V ρ (slot tm t) (tmps.getD t undef)
theorem TR.mono {ρ ρ' : Map} (h : Le ρ ρ') {tm : Tm} {tmps : Array Value} (k : TR ρ tm tmps) : TR ρ' tm tmps := fun t => (k t).mono h
theorem eval_ok {tm : Tm} (hT : TR ρ tm a.tmps) {x : Operand} {v : Value} (h : eval tm x = some v) : V ρ v (a.eval x) := by
 cases x with
 | tmp t => have e := Option.some.inj h; subst e; exact hT t
 | const c =>
  have h' : chk (plain c) (some c) = some v := h
  rw [chk_eq] at h'
  obtain ⟨hp, e⟩ := h'
  cases e
  exact .plain hp
 | global g => cases h
 | func f => have e := Option.some.inj h; subst e; exact .func _ .nil .nil
theorem evals_ok {tm : Tm} (hT : TR ρ tm a.tmps) : ∀ {l : List Operand} {vs : List Value}, evals tm l = some vs -> VL ρ vs (l.map a.eval)
 | [], vs, h => by
  have e : some [] = some vs := h
  cases e; exact .nil
 | x :: l, vs, h => by
  have h' : bnd (eval tm x) (fun v => bnd (evals tm l) fun vs => some (v :: vs)) = some vs := h
  rw [bnd_eq] at h'
  obtain ⟨v, hv, h'⟩ := h'
  rw [bnd_eq] at h'
  obtain ⟨r, hr, e⟩ := h'
  cases e
  exact .cons (eval_ok hT hv) (evals_ok hT hr)
omit [Sg] in
theorem addrOf_eq {v : Value} {a : Addr} : addrOf v = some a ↔ v = .pointer (some a) := by
 cases v with
 | pointer p => cases p <;> simp [addrOf]
 | _ => simp [addrOf]
omit [Sg] in
theorem intOf_eq {v : Value} {n : Int} (h : intOf' v = some n) : ∃ k, v = .int k n := by
 cases v with
 | int k m => exact ⟨k, by simpa [intOf'] using h⟩
 | _ => simp [intOf'] at h
omit [Sg] in
theorem boolOf_eq {v : Value} {b : Bool} (h : boolOf v = some b) : v = .bool b := by
 cases v with
 | bool c => simpa [boolOf] using h
 | _ => simp [boolOf] at h
theorem V.bool_inv {b : Bool} {v : Value} (h : V ρ (.bool b) v) : v = .bool b := by cases h; rfl
theorem V.int_inv {k : IntKind} {n : Int} {v : Value} (h : V ρ (.int k n) v) : v = .int k n := by cases h; rfl
theorem V.string_inv {s : ByteArray} {v : Value} (h : V ρ (.string s) v) : v = .string s := by cases h; rfl
theorem undef_V : V ρ undef undef := .tuple .nil
omit [Sg] in
theorem plain_cells {v : Value} (h : plain v = true) : v.cells = ⟨[v]⟩ /\ v.oneCell' = true := by
 cases v <;> first | exact ⟨rfl, rfl⟩ | (cases h; done)
theorem cellsV_ok {v v' : Value} {l : List Value} (hv : V ρ v v') (h : cellsV v = some l) : ∃ l', v'.cells = ⟨l'⟩ /\ VL ρ l l' /\ ∀ x ∈ l', x.oneCell' = true := by
 cases hv with
 | sym i =>
  simp [cellsV, isF64] at h
  subst h
  obtain ⟨h1, h2⟩ := plain_cells (Sg.plain i)
  exact ⟨_, h1, .cons (.sym i) .nil, by simpa using h2⟩
 | any _ => simp [cellsV, isF64] at h
 | agg ha h1 => simp [cellsV] at h; subst h; exact ⟨_, rfl, ha, h1⟩
 | tuple ht => simp [cellsV] at h
 | bool b => simp [cellsV] at h; subst h; exact ⟨_, rfl, .cons (.bool b) .nil, by simp [Value.oneCell']⟩
 | int k n => simp [cellsV] at h; subst h; exact ⟨_, rfl, .cons (.int k n) .nil, by simp [Value.oneCell']⟩
 | string s => simp [cellsV] at h; subst h; exact ⟨_, rfl, .cons (.string s) .nil, by simp [Value.oneCell']⟩
 | nilPtr => simp [cellsV] at h; subst h; exact ⟨_, rfl, .cons .nilPtr .nil, by simp [Value.oneCell']⟩
 | nilSlice => simp [cellsV] at h; subst h; exact ⟨_, rfl, .cons .nilSlice .nil, by simp [Value.oneCell']⟩
 | nilMap => simp [cellsV] at h; subst h; exact ⟨_, rfl, .cons .nilMap .nil, by simp [Value.oneCell']⟩
 | nilFunc => simp [cellsV] at h; subst h; exact ⟨_, rfl, .cons .nilFunc .nil, by simp [Value.oneCell']⟩
 | nilIface => simp [cellsV] at h; subst h; exact ⟨_, rfl, .cons .nilIface .nil, by simp [Value.oneCell']⟩
 | ptr h0 => simp [cellsV] at h; subst h; exact ⟨_, rfl, .cons (.ptr h0) .nil, by simp [Value.oneCell']⟩
 | slice h0 hn hc => simp [cellsV] at h; subst h; exact ⟨_, rfl, .cons (.slice h0 hn hc) .nil, by simp [Value.oneCell']⟩
 | sliceU h0 hn hc => simp [cellsV] at h; subst h; exact ⟨_, rfl, .cons (.sliceU h0 hn hc) .nil, by simp [Value.oneCell']⟩
 | empty h0 hs => simp [cellsV] at h; subst h; exact ⟨_, rfl, .cons (.empty h0 hs) .nil, by simp [Value.oneCell']⟩
 | map h0 => simp [cellsV] at h; subst h; exact ⟨_, rfl, .cons (.map h0) .nil, by simp [Value.oneCell']⟩
 | func fn ha hb => simp [cellsV] at h; subst h; exact ⟨_, rfl, .cons (.func fn ha hb) .nil, by simp [Value.oneCell']⟩
 | iface t h0 => simp [cellsV] at h; subst h; exact ⟨_, rfl, .cons (.iface t h0) .nil, by simp [Value.oneCell']⟩
theorem toVal_ok {agg : Bool} {l l' : List Value} {v : Value} (hl : VL ρ l l') (h1 : ∀ x ∈ l', x.oneCell' = true) (h : toVal agg l = some v) :
  (agg = true /\ V ρ v (.agg ⟨l'⟩)) \/ (agg = false /\ ∃ x, l' = [x] /\ V ρ v x) := by
 cases agg with
 | true => simp [toVal, oneL] at h; subst h; exact .inl ⟨rfl, .agg hl h1⟩
 | false =>
  match l, l', hl with
  | [x], [x'], .cons hx .nil => simp [toVal, oneL] at h; subst h; exact .inr ⟨rfl, x', rfl, hx⟩
  | [], _, .nil => simp [toVal, oneL] at h
  | _ :: _ :: _, _, _ => simp [toVal, oneL] at h
variable {env : Env} (hE : EnvOk P env)
include hE
theorem run_und {t : TypeId} {d : TypeDesc} (h : env.und t = some d) (w : World) : (underlying t).run P w = .ok d w := run_underlying (hE.und t d h) w
theorem run_info {t : TypeId} {i : TypeInfo} (h : env.info t = some i) (w : World) : (typeInfo t).run P w = .ok i w := by
 simp [typeInfo, hE.info t i h]
theorem run_size {t : TypeId} {n : Nat} (h : env.size t = some n) (w : World) : (sizeOf t).run P w = .ok n w := by
 unfold Env.size at h
 rw [bnd_eq] at h
 obtain ⟨i, hi, e⟩ := h
 cases e
 simp [sizeOf, run_info hE hi]
theorem run_isAgg {t : TypeId} {d : TypeDesc} (h : env.und t = some d) (w : World) : (isAgg t).run P w = .ok (isAggD d) w := by
 simp only [isAgg, Sem.run_bind, run_und hE h, Result.andThen_ok]
 cases d <;> rfl
omit [Sg] in
omit hE in
theorem shape_inv {t : TypeId} {s : Bool × Nat} (h : env.shape t = some s) : ∃ d, env.und t = some d /\ isAggD d = s.1 /\ env.size t = some s.2 := by
 unfold Env.shape at h
 rw [bnd_eq] at h
 obtain ⟨i, hi, h⟩ := h
 rw [bnd_eq] at h
 obtain ⟨d, hd, e⟩ := h
 cases e
 exact ⟨d, hd, rfl, by simp [Env.size, hi]⟩
theorem run_zero {t : TypeId} {z : Value} (h : env.zero t = some z) (w : World) : (zeroValue t).run P w = .ok z w := by
 unfold Env.zero at h
 rw [bnd_eq] at h
 obtain ⟨i, hi, e⟩ := h
 simp [zeroValue, run_info hE hi, e]
omit [Sg] in
omit hE in
theorem slice_inv {t e : TypeId} (h : env.slice t = some e) : env.und t = some (.slice e) := by
 unfold Env.slice at h
 rw [bnd_eq] at h
 obtain ⟨d, hd, e'⟩ := h
 cases d with
 | slice x => simp [asSlice] at e'; subst e'; exact hd
 | _ => simp [asSlice] at e'
omit [Sg] in
omit hE in
theorem map_inv {t : TypeId} {p : TypeId × TypeId} (h : env.map t = some p) : env.und t = some (.map p.1 p.2) := by
 unfold Env.map at h
 rw [bnd_eq] at h
 obtain ⟨d, hd, e'⟩ := h
 cases d with
 | map x y => simp [asMap] at e'; subst e'; exact hd
 | _ => simp [asMap] at e'
omit [Sg] in
omit hE in
theorem struct_inv {t : TypeId} {fs : List Field} (h : env.struct t = some fs) : env.und t = some (.struct ⟨fs⟩) := by
 unfold Env.struct at h
 rw [bnd_eq] at h
 obtain ⟨d, hd, e'⟩ := h
 cases d with
 | struct x => simp [asStruct] at e'; subst e'; exact hd
 | _ => simp [asStruct] at e'
theorem loadVar_ok (hH : HR P ρ H w) {x x' : Addr} (hx : AR ρ x x') {t : TypeId} {v : Value} (h : loadVar env H t x = some v) : ∃ v', (Go.loadVar t x').run P w = .ok v' w /\ V ρ v v' := by
 unfold loadVar at h
 rw [bnd_eq] at h
 obtain ⟨s, hs, h⟩ := h
 rw [bnd_eq] at h
 obtain ⟨l, hl, h⟩ := h
 obtain ⟨d, hd, hagg, hsz⟩ := shape_inv hs
 obtain ⟨l', hv, h1, hlen, hc⟩ := hH.load hx hl
 rcases toVal_ok hv h1 h with ⟨ha, hV⟩ | ⟨ha, y, rfl, hV⟩
 ·
  refine ⟨_, ?_, hV⟩
  simp only [Go.loadVar, Sem.run_bind, run_isAgg hE hd, Result.andThen_ok, hagg, ha, if_true, run_size hE hsz, run_loadCells_of hlen hc, Sem.run_pure]
 ·
  refine ⟨y, ?_, hV⟩
  have := hc 0 y rfl
  rw [Addr.add_zero'] at this
  simp only [Go.loadVar, Sem.run_bind, run_isAgg hE hd, Result.andThen_ok, hagg, ha, Bool.false_eq_true, if_false, run_load, this]
variable {env' : Env} {call : Call} {id : Nat} {tm : Tm} {v : Value} {H' : Heap}
variable (hH : HR P ρ H w) (hT : TR ρ tm a.tmps)
include hH hT
omit hE in
theorem ok_move {x : Operand} (ho : o.op = .move x \/ o.op = .assign x) (h : oMove x env call id tm H = some (v, H')) : Does P o a w (Post P S ρ H w v H') := by
 unfold oMove retO at h
 rw [bnd_eq] at h
 obtain ⟨u, hu, e⟩ := h
 cases e
 refine does_pure hH ?_ (eval_ok hT hu)
 rcases ho with ho | ho <;> simp [execOp, ho]
omit hE in
theorem ok_pick {c x y : Operand} (ho : o.op = .pick c x y) (h : oPick c x y env call id tm H = some (v, H')) : Does P o a w (Post P S ρ H w v H') := by
 unfold oPick at h
 rw [bnd_eq] at h
 obtain ⟨u, hu, h⟩ := h
 rw [bnd_eq] at h
 obtain ⟨b, hb, h⟩ := h
 have hu' := boolOf_eq hb
 subst hu'
 have hc := (eval_ok hT hu).bool_inv
 cases b
 ·
  rw [ifB_false] at h
  unfold retO at h
  rw [bnd_eq] at h
  obtain ⟨q, hq, e⟩ := h
  cases e
  exact does_pure hH (by simp [execOp, ho, hc, asBool]) (eval_ok hT hq)
 ·
  rw [ifB_true] at h
  unfold retO at h
  rw [bnd_eq] at h
  obtain ⟨q, hq, e⟩ := h
  cases e
  exact does_pure hH (by simp [execOp, ho, hc, asBool]) (eval_ok hT hq)
theorem ok_load {t : TypeId} {x : Operand} (ho : o.op = .load t x) (h : oLoad t x env call id tm H = some (v, H')) : Does P o a w (Post P S ρ H w v H') := by
 unfold oLoad at h
 rw [bnd_eq] at h
 obtain ⟨u, hu, h⟩ := h
 rw [bnd_eq] at h
 obtain ⟨p, hp, h⟩ := h
 unfold retO at h
 rw [bnd_eq] at h
 obtain ⟨q, hq, e⟩ := h
 cases e
 rw [addrOf_eq] at hp
 subst hp
 obtain ⟨p', hp', hAR⟩ := (eval_ok hT hu).ptrInv
 obtain ⟨q', hrun, hV⟩ := loadVar_ok hE hH hAR hq
 refine does_pure hH ?_ hV
 simp only [execOp, ho]
 exact run_v (by simp only [Instr.loadAt, hp', Instr.sureAddr, Sem.run_bind, Sem.run_pure, Result.andThen_ok, hrun])
theorem ok_store {t : TypeId} {x y : Operand} (ho : o.op = .store t x y) (h : oStore t x y env call id tm H = some (v, H')) : Does P o a w (Post P S ρ H w v H') := by
 unfold oStore at h
 simp only [bnd_eq, chk_eq] at h
 obtain ⟨u, hu, p, hp, q, hq, n, hn, cs, hcs, hlen, H1, hst, e⟩ := h
 cases e
 rw [addrOf_eq] at hp
 subst hp
 obtain ⟨p', hp', hAR⟩ := (eval_ok hT hu).ptrInv
 obtain ⟨l', hl', hVL, h1⟩ := cellsV_ok (eval_ok hT hq) hcs
 obtain ⟨w', hrun, hH', hS⟩ := hH.store hAR hst hVL h1 S
 refine does_skip (w' := w') ?_ ⟨ρ, undef_V, hH', hS⟩
 have hn' : l'.length = n := by
  have := Nat.eq_of_beq_eq_true hlen
  rw [lenL_eq] at this
  rw [<- hVL.length, this]
 simp only [execOp, ho]
 refine run_u ?_
 simp only [Instr.storeAt, hp', Instr.sureAddr, Sem.run_bind, Sem.run_pure, Result.andThen_ok, storeVar, hl', run_size hE hn]
 have : ¬ (⟨l'⟩ : Array Value).size ≠ n := by simpa using hn'
 simp only [this, if_false]
 exact hrun
end
end Go.Ev
namespace Go.Ev
open Go.RowKit
variable [Sg]
omit [Sg] in
theorem run_newVar (P : Program) (w : World) (t : TypeId) (v : Value) : (newVar t v).run P w = .ok ⟨w.heap.size, 0, none⟩ (w.alloc (.cells v.cells t)) := by
 simp [newVar, newRow]
omit [Sg] in
theorem heap_alloc_new (w : World) (o : Obj) : (w.alloc o).heap[w.heap.size]? = some o := by
 show (w.heap.push o)[w.heap.size]? = _
 simp
section
variable {P : Program} {S : Nat -> Prop} {ρ : Map} {H : Heap} {w : World} {o : Oper} {a : Act}
theorem HR.row (hH : HR P ρ H w) {id : Nat} (hid : ρ id = none) (hlt : id < H.next) (hS : S id) {cs cs' : List Value} {C : Array Value} {elem : TypeId} {i : TypeInfo} (hi : P.info? elem = some i)
  (hv : VL ρ cs cs') (h1 : ∀ v ∈ cs', v.oneCell' = true) {w' : World} {fr : Nat × Nat} (hfr : ∀ j, j < C.size -> ¬ (fr.1 <= j /\ j < fr.2)) (hC : C.toList.take cs'.length = cs')
  (os : w'.os = w.os) (tape : w'.tape = w.tape) (out : w'.output = w.output) (size : w'.heap.size = w.heap.size + 1) (ho : w'.heap[w.heap.size]? = some (.cells C elem fr))
  (hk : ∀ k, k < w.heap.size -> w'.heap[k]? = w.heap[k]?) :
  HR P (ins ρ id ⟨w.heap.size, 0, cs'.length, C.size, i.size⟩) (H.set id (.cells cs elem .rw)) w' /\
   Step S ρ H w (ins ρ id ⟨w.heap.size, 0, cs'.length, C.size, i.size⟩) (H.set id (.cells cs elem .rw)) w' := by
 have hle : cs'.length <= C.size := by
  have := congrArg List.length hC
  rw [List.length_take] at this
  simp at this; omega
 refine hH.fresh hid hlt hS (Nat.le_refl _) os tape out (by omega) ?_ hk
 rw [ho]
 have hw : win C ⟨w.heap.size, 0, cs'.length, C.size, i.size⟩ = cs' := by unfold win; simpa using hC
 exact .cells hi rfl hv.length hle (by simp) (fun _ => hfr) (by rw [hw]; exact hv.mono (Le.ins hid _)) (by rw [hw]; exact h1) (Nat.zero_mod _)
variable {env : Env} (hE : EnvOk P env)
include hE
variable {call : Call} {id : Nat} {tm : Tm} {v : Value} {H' : Heap}
variable (hH : HR P ρ H w) (hid : ρ id = none) (hlt : id < H.next) (hS : S id)
include hH hid hlt hS
theorem newCells_ok {e : TypeId} {u u' : Value} (hu : V ρ u u') (h : newCells env H id e u = some (v, H')) :
  ∃ v' w', (do let p <- newVar e u'; pure (Value.pointer (some p)) : Sem Value).run P w = .ok v' w' /\ Post P S ρ H w v H' v' w' := by
 unfold newCells at h
 simp only [bnd_eq, fN_eq] at h
 obtain ⟨i, hi, cs, hcs, e'⟩ := h
 cases e'
 obtain ⟨l', hl', hVL, h1⟩ := cellsV_ok hu hcs
 refine ⟨.pointer (some ⟨w.heap.size, 0, none⟩), w.alloc (.cells u'.cells e), by simp only [Sem.run_bind, run_newVar, Result.andThen_ok, Sem.run_pure], ?_⟩
 obtain ⟨hH', hSt⟩ := hH.row (S := S) hid hlt hS (cs := cs) (cs' := l') (C := u'.cells) (elem := e) (fr := (0, 0)) (hE.info e i hi) hVL h1 (by simp) (by rw [hl']; simp) (w' := w.alloc (.cells u'.cells e)) rfl rfl rfl
  (by simp) (heap_alloc_new _ _) (fun k hk => Below.heap_alloc _ _ _ hk)
 exact ⟨_, .ptr (ins_same _ _ _), hH', hSt⟩
theorem ok_alloc {e : TypeId} (ho : o.op = .alloc e) (h : oAlloc e env call id tm H = some (v, H')) : Does P o a w (Post P S ρ H w v H') := by
 unfold oAlloc at h
 rw [bnd_eq] at h
 obtain ⟨z, hz, h⟩ := h
 have hzV : V ρ z z := by
  unfold Env.zero at hz
  rw [bnd_eq] at hz
  obtain ⟨i, hi, hz⟩ := hz
  exact (hE.zero e i z hi hz).1 ρ
 obtain ⟨v', w', hrun, hP⟩ := newCells_ok hE hH hid hlt hS hzV h
 refine does_val ?_ hP
 simp only [execOp, ho]
 refine run_v ?_
 simp only [Sem.run_bind] at hrun
 simp only [Instr.alloc, Sem.run_bind, run_zero hE hz, Result.andThen_ok]
 exact hrun
variable (hT : TR ρ tm a.tmps)
include hT
theorem ok_box {e : TypeId} {x : Operand} (ho : o.op = .box e x) (h : oBox e x env call id tm H = some (v, H')) : Does P o a w (Post P S ρ H w v H') := by
 unfold oBox at h
 rw [bnd_eq] at h
 obtain ⟨u, hu, h⟩ := h
 obtain ⟨v', w', hrun, hP⟩ := newCells_ok hE hH hid hlt hS (eval_ok hT hu) h
 refine does_val ?_ hP
 simp only [execOp, ho]
 exact run_v hrun
end
section
variable {P : Program} {S : Nat -> Prop} {ρ : Map} {H : Heap} {w : World} {o : Oper} {a : Act}
variable {env : Env} {call : Call} {id : Nat} {tm : Tm} {v : Value} {H' : Heap}
variable (hH : HR P ρ H w) (hT : TR ρ tm a.tmps)
include hH hT
theorem ok_nilCheck {x : Operand} (ho : o.op = .nilCheck x) (h : oNilCheck x env call id tm H = some (v, H')) : Does P o a w (Post P S ρ H w v H') := by
 unfold oNilCheck retO at h
 simp only [bnd_eq] at h
 obtain ⟨u, hu, q, hq, e⟩ := h
 cases e
 have hV := eval_ok hT hu
 unfold checkOf at hq
 split at hq
 ·
  cases hq
  obtain ⟨p', hp', hAR⟩ := hV.ptrInv
  refine does_pure hH (v' := .pointer (some p')) ?_ hAR.val
  simp [execOp, ho, hp']
 ·
  cases hq
  rename_i f x' y'
  generalize hg : a.eval x = g at hV
  cases hV with
  | func fn ha hb =>
   refine does_pure hH ?_ (.func (.func f) ha hb)
   simp [execOp, ho, hg]
 ·
  cases hq
theorem ok_func {fn : Fn} {first captured : Array Operand} (ho : o.op = .makeFunc fn first captured) (h : oFunc fn first captured env call id tm H = some (v, H')) : Does P o a w (Post P S ρ H w v H') := by
 unfold oFunc at h
 simp only [bnd_eq] at h
 obtain ⟨x, hx, y, hy, e⟩ := h
 cases e
 refine does_pure hH (v' := .func fn (first.map a.eval) (captured.map a.eval)) (by simp [execOp, ho, Instr.makeFunc]) ?_
 have h1 := evals_ok hT hx
 have h2 := evals_ok hT hy
 have e1 : first.map a.eval = ⟨first.toList.map a.eval⟩ := by apply Array.ext'; simp
 have e2 : captured.map a.eval = ⟨captured.toList.map a.eval⟩ := by apply Array.ext'; simp
 rw [e1, e2]
 exact .func fn h1 h2
theorem ok_extract {x : Operand} {i : Nat} (ho : o.op = .extract x i) (h : oExtract x i env call id tm H = some (v, H')) : Does P o a w (Post P S ρ H w v H') := by
 unfold oExtract retO at h
 simp only [bnd_eq] at h
 obtain ⟨u, hu, vs, hvs, q, hq, e⟩ := h
 cases e
 have hV := eval_ok hT hu
 generalize hg : a.eval x = g at hV
 cases hV with
 | tuple hl =>
  simp [tupleOf] at hvs
  subst hvs
  rw [nthL_eq] at hq
  obtain ⟨q', hq', hV⟩ := hl.get hq
  refine does_pure hH (v' := q') ?_ hV
  simp [execOp, ho, hg, Instr.extract, hq']
 | _ => simp [tupleOf] at hvs
variable (hE : EnvOk P env)
include hE
theorem ok_un {op : UnOp} {t : TypeId} {x : Operand} (ho : o.op = .unOp op t x) (h : oUn op t x env call id tm H = some (v, H')) : Does P o a w (Post P S ρ H w v H') := by
 unfold oUn retO at h
 simp only [bnd_eq] at h
 obtain ⟨u, hu, q, hq, e⟩ := h
 cases e
 have hV := eval_ok hT hu
 have hq0 := orO_eq hq
 clear hq
 rcases hq0 with hq | ⟨_, hq⟩
 rotate_left
 ·
  obtain ⟨v', hv', hrun⟩ := hE.symUn _ _ v hq ρ _ w hV
  refine does_pure hH (v' := v') ?_ hv'
  simp only [execOp, ho]
  exact run_v hrun
 unfold unOpF at hq
 split at hq
 ·
  rename_i k n
  have hx := hV.int_inv
  rw [mkInt_eq] at hq
  cases hq
  refine does_pure hH (v' := .int k _) ?_ (.int k _)
  simp only [execOp, ho, hx]
  refine run_v ?_
  show (Op.intBits .xor k (if k.signed then -1 else k.max) n).run P w = _
  simp only [Op.intBits, Sem.run_pure]
  congr 2
  have hb : (BitVec.ofInt k.bits (if k.signed = true then -1 else k.max)) = BitVec.allOnes k.bits := by
   apply BitVec.eq_of_toNat_eq
   rw [BitVec.toNat_ofInt, BitVec.toNat_allOnes]
   cases k <;> decide
  rw [hb]
  have e1 : (BitVec.allOnes k.bits ^^^ BitVec.ofInt k.bits n).toNat = 2 ^ k.bits - 1 - uns k n := by
   rw [BitVec.xor_comm, BitVec.xor_allOnes, BitVec.toNat_not, BitVec.toNat_ofInt, uns_eq]
   congr 2
  rw [e1, <- ofUns_eq]
  congr 1
  have hlt : uns k n < kmod k := by
   rw [uns_eq]
   have := Int.emod_lt_of_pos n (b := (2 ^ k.bits : Int)) (by cases k <;> decide)
   have := Int.emod_nonneg n (b := (2 ^ k.bits : Int)) (by cases k <;> decide)
   cases k <;> simp only [kmod, IntKind.bits] at * <;> omega
  have hm : 2 ^ k.bits = kmod k := by cases k <;> rfl
  have hm' : (2 ^ k.bits : Int) = (kmod k : Int) := by cases k <;> rfl
  rw [hm, hm']
  simp only [Nat.sub_eq]
  rw [Int.emod_eq_of_lt (by omega) (by omega)]
  omega
 ·
  rename_i k n
  have hx := hV.int_inv
  rw [wInt_eq] at hq
  cases hq
  refine does_pure hH (v' := .int k _) ?_ (.int k _)
  simp only [execOp, ho, hx]
  exact run_v rfl
 ·
  have hx := hV.bool_inv
  cases hq
  refine does_pure hH (v' := .bool false) ?_ (.bool _)
  simp only [execOp, ho, hx]
  exact run_v rfl
 ·
  have hx := hV.bool_inv
  cases hq
  refine does_pure hH (v' := .bool true) ?_ (.bool _)
  simp only [execOp, ho, hx]
  exact run_v rfl
 ·
  cases hq
theorem ok_iface {t : TypeId} {x : Operand} (ho : o.op = .makeInterface t x) (h : oIface t x env call id tm H = some (v, H')) : Does P o a w (Post P S ρ H w v H') := by
 unfold oIface at h
 simp only [bnd_eq, chk_eq] at h
 obtain ⟨u, hu, d, hd, hi, e⟩ := h
 cases e
 refine does_pure hH (v' := .iface t (a.eval x)) ?_ (.iface t (eval_ok hT hu))
 simp only [execOp, ho]
 refine run_v ?_
 simp only [Instr.makeInterface, Sem.run_bind, run_und hE hd, Result.andThen_ok]
 cases d with
 | interface ms => simp [isIface] at hi
 | _ => rfl
theorem ok_assert {x : Operand} {t0 t : TypeId} {ok : Bool} (ho : o.op = .typeAssert x t0 t ok) (h : oAssert x t0 t ok env call id tm H = some (v, H')) : Does P o a w (Post P S ρ H w v H') := by
 unfold oAssert at h
 simp only [bnd_eq, chk_eq, Bool.and_eq_true, Bool.not_eq_true'] at h
 obtain ⟨u, hu, p, hp, d, hd, ⟨⟨hi, hok⟩, ht⟩, e⟩ := h
 cases e
 have hV := eval_ok hT hu
 generalize hg : a.eval x = g at hV
 cases hV with
 | iface t' hv =>
  simp [ifaceOf] at hp
  subst hp
  have ht' := Nat.eq_of_beq_eq_true ht
  simp only at ht'
  subst ht' hok
  refine does_pure hH ?_ hv
  simp only [execOp, ho, hg]
  refine run_v ?_
  simp only [Instr.typeAssert, Sem.run_bind, run_und hE hd, Result.andThen_ok]
  cases d with
  | interface ms => simp [isIface] at hi
  | _ => simp
 | _ => simp [ifaceOf] at hp
end
end Go.Ev
namespace Go.Ev
open Go.RowKit
variable [Sg]
omit [Sg] in
theorem ofUns_nat (k : IntKind) {m : Nat} (h : m < 2 ^ k.bits) : ofUns k m = k.wrap (m : Int) := by
 rw [<- ofUns_eq]
 congr 1
 have e : ((2 : Int) ^ k.bits) = ((2 ^ k.bits : Nat) : Int) := by cases k <;> rfl
 rw [e, Int.emod_eq_of_lt (by omega) (by omega), Int.toNat_natCast]
omit [Sg] in
theorem uns_bv (k : IntKind) (x : Int) : (BitVec.ofInt k.bits x).toNat = uns k x := by
 rw [BitVec.toNat_ofInt, uns_eq]
 congr 2
omit [Sg] in
theorem shrI_eq (x : Int) (p : Nat) (hp : 0 < p) : shrI x p = x.fdiv (p : Int) := by
 obtain ⟨q, rfl⟩ : ∃ q, p = q + 1 := ⟨p - 1, by omega⟩
 cases x with
 | ofNat m =>
  show Int.ofNat (m / (q + 1)) = (Int.ofNat m).fdiv (Int.ofNat (q + 1))
  cases m with
  | zero => simp [Int.fdiv]
  | succ m => rfl
 | negSucc m => rfl
omit [Sg] in
theorem minB (n b : Nat) : ifB (Nat.ble n b) n b = min n b := by
 rw [ifB_eq]
 simp only [Nat.ble_eq]
 split <;> omega
omit [Sg] in
theorem intOp_ok {P : Program} {w : World} {op : BinOp} {t : TypeId} {k k' : IntKind} {x y : Int} {v : Value} (h : intOp op k x k' y = some v) :
  (Go.binOp op t (.int k x) (.int k' y)).run P w = .ok v w := by
 have hs : ∀ (f : IntKind -> Int -> Int -> Option Value), intFn op = .same f -> k = k' /\ f k x y = some v := by
  intro f hf
  unfold intOp at h
  rw [hf] at h
  have h' : chk (Nat.beq (kn k) (kn k')) (f k x y) = some v := h
  rw [chk_eq] at h'
  exact ⟨kn_eq h'.1, h'.2⟩
 have hsh : ∀ (f : IntKind -> Int -> Int -> Option Value), intFn op = .shift f -> f k x y = some v := by
  intro f hf
  unfold intOp at h
  rw [hf] at h
  exact h
 have bit : ∀ (q : Nat), q < 2 ^ k.bits -> (pure (Value.int k (k.wrap (q : Int))) : Sem Value).run P w = .ok (.int k (ofUns k q)) w := by
  intro q hq; rw [ofUns_nat k hq]; rfl
 cases op with
 | add => obtain ⟨rfl, h2⟩ := hs iAdd rfl; simp only [iAdd, wInt_eq, Option.some.injEq] at h2; subst h2; simp [Go.binOp, Op.intArith]
 | sub => obtain ⟨rfl, h2⟩ := hs iSub rfl; simp only [iSub, wInt_eq, Option.some.injEq] at h2; subst h2; simp [Go.binOp, Op.intArith]; rfl
 | mul => obtain ⟨rfl, h2⟩ := hs iMul rfl; simp only [iMul, wInt_eq, Option.some.injEq] at h2; subst h2; simp [Go.binOp, Op.intArith]
 | quo =>
  obtain ⟨rfl, h2⟩ := hs iQuo rfl
  simp only [iQuo, wInt_eq, ifB_eq, eqI_eq, beq_iff_eq] at h2
  split at h2
  ·
   cases h2
  ·
   rename_i hy; cases h2; simp [Go.binOp, Op.intDiv, hy]
 | rem =>
  obtain ⟨rfl, h2⟩ := hs iRem rfl
  simp only [iRem, mkInt_eq, ifB_eq, eqI_eq, beq_iff_eq] at h2
  split at h2
  ·
   cases h2
  ·
   rename_i hy; cases h2; simp [Go.binOp, Op.intDiv, hy]
 | and =>
  obtain ⟨rfl, h2⟩ := hs iAnd rfl; simp only [iAnd, mkInt_eq, Option.some.injEq] at h2; subst h2
  have := bit ((BitVec.ofInt k.bits x &&& BitVec.ofInt k.bits y).toNat) (BitVec.isLt _)
  rw [BitVec.toNat_and, uns_bv, uns_bv] at this
  simp only [Go.binOp, Op.intBits, ne_eq, not_true_eq_false, if_false, BitVec.toNat_and, uns_bv]
  exact this
 | or =>
  obtain ⟨rfl, h2⟩ := hs iOr rfl; simp only [iOr, mkInt_eq, Option.some.injEq] at h2; subst h2
  have := bit ((BitVec.ofInt k.bits x ||| BitVec.ofInt k.bits y).toNat) (BitVec.isLt _)
  rw [BitVec.toNat_or, uns_bv, uns_bv] at this
  simp only [Go.binOp, Op.intBits, ne_eq, not_true_eq_false, if_false, BitVec.toNat_or, uns_bv]
  exact this
 | xor =>
  obtain ⟨rfl, h2⟩ := hs iXor rfl; simp only [iXor, mkInt_eq, Option.some.injEq] at h2; subst h2
  have := bit ((BitVec.ofInt k.bits x ^^^ BitVec.ofInt k.bits y).toNat) (BitVec.isLt _)
  rw [BitVec.toNat_xor, uns_bv, uns_bv] at this
  simp only [Go.binOp, Op.intBits, ne_eq, not_true_eq_false, if_false, BitVec.toNat_xor, uns_bv]
  exact this
 | andNot => obtain ⟨rfl, h2⟩ := hs iNo rfl; cases k <;> cases h2
 | eql => obtain ⟨rfl, h2⟩ := hs iEql rfl; simp only [iEql, mkBool_eq, eqI_eq, Option.some.injEq] at h2; subst h2; simp [Go.binOp, Op.intCmp]
 | neq => obtain ⟨rfl, h2⟩ := hs iNeq rfl; simp only [iNeq, mkBool_eq, eqI_eq, Option.some.injEq] at h2; subst h2; simp [Go.binOp, Op.intCmp]; rfl
 | lss => obtain ⟨rfl, h2⟩ := hs iLss rfl; simp only [iLss, mkBool_eq, ltI_eq, Option.some.injEq] at h2; subst h2; simp [Go.binOp, Op.intCmp]
 | leq => obtain ⟨rfl, h2⟩ := hs iLeq rfl; simp only [iLeq, mkBool_eq, ltI_eq, Option.some.injEq] at h2; subst h2; simp only [Go.binOp, Op.intCmp, ne_eq, not_true_eq_false, if_false, Sem.run_pure]; by_cases hh : y < x <;> simp [hh] <;> omega
 | gtr => obtain ⟨rfl, h2⟩ := hs iGtr rfl; simp only [iGtr, mkBool_eq, ltI_eq, Option.some.injEq] at h2; subst h2; simp [Go.binOp, Op.intCmp]
 | geq => obtain ⟨rfl, h2⟩ := hs iGeq rfl; simp only [iGeq, mkBool_eq, ltI_eq, Option.some.injEq] at h2; subst h2; simp only [Go.binOp, Op.intCmp, ne_eq, not_true_eq_false, if_false, Sem.run_pure]; by_cases hh : x < y <;> simp [hh] <;> omega
 | shl =>
  have h := hsh iShl rfl
  cases y with
  | negSucc n => cases h
  | ofNat n =>
   have h' : wInt k (Int.mul x (.ofNat (Nat.pow 2 (ifB (Nat.ble n (kbits k)) n (kbits k))))) = some v := h
   rw [wInt_eq, minB] at h'
   cases h'
   have hn : ¬ Int.ofNat n < 0 := by simp
   have e : kbits k = k.bits := by cases k <;> rfl
   simp only [Go.binOp, Op.shift, hn, if_false, e]
   simp only [Sem.run_pure]
   congr 3
 | shr =>
  have h := hsh iShr rfl
  cases y with
  | negSucc n => cases h
  | ofNat n =>
   have h' : mkInt k (shrI x (Nat.pow 2 (ifB (Nat.ble n (kbits k)) n (kbits k)))) = some v := h
   rw [mkInt_eq, minB] at h'
   cases h'
   have hn : ¬ Int.ofNat n < 0 := by simp
   have e : kbits k = k.bits := by cases k <;> rfl
   simp only [Go.binOp, Op.shift, hn, if_false, e]
   simp only [Sem.run_pure]
   show _ = Result.ok (Value.int k (shrI x (2 ^ min n k.bits))) w
   rw [shrI_eq _ (2 ^ min n k.bits) (Nat.pow_pos (by decide))]
   congr 3
omit [Sg] in
theorem strOp_ok {P : Program} {w : World} {op : BinOp} {t : TypeId} {x y : ByteArray} {v : Value} (h : strFn op x.data.toList y.data.toList = some v) :
  (Go.binOp op t (.string x) (.string y)).run P w = .ok v w := by
 have hb : Go.binOp op t (.string x) (.string y) = Op.stringOp op x y := by cases op <;> rfl
 rw [hb]
 cases op with
 | add =>
  have h' : sAdd x.data.toList y.data.toList = some v := h
  unfold sAdd at h'
  rw [chk_eq] at h'
  obtain ⟨hn, e⟩ := h'
  cases e
  simp only [lenL_eq, Nat.add_eq, Nat.ble_eq, Array.length_toList] at hn
  have h1 : x.size = x.data.size := rfl
  have h2 : y.size = y.data.size := rfl
  have : ¬ ((x.size + y.size : Nat) : Int) > IntKind.i64.max := by rw [IntKind.max_i64]; omega
  simp only [Op.stringOp, this, if_false, Sem.run_pure, appL_eq, append_mk, str]
 | eql => have h' : mkBool (same x.data.toList y.data.toList) = some v := h; rw [mkBool_eq, same_eq] at h'; cases h'; simp [Op.stringOp, toList_data]
 | neq => have h' : mkBool (!(same x.data.toList y.data.toList)) = some v := h; rw [mkBool_eq, same_eq] at h'; cases h'; simp [Op.stringOp, toList_data]
 | lss => have h' : mkBool (less x.data.toList y.data.toList) = some v := h; rw [mkBool_eq, less_eq] at h'; cases h'; simp [Op.stringOp, toList_data]
 | leq =>
  have h' : mkBool (!(less y.data.toList x.data.toList)) = some v := h
  rw [mkBool_eq, less_eq, less_total] at h'; cases h'; simp [Op.stringOp, toList_data]
 | gtr =>
  have h' : mkBool (less y.data.toList x.data.toList) = some v := h
  rw [mkBool_eq, less_eq, less_total] at h'; cases h'; simp [Op.stringOp, toList_data]
 | geq => have h' : mkBool (!(less x.data.toList y.data.toList)) = some v := h; rw [mkBool_eq, less_eq] at h'; cases h'; simp [Op.stringOp, toList_data]
 | _ => cases h
section
variable {P : Program} {w : World} {t : TypeId} (D : Nat)
omit [Sg] in
theorem eqIn_ptrL {e : TypeId} (h : P.underlying t = some (.pointer e)) (b : Option Addr) : (Op.equalIn (D + 1) t (.pointer none) (.pointer b)).run P w = .ok b.isNone w := by
 simp only [Op.equalIn, Sem.run_bind, run_underlying h, Result.andThen_ok, Sem.run_pure]
omit [Sg] in
theorem eqIn_ptrR {e : TypeId} (h : P.underlying t = some (.pointer e)) (a : Addr) : (Op.equalIn (D + 1) t (.pointer (some a)) (.pointer none)).run P w = .ok false w := by
 simp only [Op.equalIn, Sem.run_bind, run_underlying h, Result.andThen_ok, Sem.run_pure]
omit [Sg] in
theorem eqIn_sliceL {e : TypeId} (h : P.underlying t = some (.slice e)) (b : Option Addr) (n c n' c' : Nat) : (Op.equalIn (D + 1) t (.slice none n c) (.slice b n' c')).run P w = .ok b.isNone w := by
 simp only [Op.equalIn, Sem.run_bind, run_underlying h, Result.andThen_ok, Sem.run_pure]
omit [Sg] in
theorem eqIn_sliceR {e : TypeId} (h : P.underlying t = some (.slice e)) (a : Addr) (n c n' c' : Nat) : (Op.equalIn (D + 1) t (.slice (some a) n c) (.slice none n' c')).run P w = .ok false w := by
 simp only [Op.equalIn, Sem.run_bind, run_underlying h, Result.andThen_ok, Sem.run_pure]
omit [Sg] in
theorem eqIn_mapL {k e : TypeId} (h : P.underlying t = some (.map k e)) (b : Option Nat) : (Op.equalIn (D + 1) t (.map none) (.map b)).run P w = .ok b.isNone w := by
 simp only [Op.equalIn, Sem.run_bind, run_underlying h, Result.andThen_ok, Sem.run_pure]
omit [Sg] in
theorem eqIn_mapR {k e : TypeId} (h : P.underlying t = some (.map k e)) (r : Nat) : (Op.equalIn (D + 1) t (.map (some r)) (.map none)).run P w = .ok false w := by
 simp only [Op.equalIn, Sem.run_bind, run_underlying h, Result.andThen_ok, Sem.run_pure]
omit [Sg] in
theorem eqIn_ifL {ms : Array (String × TypeId)} (h : P.underlying t = some (.interface ms)) (d : TypeId) (v : Value) : (Op.equalIn (D + 1) t .nilIface (.iface d v)).run P w = .ok false w := by
 simp only [Op.equalIn, Sem.run_bind, run_underlying h, Result.andThen_ok, Sem.run_pure]
omit [Sg] in
theorem eqIn_ifR {ms : Array (String × TypeId)} (h : P.underlying t = some (.interface ms)) (d : TypeId) (v : Value) : (Op.equalIn (D + 1) t (.iface d v) .nilIface).run P w = .ok false w := by
 simp only [Op.equalIn, Sem.run_bind, run_underlying h, Result.andThen_ok, Sem.run_pure]
omit [Sg] in
theorem eqIn_fnB {ps rs : Array TypeId} {vr : Bool} (h : P.underlying t = some (.func ps rs vr)) : (Op.equalIn (D + 1) t .nilFunc .nilFunc).run P w = .ok true w := by
 simp only [Op.equalIn, Sem.run_bind, run_underlying h, Result.andThen_ok, Sem.run_pure]
omit [Sg] in
theorem eqIn_fnL {ps rs : Array TypeId} {vr : Bool} (h : P.underlying t = some (.func ps rs vr)) (f : Fn) (a b : Array Value) : (Op.equalIn (D + 1) t .nilFunc (.func f a b)).run P w = .ok false w := by
 simp only [Op.equalIn, Sem.run_bind, run_underlying h, Result.andThen_ok, Sem.run_pure]
omit [Sg] in
theorem eqIn_fnR {ps rs : Array TypeId} {vr : Bool} (h : P.underlying t = some (.func ps rs vr)) (f : Fn) (a b : Array Value) : (Op.equalIn (D + 1) t (.func f a b) .nilFunc).run P w = .ok false w := by
 simp only [Op.equalIn, Sem.run_bind, run_underlying h, Result.andThen_ok, Sem.run_pure]
end
section
variable {P : Program} {ρ : Map} {w : World} {env : Env} (hE : EnvOk P env)
include hE
theorem part_ok' {xs xs' : List Value} {t : TypeId} {off : Nat} {v : Value} (hx : VL ρ xs xs') (h1 : ∀ x ∈ xs', x.oneCell' = true) (h : partOf env xs t off = some v) :
  ∃ v', (part t ⟨xs'⟩ off).run P w = .ok v' w /\ V ρ v v' := by
 unfold partOf at h
 simp only [bnd_eq] at h
 obtain ⟨s, hs, l, hl, h⟩ := h
 rw [takeN_eq, dropL_eq] at hl
 obtain ⟨hn, rfl⟩ := hl
 obtain ⟨d, hd, hagg, hsz⟩ := shape_inv hs
 have hVL := (hx.drop off).take s.2
 rcases toVal_ok hVL (fun x hm => h1 x (List.mem_of_mem_drop (List.mem_of_mem_take hm))) h with ⟨ha, hV⟩ | ⟨ha, y, hy, hV⟩
 ·
  refine ⟨_, ?_, hV⟩
  simp only [part, Sem.run_bind, run_isAgg hE hd, Result.andThen_ok, hagg, ha, if_true, run_size hE hsz, Sem.run_pure]
  congr 2
  apply Array.ext'
  simp [List.extract_eq_take_drop]
 ·
  refine ⟨y, ?_, hV⟩
  have : xs'[off]? = some y := by
   have e : ((xs'.drop off).take s.2)[0]? = some y := by rw [hy]; rfl
   rw [List.getElem?_take] at e
   split at e
   ·
    simpa using e
   ·
    cases e
  simp [part, run_isAgg hE hd, hagg, ha, this]
theorem part_ok {xs xs' : List Value} {f : Field} {v : Value} (hx : VL ρ xs xs') (h1 : ∀ x ∈ xs', x.oneCell' = true) (h : fieldOf env xs f = some v) :
  ∃ v', (part f.type ⟨xs'⟩ f.offset).run P w = .ok v' w /\ V ρ v v' := part_ok' hE hx h1 h
theorem equalIn_ok : ∀ (n : Nat) (t : TypeId) (x y x' y' : Value) (b : Bool), equalIn env n t x y = some b -> V ρ x x' -> V ρ y y' -> ∀ D, n <= D -> (Op.equalIn D t x' y').run P w = .ok b w
 | 0, _, _, _, _, _, _, h, _, _, _, _ => by cases h
 | n + 1, t, x, y, x', y', b, h, hx, hy, D, hD => by
  obtain ⟨D, rfl⟩ : ∃ m, D = m + 1 := ⟨D - 1, by omega⟩
  have ih := equalIn_ok n
  have h' : bnd (env.und t) (fun d => eqOf env (equalIn env n) t d x y) = some b := h
  rw [bnd_eq] at h'
  obtain ⟨d, hd, h'⟩ := h'
  have hu := fun w => run_und hE hd w
  have hun := hE.und t _ hd
  unfold eqOf at h'
  split at h'
  ·
   cases hx; cases hy; cases h'
   rename_i p q
   simp only [Op.equalIn, Sem.run_bind, hu, Result.andThen_ok, Sem.run_pure, ifB_eq]
   cases p <;> cases q <;> rfl
  ·
   cases hx; cases hy
   rw [chk_eq, eqI_eq] at h'
   obtain ⟨hk, e⟩ := h'
   have := kn_eq hk; subst this
   cases e
   simp only [Op.equalIn, Sem.run_bind, hu, Result.andThen_ok, Sem.run_pure, if_true]
  ·
   cases hx; cases hy; cases h'
   simp only [Op.equalIn, Sem.run_bind, hu, Result.andThen_ok, Sem.run_pure, same_eq]
   rw [beq_toListBytes, toList_data, toList_data]
  ·
   cases hx
   cases h'
   cases hy <;> exact eqIn_ptrL D hun _
  ·
   cases hy
   cases h'
   cases hx with
   | nilPtr => rename_i hne; exact (hne rfl).elim
   | ptr hp => exact eqIn_ptrR D hun _
  ·
   rename_i e a c
   simp only [bnd_eq, chk_eq] at h'
   obtain ⟨i, hi, hsa, e'⟩ := h'
   cases e'
   unfold sameAd at hsa
   simp only [Bool.and_eq_true, noSpot_eq] at hsa
   obtain ⟨⟨⟨h1, h2⟩, h3⟩, h4⟩ := hsa
   have hac : a = c := by
    obtain ⟨ab, ao, as⟩ := a
    obtain ⟨cb, co, cs⟩ := c
    dsimp only at h1 h2 h3 h4
    rw [Nat.eq_of_beq_eq_true h1, Nat.eq_of_beq_eq_true h2, h3, h4]
   subst hac
   obtain ⟨a1, rfl, hA1⟩ := hx.ptrInv
   obtain ⟨a2, rfl, hA2⟩ := hy.ptrInv
   obtain ⟨e1, g1, _, rfl⟩ := hA1
   obtain ⟨e2, g2, _, rfl⟩ := hA2
   rw [g1] at g2; cases g2
   simp [Op.equalIn, run_underlying hun, sizeOf, typeInfo, hE.info _ _ hi, run_sameAddr_same]
  ·
   cases hx
   cases h'
   cases hy <;> exact eqIn_sliceL D hun _ _ _ _ _
  ·
   cases hy
   cases h'
   cases hx <;> first | (rename_i hne; exact (hne rfl).elim) | exact eqIn_sliceR D hun _ _ _ _ _
  ·
   cases hx
   cases h'
   cases hy <;> exact eqIn_mapL D hun _
  ·
   cases hy
   cases h'
   cases hx <;> first | (rename_i hne; exact (hne rfl).elim) | exact eqIn_mapR D hun _
  ·
   cases hx; cases hy; cases h'; exact eqIn_ifL D hun _ _
  ·
   cases hx; cases hy; cases h'; exact eqIn_ifR D hun _ _
  ·
   cases hx; cases hy; cases h'; exact eqIn_fnB D hun
  ·
   cases hx; cases hy; cases h'; exact eqIn_fnL D hun _ _ _
  ·
   cases hx; cases hy; cases h'; exact eqIn_fnR D hun _ _ _
  ·
   rename_i fields xs ys
   rw [chk_eq] at h'
   obtain ⟨hok, h'⟩ := h'
   cases hx with
   | agg hxs h1 =>
    cases hy with
    | agg hys h2 =>
     have hf : P.fieldsOf t = fields := by simp [Program.fieldsOf, hun]
     rw [run_equalIn_struct w D t _ _ (by rw [hf]; exact hun) (hE.eqok t hok).2, hf]
     generalize fields.toList = fs at h'
     clear hf hun hd hu h hok
     induction fs generalizing b with
     | nil => cases h'; rfl
     | cons f fs ihf =>
      have h'' : chk (f.name != "_") (bnd (fieldOf env _ f) fun x => bnd (fieldOf env _ f) fun y => bnd (equalIn env n f.type x y) fun b => ifB b (fieldsEq env (equalIn env n) _ _ fs) (some false)) = some b := h'
      simp only [chk_eq, bnd_eq] at h''
      obtain ⟨hne, p, hp, q, hq, c, hc, h''⟩ := h''
      obtain ⟨p', hp', hVp⟩ := part_ok hE (w := w) hxs h1 hp
      obtain ⟨q', hq', hVq⟩ := part_ok hE (w := w) hys h2 hq
      have hrun := ih f.type p q p' q' c hc hVp hVq D (by omega)
      have hne' : f.name ≠ "_" := by simpa using hne
      simp only [Op.eqFields, hne', ne_eq, not_false_eq_true, if_true, Sem.run_bind, hp', hq', hrun, Result.andThen_ok]
      cases c
      ·
       simp only [ifB_false] at h''; cases h''; simp
      ·
       simp only [ifB_true] at h''
       simp only [Bool.not_true, Bool.false_eq_true, if_false]
       exact ihf b h''
  ·
   cases h'
end
end Go.Ev
namespace Go.Ev
open Go.RowKit
variable [Sg]
def pairOf0 : Value -> Value -> Pair
  | .int k x, .int k' y => .ints k x k' y
  | .string x, .string y => .strs x.data.toList y.data.toList
  | _, _ => .other
omit [Sg] in
theorem pairOf_eq (v w : Value) : pairOf v w = pairOf0 v w := by cases v <;> cases w <;> rfl
def byteOf0 : Value -> Option UInt8
  | .int .u8 n => some (UInt8.ofNat n.toNat)
  | _ => none
omit [Sg] in
theorem byteOf_eq (v : Value) : byteOf v = byteOf0 v := by
  cases v with
  | int k n => cases k <;> rfl
  | _ => rfl
omit [Sg] in
theorem vEql_inv {env : Env} {t : TypeId} {x y v : Value} (h : vEql env t x y = some v) : ∃ b, equalIn env 20 t x y = some b /\ v = .bool b := by
  unfold vEql at h
  rw [bnd_eq] at h
  obtain ⟨b, hb, e⟩ := h
  rw [mkBool_eq] at e
  exact ⟨b, hb, (Option.some.inj e).symm⟩
omit [Sg] in
theorem vNeq_inv {env : Env} {t : TypeId} {x y v : Value} (h : vNeq env t x y = some v) : ∃ b, equalIn env 20 t x y = some b /\ v = .bool (!b) := by
  unfold vNeq at h
  rw [bnd_eq] at h
  obtain ⟨b, hb, e⟩ := h
  rw [mkBool_eq] at e
  exact ⟨b, hb, (Option.some.inj e).symm⟩
inductive EqShape : Value -> Value -> Prop
  | bools (a b : Bool) : EqShape (.bool a) (.bool b)
  | ptrs (a b : Option Addr) : EqShape (.pointer a) (.pointer b)
  | slices (a b : Option Addr) (n c n' c' : Nat) : EqShape (.slice a n c) (.slice b n' c')
  | maps (a b : Option Nat) : EqShape (.map a) (.map b)
  | nilIface (t : TypeId) (v : Value) : EqShape .nilIface (.iface t v)
  | ifaceNil (t : TypeId) (v : Value) : EqShape (.iface t v) .nilIface
  | nilNil : EqShape .nilFunc .nilFunc
  | nilFunc (f : Fn) (a b : Array Value) : EqShape .nilFunc (.func f a b)
  | funcNil (f : Fn) (a b : Array Value) : EqShape (.func f a b) .nilFunc
  | aggs (a b : Array Value) : EqShape (.agg a) (.agg b)
omit [Sg] in
theorem eqShape_of {env : Env} {n : Nat} {t : TypeId} {x y : Value} {b : Bool} (h : equalIn env (n + 1) t x y = some b) (hp : pairOf x y = .other) :
    EqShape x y /\ ((∃ a c, x = .agg a /\ y = .agg c) -> env.eqok t = true) := by
  have h' : bnd (env.und t) (fun d => eqOf env (equalIn env n) t d x y) = some b := h
  rw [bnd_eq] at h'
  obtain ⟨d, hd, h'⟩ := h'
  unfold eqOf at h'
  split at h'
  case h_16 => rw [chk_eq] at h'; exact ⟨.aggs _ _, fun _ => h'.1⟩
  case h_17 => cases h'
  case h_2 => simp [pairOf, pairI] at hp
  case h_3 => simp [pairOf, pairS'] at hp
  all_goals (refine ⟨?_, fun ⟨_, _, h1, h2⟩ => by first | cases h1 | cases h2⟩; constructor)
omit [Sg] in
theorem intOp_kind {op : BinOp} {k k' : IntKind} {x y : Int} {v : Value} (h : intOp op k x k' y = some v) : (∃ k n, v = .int k n) \/ (∃ b, v = .bool b) := by
  have hs : ∀ (f : IntKind -> Int -> Int -> Option Value), intFn op = .same f -> f k x y = some v := by
    intro f hf
    unfold intOp at h
    rw [hf] at h
    have h' : chk (Nat.beq (kn k) (kn k')) (f k x y) = some v := h
    rw [chk_eq] at h'
    exact h'.2
  have hsh : ∀ (f : IntKind -> Int -> Int -> Option Value), intFn op = .shift f -> f k x y = some v := by
    intro f hf
    unfold intOp at h
    rw [hf] at h
    exact h
  have hw : ∀ n, wInt k n = some v -> (∃ k n, v = .int k n) \/ (∃ b, v = .bool b) := fun n e => by rw [wInt_eq] at e; cases e; exact .inl ⟨_, _, rfl⟩
  have hm : ∀ n, mkInt k n = some v -> (∃ k n, v = .int k n) \/ (∃ b, v = .bool b) := fun n e => by rw [mkInt_eq] at e; cases e; exact .inl ⟨_, _, rfl⟩
  have hb : ∀ n, mkBool n = some v -> (∃ k n, v = .int k n) \/ (∃ b, v = .bool b) := fun n e => by rw [mkBool_eq] at e; cases e; exact .inr ⟨_, rfl⟩
  cases op with
  | add => exact hw _ (hs iAdd rfl)
  | sub => exact hw _ (hs iSub rfl)
  | mul => exact hw _ (hs iMul rfl)
  | quo => have e := hs iQuo rfl; simp only [iQuo, ifB_eq] at e; split at e; · cases e
           . exact hw _ e
  | rem => have e := hs iRem rfl; simp only [iRem, ifB_eq] at e; split at e; · cases e
           . exact hm _ e
  | and => exact hm _ (hs iAnd rfl)
  | or => exact hm _ (hs iOr rfl)
  | xor => exact hm _ (hs iXor rfl)
  | andNot => have e : none = some v := hs iNo rfl; cases e
  | eql => exact hb _ (hs iEql rfl)
  | neq => exact hb _ (hs iNeq rfl)
  | lss => exact hb _ (hs iLss rfl)
  | leq => exact hb _ (hs iLeq rfl)
  | gtr => exact hb _ (hs iGtr rfl)
  | geq => exact hb _ (hs iGeq rfl)
  | shl => cases y with
    | ofNat n => exact hw _ (hsh iShl rfl)
    | negSucc n => have e : none = some v := hsh iShl rfl; cases e
  | shr => cases y with
    | ofNat n => exact hm _ (hsh iShr rfl)
    | negSucc n => have e : none = some v := hsh iShr rfl; cases e
section
variable {P : Program} {S : Nat -> Prop} {ρ : Map} {H : Heap} {w : World} {o : Oper} {a : Act}
variable {env : Env} (hE : EnvOk P env)
include hE
theorem eqRun_ok {op : BinOp} (hop : op = .eql \/ op = .neq) {t : TypeId} {x y x' y' : Value} {b : Bool} (h : equalIn env 20 t x y = some b) (hp : pairOf x y = .other) (hx : V ρ x x') (hy : V ρ y y') (ox oy : Operand) :
    (do eqGuard op t ox oy x' y'; Go.binOp op t x' y' : Sem Value).run P w = .ok (.bool (if op = .eql then b else !b)) w := by
  obtain ⟨hsh, hagg⟩ := eqShape_of h hp
  have hrun := equalIn_ok hE (w := w) 20 t x y x' y' b h hx hy Op.maxDepth (by decide)
  have hb : ∀ z z' : Value, EqShape z z' -> ∀ u u', V ρ z u -> V ρ z' u' -> Go.binOp .eql t u u' = (do pure (.bool (<- Op.equal t u u'))) /\ Go.binOp .neq t u u' = (do pure (.bool (!(<- Op.equal t u u')))) := by
    intro z z' hz u u' hu hu'
    cases hz <;> cases hu <;> cases hu' <;> exact ⟨rfl, rfl⟩
  obtain ⟨h1, h2⟩ := hb x y hsh x' y' hx hy
  have hg : (eqGuard op t ox oy x' y').run P w = .ok () w := by
    cases hsh with
    | aggs p q =>
      have := (hE.eqok t (hagg ⟨_, _, rfl, rfl⟩)).1
      cases hx; cases hy
      rcases hop with rfl | rfl <;> simp [eqGuard, this]
    | bools => cases hx; rw [eqGuard_at_bool]; rfl
    | ptrs => cases hx <;> (rw [eqGuard_at_pointer]; rfl)
    | slices => cases hx <;> (rw [eqGuard_at_slice]; rfl)
    | maps => cases hx <;> (rw [eqGuard_at_map]; rfl)
    | nilIface => cases hx; cases hy; rw [eqGuard_nil_iface]; rfl
    | ifaceNil => cases hx; rw [eqGuard_at_iface]; rfl
    | nilNil => cases hx; rw [eqGuard_at_nilFunc]; rfl
    | nilFunc => cases hx; rw [eqGuard_at_nilFunc]; rfl
    | funcNil => cases hx; rw [eqGuard_at_func]; rfl
  rw [Sem.run_bind, hg, Result.andThen_ok]
  rcases hop with rfl | rfl
  . rw [h1]; simp [Op.equal, hrun]
  . rw [h2]; simp [Op.equal, hrun]
variable {call : Call} {id : Nat} {tm : Tm} {v : Value} {H' : Heap}
variable (hH : HR P ρ H w) (hT : TR ρ tm a.tmps)
include hH hT
theorem ok_bin {op : BinOp} {t t' : TypeId} {x y : Operand} (ho : o.op = .binOp op t x y t') (h : oBin op t x y t' env call id tm H = some (v, H')) : Does P o a w (Post P S ρ H w v H') := by
  unfold oBin retO at h
  simp only [bnd_eq] at h
  obtain ⟨u, hu, u2, hu2, q, hq, e⟩ := h
  cases e
  have hV := eval_ok hT hu
  have hV2 := eval_ok hT hu2
  unfold binOp at hq
  have pure_of : ∀ {q' : Value}, (do eqGuard op t x y (a.eval x) (a.eval y); Go.binOp op t (a.eval x) (a.eval y) : Sem Value).run P w = .ok q' w -> V ρ v q' -> Does P o a w (Post P S ρ H w v H) := by
    intro q' hrun hqV
    refine does_pure hH (v' := q') ?_ hqV
    simp only [execOp, ho]
    exact run_v hrun
  generalize hpo : pairOf u u2 = pr at hq
  have scalar : ∀ q, ((∃ k n, q = Value.int k n) \/ (∃ b, q = Value.bool b) \/ (∃ s, q = Value.string s)) -> V ρ q q := by
    rintro q (⟨k, n, rfl⟩ | ⟨b, rfl⟩ | ⟨s, rfl⟩)
    . exact .int k n
    . exact .bool b
    . exact .string s
  cases pr with
  | ints k p k' p' =>
    have hq' : intOp op k p k' p' = some v := hq
    have : u = .int k p /\ u2 = .int k' p' := by
      rw [pairOf_eq] at hpo; unfold pairOf0 at hpo
      split at hpo <;> first | (cases hpo; exact ⟨rfl, rfl⟩) | cases hpo
    obtain ⟨rfl, rfl⟩ := this
    rw [hV.int_inv, hV2.int_inv] at pure_of
    refine pure_of (q' := v) ?_ (scalar v ?_)
    . rw [eqGuard_at_int]
      simpa using intOp_ok hq'
    . rcases intOp_kind hq' with h | h
      . exact .inl h
      . exact .inr (.inl h)
  | strs p p' =>
    have hq' : strFn op p p' = some v := hq
    have : ∃ s s', u = .string s /\ u2 = .string s' /\ p = s.data.toList /\ p' = s'.data.toList := by
      rw [pairOf_eq] at hpo; unfold pairOf0 at hpo
      split at hpo <;> first | (cases hpo; exact ⟨_, _, rfl, rfl, rfl, rfl⟩) | cases hpo
    obtain ⟨s, s', rfl, rfl, rfl, rfl⟩ := this
    rw [hV.string_inv, hV2.string_inv] at pure_of
    refine pure_of (q' := v) ?_ (scalar v ?_)
    . rw [eqGuard_at_string]
      simpa using strOp_ok hq'
    . cases op <;> simp only [strFn] at hq'
      all_goals first
        | (unfold sAdd at hq'; rw [chk_eq] at hq'; obtain ⟨_, e⟩ := hq'; cases e; exact .inr (.inr ⟨_, rfl⟩))
        | (simp only [sEql, sNeq, sLss, sLeq, sGtr, sGeq, mkBool_eq, Option.some.injEq] at hq'; subst hq'; exact .inr (.inl ⟨_, rfl⟩))
        | cases hq'
  | other =>
    have hq0 : orO (valFn op env t u u2) (env.symBin op u u2) = some v := hq
    rcases orO_eq hq0 with hq' | ⟨_, hs⟩
    rotate_left
    . obtain ⟨v', hv', hrun⟩ := hE.symBin op t u u2 v hs ρ _ _ w x y hV hV2
      exact pure_of hrun hv'
    cases op with
    | eql =>
      obtain ⟨b, hb, rfl⟩ := vEql_inv hq'
      exact pure_of (eqRun_ok hE (.inl rfl) hb hpo hV hV2 x y) (.bool b)
    | neq =>
      obtain ⟨b, hb, rfl⟩ := vNeq_inv hq'
      exact pure_of (eqRun_ok hE (.inr rfl) hb hpo hV hV2 x y) (.bool _)
    | _ => cases hq'
end
theorem asBytes_inv {ρ : Map} : ∀ {l l' : List Value} {bs : List UInt8}, asBytes l = some bs -> VL ρ l l' -> ∃ ns : List Int, l' = ns.map (Value.int .u8) /\ bs = ns.map fun n => UInt8.ofNat n.toNat
  | [], _, bs, h, .nil => by
    have e : some [] = some bs := h
    cases e; exact ⟨[], rfl, rfl⟩
  | x :: l, x' :: l', bs, h, .cons hx ht => by
    have h' : bnd (byteOf x) (fun b => bnd (asBytes l) fun bs => some (b :: bs)) = some bs := h
    simp only [bnd_eq] at h'
    obtain ⟨b, hb, r, hr, e⟩ := h'
    cases e
    obtain ⟨ns, rfl, rfl⟩ := asBytes_inv hr ht
    rw [byteOf_eq] at hb; unfold byteOf0 at hb
    split at hb
    . cases hb; rw [hx.int_inv]; exact ⟨_ :: ns, rfl, rfl⟩
    . cases hb
omit [Sg] in
theorem modify_push {α : Type} (A : Array α) (x : α) (f : α -> α) : (A.push x).modify A.size f = A.push (f x) := by
  apply Array.ext_getElem?
  intro i
  rw [Array.getElem?_modify, Array.getElem?_push, Array.getElem?_push]
  by_cases h : A.size = i
  . subst h; simp
  . have h' : ¬ i = A.size := fun k => h k.symm
    simp [h, h']
omit [Sg] in
theorem foldl_push (ns : List Int) : ∀ (s : ByteArray), ns.foldl (fun r n => r.push (UInt8.ofNat n.toNat)) s = ⟨⟨s.data.toList ++ ns.map fun n => UInt8.ofNat n.toNat⟩⟩ := by
  induction ns with
  | nil => intro s; simp
  | cons n ns ih =>
    intro s
    rw [List.foldl_cons, ih]
    congr 2
    simp [ByteArray.push]
section
variable {P : Program} {S : Nat -> Prop} {ρ : Map} {H : Heap} {w : World} {o : Oper} {a : Act}
variable {env : Env} (hE : EnvOk P env)
variable {call : Call} {id : Nat} {tm : Tm} {v : Value} {H' : Heap}
variable (hH : HR P ρ H w) (hid : ρ id = none) (hlt : id < H.next) (hS : S id) (hT : TR ρ tm a.tmps)
theorem VL.bytes : ∀ (s : List UInt8), VL ρ (s.map byteVal) (s.map byteVal)
  | [] => .nil
  | _ :: s => .cons (.int _ _) (VL.bytes s)
omit [Sg] in
theorem bytes_one (s : List UInt8) : ∀ x ∈ s.map byteVal, x.oneCell' = true := by
  intro x hx
  obtain ⟨b, _, rfl⟩ := List.mem_map.1 hx
  rfl
omit [Sg] in
theorem isU8_eq {d : TypeDesc} (h : isU8 d = true) : d = .int .u8 := by
  unfold isU8 at h
  split at h
  . rfl
  . cases h
omit [Sg] in
theorem slice_inv' {d : TypeDesc} {e : TypeId} (h : asSlice d = some e) : d = .slice e := by
  cases d with
  | slice x => simp [asSlice] at h; rw [h]
  | _ => simp [asSlice] at h
omit [Sg] in
theorem liesAt_row {e : TypeId} {count off n : Nat} (h0 : P.cellsOf e ≠ 0) (hm : off % P.cellsOf e = 0) (hn : off / P.cellsOf e + n <= count) : liesAt P P.depth e count off e n = true := by
  have hd : P.depth = (2 * (P.types.size + Made.depth) + 1) + 1 := rfl
  rw [hd]
  simp only [liesAt, Bool.or_eq_true]
  left
  rw [hd]
  simp [rowAt, h0, hm, hn, sameLayout]
include hE in
theorem size_inv {t : TypeId} {n : Nat} (h : env.size t = some n) : ∃ i, P.info? t = some i /\ i.size = n := by
  unfold Env.size at h
  rw [bnd_eq] at h
  obtain ⟨i, hi, e⟩ := h
  cases e
  exact ⟨i, hE.info _ _ hi, rfl⟩
include hE hH hid hlt hS hT in
theorem ok_convert {s d : TypeId} {x : Operand} (ho : o.op = .convert s d x) (h : oConvert s d x env call id tm H = some (v, H')) : Does P o a w (Post P S ρ H w v H') := by
  unfold oConvert convert at h
  simp only [bnd_eq] at h
  obtain ⟨u, hu, sd, hsd, dd, hdd, h⟩ := h
  have hV := eval_ok hT hu
  have hus := fun w => run_und hE hsd w
  have hud := fun w => run_und hE hdd w
  have hcs := orO_eq h
  clear h
  rcases hcs with h | ⟨hnone, h⟩
  rotate_left
  . clear hnone
    unfold convSym at h
    have fin : ∀ {v' : Value}, (Go.convert s d (a.eval x)).run P w = .ok v' w -> V ρ v v' -> H' = H -> Does P o a w (Post P S ρ H w v H') := by
      intro v' hrun hVv hHH
      subst hHH
      refine does_pure hH (v' := v') ?_ hVv
      simp only [execOp, ho]
      exact run_v hrun
    have pre : ∀ {dd' : TypeDesc}, dd = dd' -> retO (env.symConv dd' u) H = some (v, H') -> Does P o a w (Post P S ρ H w v H') := by
      intro dd' hd' hr
      subst hd'
      unfold retO at hr
      rw [bnd_eq] at hr
      obtain ⟨q, hq, e⟩ := hr
      cases e
      obtain ⟨v', hv', hrun⟩ := hE.symConv dd u v hq ρ _ w s d sd hV (hE.und _ _ hsd) (hE.und _ _ hdd)
      exact fin hrun hv' rfl
    split at h
    . exact pre rfl h
    . exact pre rfl h
    . rename_i q n c
      simp only [bnd_eq, chk_eq] at h
      obtain ⟨e, he, ed, hed, hu8, l, hl, h⟩ := h
      unfold retO at h
      rw [bnd_eq] at h
      obtain ⟨r, hr, e'⟩ := h
      cases e'
      have := slice_inv' he; subst this
      have := isU8_eq hu8; subst this
      have hue := fun w => run_und hE hed w
      generalize hg : a.eval x = g at hV
      have fin2 : ∀ (q' : Addr) (c' : Nat), AR ρ q q' -> g = .slice (some q') n c' -> Does P o a w (Post P S ρ H w v H) := by
        intro q' c' hAR hg'
        obtain ⟨l', hVL, h1, hlen, hc⟩ := hH.load hAR hl
        obtain ⟨ns, rfl, hv'⟩ := hE.symStr l v hr ρ l' hVL
        have hld := run_loadCells_of (P := P) hlen hc
        have hrr := run_bytesToString w q' n c' ns (by simpa using hld)
        rw [foldl_push] at hrr
        refine fin (v' := str (ns.map fun n => UInt8.ofNat n.toNat)) ?_ hv' rfl
        rw [hg, hg']
        simp only [Go.convert, Sem.run_bind, hus, hud, hue, Result.andThen_ok]
        exact hrr
      cases hV with
      | slice h0 hn hc => exact fin2 _ _ ⟨_, h0, rfl, rfl⟩ rfl
      | sliceU h0 hn hc => exact fin2 _ _ ⟨_, h0, rfl, rfl⟩ rfl
      | empty h0 hs =>
        have : l = [] := by
          unfold cellsAt at hl
          simp only [chk_eq, bnd_eq] at hl
          obtain ⟨_, _, _, _, _, hl⟩ := hl
          rw [takeN_eq] at hl
          simpa using hl.2
        subst this
        rename_i a'
        obtain ⟨ns, hns, hv'⟩ := hE.symStr [] v hr ρ [] .nil
        have : ns = [] := by
          cases ns with
          | nil => rfl
          | cons _ _ => cases hns
        subst this
        refine fin (v' := .string ⟨⟨[]⟩⟩) ?_ hv' rfl
        rw [hg]
        simp only [Go.convert, Sem.run_bind, hus, hud, hue, Result.andThen_ok]
        exact run_bytesToString (P := P) w a' 0 0 [] rfl
    . cases h
  unfold convTo at h
  split at h
  . -- an integer
    rename_i k k' n
    unfold retO at h
    rw [wInt_eq, bnd_some] at h
    cases h
    refine does_pure hH (v' := .int k (k.wrap n)) ?_ (.int _ _)
    simp only [execOp, ho, hV.int_inv]
    refine run_v ?_
    simp only [Go.convert, Sem.run_bind, hus, hud, Result.andThen_ok]
    rfl
  . rename_i q
    cases h
    refine does_pure hH (v' := .string q) ?_ (.string _)
    simp only [execOp, ho, hV.string_inv]
    refine run_v ?_
    simp only [Go.convert, Sem.run_bind, hus, hud, Result.andThen_ok]
    rfl
  . rename_i k n
    cases h
    refine does_pure hH (v' := .string (Utf8.encode n)) ?_ (.string _)
    simp only [execOp, ho, hV.int_inv]
    refine run_v ?_
    simp only [Go.convert, Sem.run_bind, hus, hud, Result.andThen_ok]
    rfl
  . rename_i e q
    unfold toBytes at h
    simp only [bnd_eq, chk_eq, Bool.and_eq_true, fN_eq] at h
    obtain ⟨ed, hed, i, hi, ⟨hu8, hsz⟩, e'⟩ := h
    have := isU8_eq hu8; subst this
    have hsz' : i.size = 1 := Nat.eq_of_beq_eq_true hsz
    simp only [Option.some.injEq, Prod.mk.injEq] at e'
    obtain ⟨rfl, rfl⟩ := e'
    have hue := fun w => run_und hE hed w
    let cap := Question.cut (.appendCap q.size 0 e) (w.tape w.drawn (.appendCap q.size 0 e))
    have hcap : q.size <= cap := by simp only [cap, Question.cut]; omega
    let C : Array Value := q.data.map byteVal ++ Array.replicate (cap - q.size) (.int .u8 0)
    have hqs : q.data.size = q.size := rfl
    have hCs : C.size = cap := by simp [C]; omega
    let W : World := ({ w with drawn := w.drawn + 1 } : World).alloc (.cells C e (cap, cap + 1))
    have hrun : (Go.convert s d (.string q)).run P w = .ok (.slice (some ⟨w.heap.size, 0, none⟩) q.size cap) W := by
      simp only [Go.convert, Sem.run_bind, hus, hud, hue, Result.andThen_ok, Conv.stringToBytes, run_choose, Question.forced, Bool.false_eq_true, if_false, newRow, run_newObj, Sem.run_pure, markStringish, run_shape]
      have hsh : (({ w with drawn := w.drawn + 1, heap := w.heap.push (.cells C e) } : World).shape? w.heap.size) = some (e, C.size) := by simp [World.shape?]
      have e1 : (q.data.map fun b => Value.int .u8 (b.toNat : Int)) ++ Array.replicate (Question.cut (.appendCap q.size 0 e) (w.tape w.drawn (.appendCap q.size 0 e)) - q.size) (Value.int .u8 0) = C := rfl
      simp only [e1, hsh, run_freeze, Result.andThen_ok]
      congr 1
      simp only [W, World.alloc, World.freeze, hCs]
      rw [modify_push]
      simp
    obtain ⟨hH', hSt⟩ := hH.row (S := S) hid hlt hS (cs := q.data.toList.map byteVal) (cs' := q.data.toList.map byteVal) (C := C) (elem := e) (fr := (cap, cap + 1)) (hE.info e i hi) (VL.bytes _) (bytes_one _)
      (by intro j hj; rw [hCs] at hj; omega) (by simp [C]) (w' := W) rfl rfl rfl (by simp [W]) (heap_alloc_new _ _) (fun k hk => Below.heap_alloc _ _ _ hk)
    refine does_val (v := .slice (some ⟨w.heap.size, 0, none⟩) q.size cap) (w' := W) ?_ ⟨ins ρ id ⟨w.heap.size, 0, (q.data.toList.map byteVal).length, C.size, i.size⟩, ?_, ?_, ?_⟩
    . simp only [execOp, ho, hV.string_inv]
      exact run_v hrun
    . have := V.sliceU (ρ := ins ρ id ⟨w.heap.size, 0, (q.data.toList.map byteVal).length, C.size, i.size⟩) (b := id) (o := 0) (n := q.size) (c := cap) (ins_same _ _ _) hcap (by simp [hsz', hCs])
      simpa [lenL_eq, hqs] using this
    . simpa [mapL_eq] using hH'
    . simpa [mapL_eq] using hSt
  . rename_i q n c
    simp only [bnd_eq] at h
    obtain ⟨e, he, h⟩ := h
    have := slice_inv' he; subst this
    unfold ofBytes at h
    simp only [bnd_eq, chk_eq] at h
    obtain ⟨ed, hed, hu8, h⟩ := h
    have := isU8_eq hu8; subst this
    have hue := fun w => run_und hE hed w
    have conv : ∀ (q' : Option Addr) (n' c' : Nat), a.eval x = .slice q' n' c' -> ∀ {r : Value}, (Conv.bytesToString (.slice q' n' c')).run P w = .ok r w -> V ρ v r -> H' = H -> Does P o a w (Post P S ρ H w v H') := by
      intro q' n' c' hq' r hr hVr hHH
      subst hHH
      refine does_pure hH (v' := r) ?_ hVr
      simp only [execOp, ho, hq']
      refine run_v ?_
      simp only [Go.convert, Sem.run_bind, hus, hud, hue, Result.andThen_ok]
      exact hr
    cases q with
    | none =>
      have h' : some (str [], H) = some (v, H') := h
      simp only [Option.some.injEq, Prod.mk.injEq] at h'
      obtain ⟨rfl, rfl⟩ := h'
      generalize hg : a.eval x = g at hV
      cases hV with
      | nilSlice => exact conv none 0 0 hg (r := .string .empty) rfl (.string _) rfl
    | some q =>
      have h' : bnd (cellsAt H q n) (fun l => bnd (asBytes l) fun l => some (str l, H)) = some (v, H') := h
      simp only [bnd_eq] at h'
      obtain ⟨l, hl, bs, hbs, e'⟩ := h'
      simp only [Option.some.injEq, Prod.mk.injEq] at e'
      obtain ⟨rfl, rfl⟩ := e'
      generalize hg : a.eval x = g at hV
      have fin : ∀ (q' : Addr) (c' : Nat), AR ρ q q' -> g = .slice (some q') n c' -> Does P o a w (Post P S ρ H w (str bs) H) := by
        intro q' c' hAR hg'
        obtain ⟨l', hVL, h1, hlen, hc⟩ := hH.load hAR hl
        obtain ⟨ns, rfl, rfl⟩ := asBytes_inv hbs hVL
        have hld := run_loadCells_of (P := P) hlen hc
        have hr := run_bytesToString w q' n c' ns (by simpa using hld)
        rw [foldl_push] at hr
        refine conv (some q') n c' (hg.trans hg') hr ?_ rfl
        exact .string _
      cases hV with
      | slice h0 hn hc => exact fin _ _ ⟨_, h0, rfl, rfl⟩ rfl
      | sliceU h0 hn hc => exact fin _ _ ⟨_, h0, rfl, rfl⟩ rfl
      | empty h0 hs =>
        have : l = [] := by
          unfold cellsAt at hl
          simp only [chk_eq, bnd_eq] at hl
          obtain ⟨_, _, _, _, _, hl⟩ := hl
          rw [takeN_eq] at hl
          simpa using hl.2
        subst this
        have e0 : some [] = some bs := hbs
        cases e0
        rename_i a'
        refine conv (some a') 0 0 hg (r := .string ⟨⟨[]⟩⟩) ?_ (.string _) rfl
        exact run_bytesToString (P := P) w a' 0 0 [] rfl
  . rename_i q
    simp only [bnd_eq] at h
    obtain ⟨t, ht, h⟩ := h
    have hsp : sd = .pointer t := by
      cases sd <;> first | (cases ht; done) | (cases ht; rfl)
    subst hsp
    cases q with
    | none => cases h
    | some q =>
      have h' : bnd (env.size t) (fun n => chk (!(Nat.beq n 0) && noSpot q) (bnd (H.get q.block) fun b => bnd (cellsOf b) fun c => chk (Nat.ble (Nat.succ q.off) (lenL c.1)) (some (.pointer (some q), H)))) = some (v, H') := h
      simp only [bnd_eq, chk_eq, Bool.and_eq_true] at h'
      obtain ⟨n, hn, ⟨hn0, _⟩, b, hb, c, hc, hlt, e'⟩ := h'
      cases e'
      obtain ⟨q', hq', hAR⟩ := hV.ptrInv
      obtain ⟨e, he, _, rfl⟩ := (show AR ρ q q' from hAR)
      obtain ⟨i, hi, hin⟩ := size_inv hE hn
      rw [cellsOf_eq] at hc
      subst hc
      have hbr := hH.blk _ _ _ hb he
      generalize hg : w.heap[e.B]? = g at hbr
      cases hbr with
      | cells hi' hk' hss hr hCs hf hv h1 hmodb =>
        rename_i C fr j
        have hlt' := Nat.le_of_ble_eq_true hlt
        rw [lenL_eq] at hlt'
        refine does_pure hH (v' := .pointer (some ⟨e.B, e.base + q.off, none⟩)) ?_ hAR.val
        simp only [execOp, ho, hq']
        refine run_v (Lib.run_to_unsafe w ⟨e.B, e.base + q.off, none⟩ (hE.und _ _ hsd) (hE.und _ _ hdd) hi (by rw [hin]; rintro rfl; simp at hn0) (e := c.2.1) (cells := C.size) (by simp [World.shape?, hg]) (by show e.base + q.off < C.size; omega))
  . rename_i u q
    rw [chk_eq] at h
    obtain ⟨hun, h⟩ := h
    have hsp : sd = .unsafePointer := by
      cases sd <;> first | (cases hun; done) | rfl
    subst hsp
    cases q with
    | none => cases h
    | some q =>
      have h' : bnd (env.size u) (fun n => chk (!(Nat.beq n 0) && noSpot q && Nat.beq (Nat.mod q.off n) 0) (bnd (H.get q.block) fun b => bnd (cellsOf b) fun c => chk (Nat.beq c.2.1 u && Nat.ble (Nat.add q.off n) (lenL c.1)) (some (.pointer (some q), H)))) = some (v, H') := h
      simp only [bnd_eq, chk_eq, Bool.and_eq_true] at h'
      obtain ⟨n, hn, ⟨⟨hn0, _⟩, hmod⟩, b, hb, c, hc, ⟨hcu, hle⟩, e'⟩ := h'
      cases e'
      obtain ⟨q', hq', hAR⟩ := hV.ptrInv
      obtain ⟨e, he, _, rfl⟩ := (show AR ρ q q' from hAR)
      obtain ⟨i, hi, hin⟩ := size_inv hE hn
      rw [cellsOf_eq] at hc
      subst hc
      have hbr := hH.blk _ _ _ hb he
      generalize hg : w.heap[e.B]? = g at hbr
      cases hbr with
      | cells hi' hk' hss hr hCs hf hv h1 hmodb =>
        rename_i C fr j
        have hle' := Nat.le_of_ble_eq_true hle
        rw [lenL_eq] at hle'
        have hmod' : q.off % n = 0 := Nat.eq_of_beq_eq_true hmod
        have hcu' : c.2.1 = u := Nat.eq_of_beq_eq_true hcu
        have hke : e.k = n := by
          rw [hcu', hi] at hi'
          cases hi'
          rw [<- hk', hin]
        have hnp : n ≠ 0 := by rintro rfl; simp at hn0
        have hcell : P.cellsOf u = n := by simp [Program.cellsOf, hi, hin]
        have hdvd : (e.base + q.off) % n = 0 := by rw [hke] at hmodb; rw [Nat.add_mod, hmodb, hmod', Nat.zero_add, Nat.zero_mod]
        refine does_pure hH (v' := .pointer (some ⟨e.B, e.base + q.off, none⟩)) ?_ hAR.val
        simp only [execOp, ho, hq']
        refine run_v (Lib.run_from_unsafe w ⟨e.B, e.base + q.off, none⟩ (hE.und _ _ hsd) (hE.und _ _ hdd) hi (e := c.2.1) (cells := C.size) (by simp [World.shape?, hg]) ?_)
        rw [hcu']
        refine liesAt_row (by rw [hcell]; exact hnp) (by rw [hcell]; exact hdvd) ?_
        rw [hcell]
        show (e.base + q.off) / n + 1 <= C.size / n
        rw [<- Nat.add_div_right _ (Nat.pos_of_ne_zero hnp)]
        exact Nat.div_le_div_right (by have : q.off + n <= c.1.length := hle'; omega)
  . cases h
end
end Go.Ev
namespace Go.Ev
open Go.RowKit
variable [Sg]
omit [Sg] in
theorem setIf_at (C : Array Value) (o : Nat) (v : Value) (h : o < C.size) : C.setIfInBounds o v = putRow C o [v] := by
 apply Array.ext'
 simp only [Array.toList_setIfInBounds, putRow]
 rw [set_at _ _ _ (by simpa using h)]
 simp
omit [Sg] in
theorem putRow_size (C : Array Value) (o : Nat) (vs : List Value) (h : o + vs.length <= C.size) : (putRow C o vs).size = C.size := by
 simp [putRow]; omega
omit [Sg] in
theorem putRow_cons (C : Array Value) (o : Nat) (v : Value) (vs : List Value) (h : o + (v :: vs).length <= C.size) : putRow (putRow C o [v]) (o + 1) vs = putRow C o (v :: vs) := by
 simp only [List.length_cons] at h
 have hl : C.toList.length = C.size := by simp
 apply Array.ext'
 apply List.ext_getElem?
 intro i
 simp only [putRow, List.getElem?_append, List.length_take, List.getElem?_take, List.getElem?_drop, List.length_append, List.length_drop, List.length_cons, List.length_nil, hl]
 have m1 : min o C.size = o := by omega
 have m2 : min (o + 1) (o + (0 + 1 + (C.size - (o + (0 + 1))))) = o + 1 := by omega
 simp only [m1, m2]
 by_cases h1 : i < o
 ·
  have h2 : i < o + 1 := by omega
  simp [h1, h2]
 ·
  by_cases h2 : i = o
  ·
   subst h2; simp
  ·
   have h3 : ¬ i < o + 1 := by omega
   have h4 : ∃ j, i = o + 1 + j := ⟨i - (o + 1), by omega⟩
   obtain ⟨j, rfl⟩ := h4
   have e1 : o + 1 + j - (o + 1) = j := by omega
   have e2 : o + 1 + j - o = j + 1 := by omega
   simp only [h1, h3, if_false, e1, e2]
   by_cases h5 : j < vs.length
   ·
    simp [h5]
   ·
    have e3 : ¬ o + 1 + vs.length + (j - vs.length) < o := by omega
    have e4 : o + 1 + vs.length + (j - vs.length) - o = j + 1 := by omega
    have e5 : ¬ j + 1 < vs.length + 1 := by omega
    simp [h5, e3, e4, e5]
    congr 1
    omega
omit [Sg] in
theorem fold_put (off : Nat) : ∀ (vs : List Value) (k : Nat) (C : Array Value), off + k + vs.length <= C.size ->
  (vs.zipIdx k).foldl (fun (cs : Array Value) (p : Value × Nat) => cs.setIfInBounds (off + p.2) p.1) C = putRow C (off + k) vs
 | [], k, C, _ => by simp [putRow]
 | v :: vs, k, C, h => by
  simp only [List.length_cons] at h
  rw [List.zipIdx_cons, List.foldl_cons]
  simp only
  rw [setIf_at _ _ _ (by omega), fold_put off vs (k + 1) _ (by rw [putRow_size _ _ _ (by simp; omega)]; omega), <- Nat.add_assoc, putRow_cons _ _ _ _ (by simp; omega)]
inductive PL (ρ : Map) : List (Nat × Value) -> List (Nat × Value) -> Prop
 | nil : PL ρ [] []
 | cons {i : Nat} {v v' : Value} {l l' : List (Nat × Value)} (h : V ρ v v') (t : PL ρ l l') : PL ρ ((i, v) :: l) ((i, v') :: l')
theorem fill_ok {ρ : Map} {place place' : Nat -> Option (Nat × Nat)} (hp : ∀ i q, place i = some q -> place' i = some q) : ∀ {l l' : List (Nat × Value)} {cs cs' r : List Value}, fillAt place l cs = some r -> PL ρ l l' -> VL ρ cs cs' ->
  (∀ x ∈ cs', x.oneCell' = true) -> ∃ r', Instr.fill place' ⟨cs'⟩ l' = some ⟨r'⟩ /\ VL ρ r r' /\ (∀ x ∈ r', x.oneCell' = true)
 | [], _, cs, cs', r, h, .nil, hv, h1 => by
  have e : some cs = some r := h
  cases e; exact ⟨cs', rfl, hv, h1⟩
 | (i, v) :: l, _, cs, cs', r, h, .cons (v' := v') (l' := l') hx ht, hv, h1 => by
  have h' : bnd (place i) (fun q => bnd (cellsV v) fun vs => chk (Nat.beq (lenL vs) q.2) (bnd (writeAt vs q.1 cs) (fillAt place l))) = some r := h
  simp only [bnd_eq, chk_eq] at h'
  obtain ⟨⟨off, size⟩, hq, vs, hvs, hlen, cs2, hcs2, h'⟩ := h'
  obtain ⟨vs', hvs', hVL, h2⟩ := cellsV_ok hx hvs
  unfold writeAt at hcs2
  rw [writeAt_eq] at hcs2
  obtain ⟨hn, rfl⟩ := hcs2
  have hlen' := Nat.eq_of_beq_eq_true hlen
  rw [lenL_eq] at hlen'
  have e1 := hVL.length
  have e2 := hv.length
  dsimp only at hn hlen'
  have hw : VL ρ (cs.take off ++ (vs ++ cs.drop (off + vs.length))) (putRow ⟨cs'⟩ off vs').toList := hv.write off hVL
  obtain ⟨r', hr', hVr, h3⟩ := fill_ok hp (cs' := (putRow ⟨cs'⟩ off vs').toList) h' ht hw (by
   intro x hx
   rcases List.mem_append.1 hx with hx | hx
   ·
    exact h1 x (List.mem_of_mem_take hx)
   ·
    rcases List.mem_append.1 hx with hx | hx
    ·
     exact h2 x hx
    ·
     exact h1 x (List.mem_of_mem_drop hx))
  refine ⟨r', ?_, hVr, h3⟩
  simp only [Instr.fill, hp i _ hq, hvs']
  have c1 : ¬ ((⟨vs'⟩ : Array Value).size ≠ size || decide (off + (⟨vs'⟩ : Array Value).size > (⟨cs'⟩ : Array Value).size)) = true := by
   simp; omega
  rw [if_neg (by simpa using c1)]
  have hf := fold_put off vs' 0 ⟨cs'⟩ (by simp; omega)
  rw [Nat.add_zero] at hf
  have : (⟨vs'⟩ : Array Value).zipIdx.foldl (fun (cs : Array Value) (p : Value × Nat) => cs.setIfInBounds (off + p.2) p.1) ⟨cs'⟩ = putRow ⟨cs'⟩ off vs' := by
   rw [<- Array.foldl_toList, <- hf]
   simp
  rw [<- hr']
  congr 1
omit [Sg] in
theorem zeros_eq (zs : List Value) : ∀ (n : Nat), ((Array.range (n * zs.length)).map fun i => (⟨zs⟩ : Array Value)[i % (⟨zs⟩ : Array Value).size]!) = ⟨repL zs n⟩
 | 0 => by
  rw [Nat.zero_mul]
  show _ = (⟨[]⟩ : Array Value)
  simp
 | n + 1 => by
  have ih := zeros_eq zs n
  apply Array.ext'
  have ih' := congrArg Array.toList ih
  simp only [Array.toList_map, Array.toList_range] at ih' ⊢
  show _ = appL zs (repL zs n)
  rw [appL_eq, <- ih', Nat.succ_mul, Nat.add_comm, List.range_add, List.map_append, List.map_map]
  congr 1
  ·
   apply List.ext_getElem?
   intro i
   by_cases h : i < zs.length
   ·
    simp [h, Nat.mod_eq_of_lt h]
   ·
    simp [h]
  ·
   apply List.map_congr_left
   intro i hi
   by_cases h0 : zs.length = 0
   ·
    have : zs = [] := List.length_eq_zero_iff.1 h0
    subst this; simp
   ·
    simp [Nat.add_mod_left]
omit [Sg] in
theorem repL_one {zs : List Value} (h : ∀ x ∈ zs, x.oneCell' = true) : ∀ (n : Nat), ∀ x ∈ repL zs n, x.oneCell' = true
 | 0, x, hx => by cases hx
 | n + 1, x, hx => by
  have hx' : x ∈ appL zs (repL zs n) := hx
  rw [appL_eq] at hx'
  rcases List.mem_append.1 hx' with hx' | hx'
  ·
   exact h x hx'
  ·
   exact repL_one h n x hx'
section
variable {P : Program} {S : Nat -> Prop} {ρ : Map} {H : Heap} {w : World} {o : Oper} {a : Act}
theorem parts_ok {tm : Tm} (hT : TR ρ tm a.tmps) : ∀ {l : List (Nat × Operand)} {ps : List (Nat × Value)}, evalParts tm l = some ps -> PL ρ ps (l.map fun p => (p.1, a.eval p.2))
 | [], ps, h => by
  have e : some [] = some ps := h
  cases e; exact .nil
 | (i, x) :: l, ps, h => by
  have h' : bnd (eval tm x) (fun v => bnd (evalParts tm l) fun vs => some ((i, v) :: vs)) = some ps := h
  simp only [bnd_eq] at h'
  obtain ⟨v, hv, r, hr, e⟩ := h'
  cases e
  exact .cons (eval_ok hT hv) (parts_ok hT hr)
variable {env : Env} (hE : EnvOk P env)
include hE
theorem zero_cells {t : TypeId} {z : Value} {zs : List Value} (hz : env.zero t = some z) (hc : cellsV z = some zs) : z.cells = ⟨zs⟩ /\ VL ρ zs zs /\ (∀ x ∈ zs, x.oneCell' = true) /\ env.size t = some zs.length := by
 unfold Env.zero at hz
 rw [bnd_eq] at hz
 obtain ⟨i, hi, hz⟩ := hz
 obtain ⟨h1, h2⟩ := hE.zero t i z hi hz
 obtain ⟨l', hl', hVL, ho⟩ := cellsV_ok (h1 ρ) hc
 have : zs = l' := by
  have e : z.cells = ⟨zs⟩ := by
   cases z with
   | float k b => cases k <;> cases hc; rfl
   | _ => first | (cases hc; done) | (cases hc; rfl)
  rw [e] at hl'
  exact congrArg Array.toList hl'
 subst this
 exact ⟨hl', hVL, ho, by simp [Env.size, hi, h2 zs hc]⟩
theorem placesOf_ok : ∀ {fs : List Field} {l : List (Nat × Nat)}, placesOf env fs = some l -> ∀ w : World, (fs.mapM fun (f : Field) => (do pure (f.offset, <- sizeOf f.type) : Sem (Nat × Nat))).run P w = .ok l w
 | [], l, h, w => by
  have e : some [] = some l := h
  cases e; rfl
 | f :: fs, l, h, w => by
  have h' : bnd (env.size f.type) (fun n => bnd (placesOf env fs) fun l => some ((f.offset, n) :: l)) = some l := h
  simp only [bnd_eq] at h'
  obtain ⟨n, hn, r, hr, e⟩ := h'
  cases e
  have ih := placesOf_ok hr w
  simp only [List.mapM_cons, Sem.run_bind, run_size hE hn, Result.andThen_ok, Sem.run_pure, ih]
variable {call : Call} {id : Nat} {tm : Tm} {v : Value} {H' : Heap}
variable (hH : HR P ρ H w) (hT : TR ρ tm a.tmps)
include hH hT
theorem ok_build {t : TypeId} {parts : Array (Nat × Operand)} (ho : o.op = .build t parts) (h : oBuild t parts env call id tm H = some (v, H')) : Does P o a w (Post P S ρ H w v H') := by
 unfold oBuild retO build at h
 simp only [bnd_eq] at h
 obtain ⟨ps, hps, q, ⟨z, hz, zs, hzs, d, hd, pl, hpl, r, hr, e0⟩, e⟩ := h
 cases e0; cases e
 have hPL := parts_ok hT hps
 obtain ⟨hzc, hzV, hz1, hzsz⟩ := zero_cells (ρ := ρ) hE hz hzs
 have hparts : (parts.map fun (p : Nat × Operand) => (p.1, a.eval p.2)).toList = parts.toList.map fun p => (p.1, a.eval p.2) := by simp
 unfold placeOf at hpl
 split at hpl
 ·
  rename_i fields
  rw [bnd_eq] at hpl
  obtain ⟨l, hl, e⟩ := hpl
  cases e
  obtain ⟨r', hr', hVr, h1⟩ := fill_ok (place' := fun i => l.toArray[i]?) (fun i q hq => by rw [nthL_eq] at hq; simpa using hq) hr hPL hzV hz1
  refine does_pure hH (v' := .agg ⟨r'⟩) ?_ (.agg hVr h1)
  simp only [execOp, ho]
  refine run_v ?_
  have hmap : (fields.mapM fun (f : Field) => (do pure (f.offset, <- sizeOf f.type) : Sem (Nat × Nat))).run P w = .ok l.toArray w := by
   rw [Array.mapM_eq_mapM_toList]
   simp only [Sem.run_map, placesOf_ok hE hl w, Result.andThen_ok]
  simp only [Instr.build, Sem.run_bind, run_zero hE hz, run_und hE hd, Result.andThen_ok]
  simp only [hmap, Result.andThen_ok, hzc, hparts, hr']
  rfl
 ·
  rename_i n elem
  rw [bnd_eq] at hpl
  obtain ⟨size, hsz, e⟩ := hpl
  cases e
  obtain ⟨r', hr', hVr, h1⟩ := fill_ok (place' := fun i => some (i * size, size)) (fun i q hq => hq) hr hPL hzV hz1
  refine does_pure hH (v' := .agg ⟨r'⟩) ?_ (.agg hVr h1)
  simp only [execOp, ho]
  refine run_v ?_
  simp only [Instr.build, Sem.run_bind, run_zero hE hz, run_und hE hd, Result.andThen_ok, run_size hE hsz, hzc, hparts, hr']
  rfl
 ·
  cases hpl
theorem ok_field {t : TypeId} {x : Operand} {f : Nat} (ho : o.op = .field t x f) (h : oField t x f env call id tm H = some (v, H')) : Does P o a w (Post P S ρ H w v H') := by
 unfold oField retO at h
 simp only [bnd_eq] at h
 obtain ⟨u, hu, cs, hcs, fs, hfs, fd, hfd, q, hq, e⟩ := h
 cases e
 have hV := eval_ok hT hu
 have hd := struct_inv hfs
 rw [nthL_eq] at hfd
 generalize hg : a.eval x = g at hV
 cases hV with
 | agg hl h1 =>
  simp [aggOf] at hcs
  subst hcs
  obtain ⟨v', hrun, hV'⟩ := part_ok hE (w := w) hl h1 hq
  refine does_pure hH (v' := v') ?_ hV'
  simp only [execOp, ho, hg]
  refine run_v ?_
  have hfd' : (⟨fs⟩ : Array Field)[f]? = some fd := by simpa using hfd
  simp only [Instr.field, Sem.run_bind, run_und hE hd, Result.andThen_ok, hfd', asAgg, Sem.run_pure, hrun]
 | _ => simp [aggOf] at hcs
theorem ok_fieldAddr {t : TypeId} {x : Operand} {f : Nat} (ho : o.op = .fieldAddr t x f) (h : oFieldAddr t x f env call id tm H = some (v, H')) : Does P o a w (Post P S ρ H w v H') := by
 unfold oFieldAddr fieldPlace at h
 simp only [bnd_eq, chk_eq] at h
 obtain ⟨u, hu, p, hp, fs, hfs, q, ⟨fd, hfd, n, hn, e0⟩, hne, e⟩ := h
 cases e0; cases e
 rw [addrOf_eq] at hp
 subst hp
 obtain ⟨p', hp', hAR⟩ := (eval_ok hT hu).ptrInv
 have hd := struct_inv hfs
 rw [nthL_eq] at hfd
 have hfd' : (⟨fs⟩ : Array Field)[f]? = some fd := by simpa using hfd
 have hn0 : n ≠ 0 := by rintro rfl; simp at hne
 refine does_pure hH (v' := .pointer (some (p'.add fd.offset))) ?_ (hAR.move _).val
 simp only [execOp, ho, hp']
 refine run_v ?_
 simp only [Instr.fieldAt, Sem.run_bind, run_und hE hd, Result.andThen_ok, hfd', Instr.sureAddr, Sem.run_pure, Go.fieldPlace, run_size hE hn, hn0, if_false]
omit [Sg] in
omit hE hH hT in
theorem inR_inv {i : Int} {n j : Nat} (h : inR i n = some j) : i = j /\ j < n := by
 cases i with
 | ofNat m =>
  have h' : chk (Nat.ble (Nat.succ m) n) (some m) = some j := h
  rw [chk_eq, Nat.ble_eq] at h'
  obtain ⟨h1, e⟩ := h'
  cases e
  exact ⟨rfl, h1⟩
 | negSucc m => cases h
theorem ok_indexAddr {t : TypeId} {x i : Operand} (ho : o.op = .indexAddr t x i) (h : oIndexAddr t x i env call id tm H = some (v, H')) : Does P o a w (Post P S ρ H w v H') := by
 unfold oIndexAddr retO at h
 simp only [bnd_eq] at h
 obtain ⟨u, hu, iv, hiv, j, hj, d, hd, q, hq, e⟩ := h
 cases e
 obtain ⟨k, rfl⟩ := intOf_eq hj
 have hi := (eval_ok hT hiv).int_inv
 have hV := eval_ok hT hu
 have hud := fun w => run_und hE hd w
 unfold indexAddr at hq
 split at hq
 ·
  rename_i len elem p
  simp only [bnd_eq] at hq
  obtain ⟨n, hn, m, hm, e⟩ := hq
  cases e
  obtain ⟨rfl, hlt⟩ := inR_inv hm
  obtain ⟨p', hp', hAR⟩ := hV.ptrInv
  refine does_pure hH (v' := .pointer (some (p'.add (m * n)))) ?_ (hAR.move _).val
  simp only [execOp, ho, hp', hi]
  refine run_v ?_
  have hr : (0 : Int) <= (m : Int) /\ (m : Int) < (len : Int) := by omega
  simp only [Instr.indexAt, asIntOf, Sem.run_bind, Sem.run_pure, Result.andThen_ok, hud, Instr.sureAddr, hr, and_self, if_true, run_size hE hn, Int.toNat_natCast]
 ·
  rename_i elem p len cap
  simp only [bnd_eq] at hq
  obtain ⟨n, hn, m, hm, e⟩ := hq
  cases e
  obtain ⟨rfl, hlt⟩ := inR_inv hm
  generalize hg : a.eval x = g at hV
  have hr : (0 : Int) <= (m : Int) /\ (m : Int) < (len : Int) := by omega
  have fin : ∀ (p' : Addr) (c' : Nat), AR ρ p p' -> g = .slice (some p') len c' -> Does P o a w (Post P S ρ H w (.pointer (some (moveBy p (Nat.mul m n)))) H) := by
   intro p' c' hAR hg'
   refine does_pure hH (v' := .pointer (some (p'.add (m * n)))) ?_ (hAR.move _).val
   simp only [execOp, ho, hg, hg', hi]
   refine run_v ?_
   simp only [Instr.indexAt, asIntOf, Sem.run_bind, Sem.run_pure, Result.andThen_ok, hud, hr, and_self, if_true, run_size hE hn, Int.toNat_natCast]
  cases hV with
  | slice h0 hn' hc => exact fin _ _ ⟨_, h0, rfl, rfl⟩ rfl
  | sliceU h0 hn hc => exact fin _ _ ⟨_, h0, rfl, rfl⟩ rfl
  | empty h0 hs => omega
 ·
  cases hq
theorem ok_index {t : TypeId} {x i : Operand} (ho : o.op = .index t x i) (h : oIndex t x i env call id tm H = some (v, H')) : Does P o a w (Post P S ρ H w v H') := by
 unfold oIndex retO at h
 simp only [bnd_eq] at h
 obtain ⟨u, hu, iv, hiv, d, hd, q, hq, e⟩ := h
 cases e
 have hI := eval_ok hT hiv
 have hV := eval_ok hT hu
 have hud := fun w => run_und hE hd w
 unfold indexOf at hq
 split at hq
 ·
  rename_i len elem cs
  simp only [bnd_eq] at hq
  obtain ⟨j, hj, n, hn, m, hm, hq⟩ := hq
  obtain ⟨k, rfl⟩ := intOf_eq hj
  have hi := hI.int_inv
  obtain ⟨rfl, hlt⟩ := inR_inv hm
  generalize hg : a.eval x = g at hV
  cases hV with
  | agg hl h1 =>
   obtain ⟨v', hrun, hV'⟩ := part_ok' hE (w := w) hl h1 hq
   refine does_pure hH (v' := v') ?_ hV'
   simp only [execOp, ho, hg, hi]
   refine run_v ?_
   have hr : (0 : Int) <= (m : Int) /\ (m : Int) < (len : Int) := by omega
   simp only [Instr.index, asIntOf, Sem.run_bind, Sem.run_pure, Result.andThen_ok, hud, hr, and_self, if_true, run_size hE hn, Int.toNat_natCast]
   exact hrun
 ·
  rename_i s
  simp only [bnd_eq, fN_eq] at hq
  obtain ⟨j, hj, m, hm, b, hb, e⟩ := hq
  cases e
  obtain ⟨k, rfl⟩ := intOf_eq hj
  have hi := hI.int_inv
  obtain ⟨rfl, hlt⟩ := inR_inv hm
  rw [nthL_eq] at hb
  refine does_pure hH (v' := .int .u8 (b.toNat : Int)) ?_ (.int _ _)
  simp only [execOp, ho, hi, hV.string_inv]
  refine run_v ?_
  have h0 : (0 : Int) <= (m : Int) := by omega
  have hsb : s[m]? = some b := by
   have : s.data[m]? = some b := by simpa using hb
   exact this
  simp only [Instr.index, asIntOf, Sem.run_bind, Sem.run_pure, Result.andThen_ok, hud, h0, if_true, Int.toNat_natCast, hsb]
 ·
  obtain ⟨v', hv', hrun⟩ := hE.symIndex _ _ v hq ρ _ _ w t hV hI (hE.und _ _ hd)
  refine does_pure hH (v' := v') ?_ hv'
  simp only [execOp, ho]
  exact run_v hrun
 ·
  cases hq
end
end Go.Ev
namespace Go.Ev
open Go.RowKit
variable [Sg]
omit [Sg] in
theorem inB_inv {i : Int} {n j : Nat} (h : inB i n = some j) : i = j /\ j <= n := by
 cases i with
 | ofNat m =>
  have h' : chk (Nat.ble m n) (some m) = some j := h
  rw [chk_eq, Nat.ble_eq] at h'
  obtain ⟨h1, e⟩ := h'
  cases e
  exact ⟨rfl, h1⟩
 | negSucc m => cases h
theorem bound_inv {ρ : Map} {x x' : Option Value} {most dflt n : Nat} (h : bound x most dflt = some n) (hx : OV ρ x x') :
  (x = none /\ x' = none /\ n = dflt) \/ (∃ k, x ≠ none /\ x' = some (.int k n) /\ n <= most) := by
 cases hx with
 | none => have e : some dflt = some n := h; cases e; exact .inl ⟨rfl, rfl, rfl⟩
 | some hv =>
  rename_i v v'
  have h' : bnd (intOf' v) (fun i => inB i most) = some n := h
  rw [bnd_eq] at h'
  obtain ⟨i, hi, h'⟩ := h'
  obtain ⟨k, rfl⟩ := intOf_eq hi
  obtain ⟨rfl, hn⟩ := inB_inv h'
  exact .inr ⟨k, by simp, by rw [hv.int_inv], hn⟩
omit [Sg] in
theorem run_sliceBound {P : Program} {w : World} {k : IntKind} {n y : Nat} (h : n <= y) (code : BoundsCode) : (Instr.sliceBound (.int k n) y code).run P w = .ok n w := by
 have : (0 : Int) <= (n : Int) /\ (n : Int) <= (y : Int) := by omega
 simp only [Instr.sliceBound, asIntOf, Sem.run_bind, Sem.run_pure, Result.andThen_ok, this, and_self, if_true, Int.toNat_natCast]
omit [Sg] in
theorem isN_eq {α : Type} {x : Option α} : isN x = true ↔ x = none := by cases x <;> simp [isN]
omit [Sg] in
theorem elemAt_inv {H : Heap} {b : Nat} {e : TypeId} (h : elemAt H b = some e) : ∃ cs ro, H.get b = some (.cells cs e ro) := by
 unfold elemAt at h
 simp only [bnd_eq] at h
 obtain ⟨x, hx, c, hc, e'⟩ := h
 rw [cellsOf_eq] at hc
 cases e'
 exact ⟨_, _, by rw [hx, hc]⟩
omit [Sg] in
theorem mkSlice_eq (a : Option Addr) (n c : Nat) : mkSlice a n c = some (.slice a n c) := by simp [mkSlice]
omit [Sg] in
theorem sliceE_inv {v : Value} {size len room : Nat} {b : Option Addr} {lo hi mx : Option Value} (h : sliceE size b len room lo hi mx = some v) :
  ∃ m h' l, (mx = none \/ hi ≠ none) /\ bound mx room room = some m /\ m <= 4611686018427387904 /\ bound hi m len = some h' /\ bound lo h' 0 = some l /\
   v = .slice (if m = l then b else b.map (moveBy · (l * size))) (h' - l) (m - l) := by
 unfold sliceE at h
 simp only [bnd_eq, chk_eq, Bool.or_eq_true, Bool.not_eq_true'] at h
 obtain ⟨hx, m, hm, hle, h', hh, l, hl, e⟩ := h
 rw [mkSlice_eq] at e
 cases e
 refine ⟨m, h', l, ?_, hm, by rwa [Nat.ble_eq] at hle, hh, hl, ?_⟩
 ·
  rcases hx with hx | hx
  ·
   exact .inl (isN_eq.1 hx)
  ·
   refine .inr fun h => ?_
   rw [isN_eq.2 h] at hx; cases hx
 ·
  congr 1
  rw [ifB_eq]
  have : (Nat.beq m l = true) ↔ m = l := Nat.beq_eq ▸ Iff.rfl
  simp only [this]
  split
  ·
   rfl
  ·
   cases b <;> rfl
theorem bound_le {ρ : Map} {x x' : Option Value} {most dflt n : Nat} (h : bound x most dflt = some n) (hx : OV ρ x x') (hd : dflt <= most) : n <= most := by
 rcases bound_inv h hx with ⟨_, _, rfl⟩ | ⟨_, _, _, h⟩
 ·
  exact hd
 ·
  exact h
section
variable {P : Program} {S : Nat -> Prop} {ρ : Map} {H : Heap} {w : World} {o : Oper} {a : Act}
theorem optVal_ok {tm : Tm} (hT : TR ρ tm a.tmps) {x : Option Operand} {r : Option Value} (h : optVal tm x = some r) : OV ρ r (x.map a.eval) := by
 cases x with
 | none => have e : some none = some r := h; cases e; exact .none
 | some x =>
  have h' : bnd (eval tm x) (fun v => some (some v)) = some r := h
  rw [bnd_eq] at h'
  obtain ⟨v, hv, e⟩ := h'
  cases e
  exact .some (eval_ok hT hv)
theorem run_bounds {lo hi mx lo' hi' mx' : Option Value} (hlo : OV ρ lo lo') (hhi : OV ρ hi hi') (hmx : OV ρ mx mx') {isS : Bool} {len cap len' m h l : Nat}
  (hm : (mx = none /\ m <= cap) \/ (mx ≠ none /\ bound mx len' len' = some m /\ len' <= cap)) (hx : mx = none \/ hi ≠ none) (hh : bound hi m len = some h) (hl : bound lo h 0 = some l) :
  ∃ m', (Instr.sliceBounds isS len cap lo' hi' mx').run P w = .ok (l, h, m') w /\ (mx = none -> m' = cap) /\ (mx ≠ none -> m' = m) := by
 rcases hm with ⟨rfl, hm⟩ | ⟨hne, hb, hlen⟩
 ·
  cases hmx
  refine ⟨cap, ?_, fun _ => rfl, fun h => (h rfl).elim⟩
  unfold Instr.sliceBounds
  rcases bound_inv hh hhi with ⟨_, rfl, rfl⟩ | ⟨k, _, rfl, hn⟩
  ·
   rcases bound_inv hl hlo with ⟨_, rfl, rfl⟩ | ⟨k3, _, rfl, hn3⟩
   ·
    simp
   ·
    simp [run_sliceBound hn3]
  ·
   rcases bound_inv hl hlo with ⟨_, rfl, rfl⟩ | ⟨k3, _, rfl, hn3⟩
   ·
    simp [run_sliceBound (Nat.le_trans hn hm)]
   ·
    simp [run_sliceBound (Nat.le_trans hn hm), run_sliceBound hn3]
 ·
  rcases bound_inv hb hmx with ⟨rfl, _, _⟩ | ⟨k, _, rfl, hn⟩
  ·
   exact (hne rfl).elim
  ·
   refine ⟨m, ?_, fun h => (hne h).elim, fun _ => rfl⟩
   rcases bound_inv hh hhi with ⟨rfl, _, _⟩ | ⟨k2, _, rfl, hn2⟩
   ·
    rcases hx with hx | hx
    ·
     exact (hne hx).elim
    ·
     exact (hx rfl).elim
   ·
    unfold Instr.sliceBounds
    simp only [Sem.run_bind, Result.andThen_ok, run_sliceBound (Nat.le_trans hn hlen), run_sliceBound hn2]
    rcases bound_inv hl hlo with ⟨_, rfl, rfl⟩ | ⟨k3, _, rfl, hn3⟩
    ·
     simp
    ·
     simp [run_sliceBound hn3]
variable {env : Env} (hE : EnvOk P env)
include hE
variable {call : Call} {id : Nat} {tm : Tm} {v : Value} {H' : Heap}
variable (hH : HR P ρ H w)
include hH in
theorem block_k {b : Nat} {e : Emb} {cs : List Value} {t : TypeId} {ro : Acc} {k : Nat} (hb : H.get b = some (.cells cs t ro)) (he : ρ b = some e) (hk : env.size t = some k) : e.k = k /\ cs.length = e.size /\ e.size <= e.room := by
 have h := hH.blk _ _ _ hb he
 generalize w.heap[e.B]? = g at h
 cases h with
 | cells hi hk' hs hr hC hf hv h1 hmodb =>
  unfold Env.size at hk
  rw [bnd_eq] at hk
  obtain ⟨j, hj, e'⟩ := hk
  cases e'
  have := hE.info _ _ hj
  rw [hi] at this
  cases this
  exact ⟨hk'.symm, hs, hr⟩
theorem run_slice_of {t e : TypeId} {x' : Value} {b : Option Addr} {n c : Nat} (hu : env.und t = some (.slice e)) {size : Nat} (hs : env.size e = some size) (hx : x' = .slice b n c) {lo' hi' mx' : Option Value} {l h m : Nat}
  (hb : (Instr.sliceBounds true n c lo' hi' mx').run P w = .ok (l, h, m) w) :
  (Instr.sliceAt t x' lo' hi' mx').run P w = .ok (.slice (if m = l then b else b.map (·.add (l * size))) (h - l) (m - l)) w := by
 subst hx
 simp only [Instr.sliceAt, Instr.slice, Sem.run_bind, run_und hE hu, Result.andThen_ok, hb, run_size hE hs, Sem.run_pure]
include hH in
theorem ok_slice (hT : TR ρ tm a.tmps) {t : TypeId} {x : Operand} {lo hi mx : Option Operand} (ho : o.op = .slice t x lo hi mx) (h : oSlice t x lo hi mx env call id tm H = some (v, H')) : Does P o a w (Post P S ρ H w v H') := by
 unfold oSlice retO at h
 simp only [bnd_eq] at h
 obtain ⟨u, hu, lov, hlo, hiv, hhi, mxv, hmx, d, hd, q, hq, e⟩ := h
 cases e
 have hV := eval_ok hT hu
 have hLO := optVal_ok hT hlo
 have hHI := optVal_ok hT hhi
 have hMX := optVal_ok hT hmx
 have done : ∀ {q' : Value}, (Instr.sliceAt t (a.eval x) (lo.map a.eval) (hi.map a.eval) (mx.map a.eval)).run P w = .ok q' w -> V ρ v q' -> Does P o a w (Post P S ρ H w v H) := by
  intro q' hrun hVq
  refine does_pure hH (v' := q') ?_ hVq
  simp only [execOp, ho]
  exact run_v hrun
 unfold sliceOf at hq
 split at hq
 ·
  rename_i s
  rw [chk_eq] at hq
  obtain ⟨hn, hq⟩ := hq
  have hmn := isN_eq.1 hn
  subst hmn
  have hcs := orO_eq hq
  clear hq
  rcases hcs with hq | ⟨_, hq⟩
  rotate_left
  ·
   have hmx' : mx.map a.eval = none := by cases hm : mx.map a.eval with | none => rfl | some z => rw [hm] at hMX; cases hMX
   obtain ⟨v', hv', hrun⟩ := hE.symSlice _ _ _ v hq ρ _ _ _ w t hV hLO hHI (hE.und _ _ hd)
   rw [hmx'] at done
   exact done hrun hv'
  unfold sliceStr at hq
  simp only [bnd_eq, lenL_eq, dropL_eq, takeL_eq] at hq
  obtain ⟨h', hh, l, hl, e⟩ := hq
  cases e
  have hss : s.data.toList.length = s.size := by simp
  rw [hss] at hh
  obtain ⟨m', hrun, _, _⟩ := run_bounds (P := P) (w := w) (isS := false) (len := s.size) (cap := s.size) (len' := s.size) (m := s.size) hLO hHI hMX (.inl ⟨rfl, Nat.le_refl _⟩) (.inl rfl) hh hl
  have hmx' : mx.map a.eval = none := by cases hm : mx.map a.eval with | none => rfl | some z => rw [hm] at hMX; cases hMX
  rw [hmx'] at hrun
  refine done (q' := .string (s.extract l h')) ?_ ?_
  ·
   simp only [Instr.sliceAt, Instr.slice, Sem.run_bind, run_und hE hd, Result.andThen_ok, hV.string_inv, hmx']
   simp [hrun]
  ·
   have : s.extract l h' = ⟨⟨(s.data.toList.take h').drop l⟩⟩ := by
    have hd : (s.extract l h').data = s.data.extract l h' := by simp
    cases hx : s.extract l h' with
    | mk d => rw [hx] at hd; simp only at hd; subst hd; congr 1; apply Array.ext'; simp [List.extract_eq_take_drop, List.drop_take]
   rw [this]
   exact .string _
 ·
  rw [chk_eq] at hq
  obtain ⟨hn, hq⟩ := hq
  have hmn := isN_eq.1 hn
  subst hmn
  have hmx' : mx.map a.eval = none := by cases hm : mx.map a.eval with | none => rfl | some z => rw [hm] at hMX; cases hMX
  obtain ⟨v', hv', hrun⟩ := hE.symSlice _ _ _ v hq ρ _ _ _ w t hV hLO hHI (hE.und _ _ hd)
  rw [hmx'] at done
  exact done hrun hv'
 ·
  rename_i e b len cap
  rw [bnd_eq] at hq
  obtain ⟨size, hs, hq⟩ := hq
  unfold sliceVal at hq
  generalize hg : a.eval x = g at hV
  rw [hg] at done
  have exact_case : ∀ (b' : Option Addr) (c room : Nat), sliceE size b len room lov hiv mxv = some v -> g = .slice b' len c -> room <= c -> len <= room -> (mxv = none -> c = room) ->
    (∀ l, V ρ (.slice (if c = l then b else b.map (moveBy · (l * size))) 0 0) (.slice (if c = l then b' else b'.map (·.add (l * size))) 0 0) \/ True) ->
    (∀ m h l, m <= room -> h - l <= m - l -> m - l <= 4611686018427387904 -> V ρ (.slice (if m = l then b else b.map (moveBy · (l * size))) (h - l) (m - l)) (.slice (if m = l then b' else b'.map (·.add (l * size))) (h - l) (m - l))) ->
    Does P o a w (Post P S ρ H w v H) := by
   intro b' c room hq hg' hrc hlr hcr _ hval
   obtain ⟨m, h', l, hx, hm, hm62, hh, hl, rfl⟩ := sliceE_inv hq
   have hmr : m <= room := bound_le hm hMX (Nat.le_refl _)
   have hlm : h' <= m := by
    rcases bound_inv hh hHI with ⟨h1, _, rfl⟩ | ⟨_, _, _, h2⟩
    ·
     rcases hx with h3 | h3
     ·
      subst h3
      have : room = m := by
       have e : some room = some m := hm
       exact Option.some.inj e
      omega
     ·
      exact (h3 h1).elim
    ·
     exact h2
   obtain ⟨m', hrun, h1, h2⟩ := run_bounds (P := P) (w := w) (isS := true) (len := len) (cap := c) (len' := room) (m := m) hLO hHI hMX (by
    by_cases hmn : mxv = none
    ·
     exact .inl ⟨hmn, by omega⟩
    ·
     exact .inr ⟨hmn, hm, hrc⟩) hx hh hl
   have hmm : m' = m := by
    by_cases hmn : mxv = none
    ·
     rw [h1 hmn, hcr hmn]
     subst hmn
     have e : some room = some m := hm
     exact Option.some.inj e
    ·
     exact h2 hmn
   subst hmm
   exact done (run_slice_of hE hd hs hg' hrun) (hval _ _ _ hmr (by omega) (by omega))
  have moved : ∀ (p p' : Addr), AR ρ p p' -> ∀ (m l : Nat), (if m = l then some p' else (some p').map (·.add (l * size))) = some (if m = l then p' else p'.add (l * size)) /\
    (if m = l then some p else (some p).map (moveBy · (l * size))) = some (if m = l then p else moveBy p (l * size)) /\ AR ρ (if m = l then p else moveBy p (l * size)) (if m = l then p' else p'.add (l * size)) := by
   intro p p' hAR m l
   by_cases h : m = l
   ·
    simp [h, hAR]
   ·
    simp only [h, if_false]
    exact ⟨rfl, rfl, hAR.move _⟩
  have hval_of : ∀ (p p' : Addr), AR ρ p p' -> ∀ m h l, h - l <= m - l -> m - l <= 4611686018427387904 ->
    V ρ (.slice (if m = l then some p else (some p).map (moveBy · (l * size))) (h - l) (m - l)) (.slice (if m = l then some p' else (some p').map (·.add (l * size))) (h - l) (m - l)) := by
   intro p p' hAR m h l h1 h2
   obtain ⟨e1, e2, hA⟩ := moved p p' hAR m l
   rw [e1, e2]
   generalize (if m = l then p else moveBy p (l * size)) = z at hA
   generalize (if m = l then p' else p'.add (l * size)) = z' at hA
   obtain ⟨zb, zo, zs⟩ := z
   obtain ⟨em, he, hsp, rfl⟩ := hA
   simp only at hsp; subst hsp
   exact .slice he h1 (by unfold U; omega)
  cases hV with
  | nilSlice =>
   have hc0 : isU 0 = false := rfl
   rw [hc0, Bool.false_and, ifB_false, ifB_false, Bool.not_false, Bool.true_or, chk_true] at hq
   refine exact_case none 0 0 hq rfl (Nat.le_refl _) (Nat.le_refl _) (fun _ => rfl) (fun _ => .inr trivial) ?_
   intro m h l hm h1 h2
   have hm0 : m - l = 0 := by omega
   have hh0 : h - l = 0 := by omega
   rw [hm0, hh0]
   simp only [Option.map_none, ite_self]
   exact .nilSlice
  | slice h0 hn hc =>
   have hc0 : isU cap = false := by
    unfold isU
    cases hb : Nat.beq cap U with
    | false => rfl
    | true => exact (hc (Nat.eq_of_beq_eq_true hb)).elim
   rw [hc0, Bool.false_and, ifB_false, ifB_false, Bool.not_false, Bool.true_or, chk_true] at hq
   exact exact_case _ cap cap hq rfl (Nat.le_refl _) hn (fun _ => rfl) (fun _ => .inr trivial) (fun m h l _ h1 h2 => hval_of _ _ ⟨_, h0, rfl, rfl⟩ m h l h1 h2)
  | sliceU h0 hn hc =>
   rename_i bb oo c em
   have hc0 : isU U = true := rfl
   rw [hc0, Bool.true_and, ifB_true] at hq
   by_cases hmn : mxv = none
   ·
    subst hmn
    rw [isN_eq.2 rfl, ifB_true, bnd_some] at hq
    unfold sliceU at hq
    simp only [bnd_eq, chk_eq, mkSlice_eq] at hq
    obtain ⟨et, het, k, hk, hks, h', hh, l, hl, e'⟩ := hq
    cases e'
    obtain ⟨cs, ro, hblk⟩ := elemAt_inv het
    have hks' := Nat.eq_of_beq_eq_true hks
    subst hks'
    obtain ⟨hek, hsz, hroom⟩ := block_k hE hH hblk h0 hk
    obtain ⟨most, hmc, hhm, hhl⟩ : ∃ most, most <= c /\ bound hiv most len = some h' /\ h' <= most := by
     rcases (orO_eq hh).symm with ⟨_, hh⟩ | hh
     ·
      exact ⟨len, hn, hh, bound_le hh hHI (Nat.le_refl _)⟩
     ·
      simp only [bnd_eq, chk_eq] at hh
      obtain ⟨m2, hm2, hin, hh⟩ := hh
      have hne : hiv ≠ none := fun h => by rw [isN_eq.2 h] at hin; cases hin
      refine ⟨m2, ?_, hh, ?_⟩
      ·
       unfold mostU at hm2
       rw [hblk, bnd_some] at hm2
       have e2 : some ((cs.length - oo) / k) = some m2 := by
        have : cellsOf (.cells cs et ro) = some (cs, et, ro) := rfl
        rw [this, bnd_some, lenL_eq] at hm2
        exact hm2
       cases e2
       rcases Nat.eq_zero_or_pos k with h0 | h0
       ·
        rw [h0, Nat.div_zero]; exact Nat.zero_le _
       ·
        rw [Nat.div_le_iff_le_mul_add_pred h0, Nat.mul_comm]
        rw [hek] at hc
        omega
      ·
       rcases bound_inv hh hHI with ⟨h1, _, _⟩ | ⟨_, _, _, h1⟩
       ·
        exact (hne h1).elim
       ·
        exact h1
    have hll : l <= h' := bound_le hl hLO (Nat.zero_le _)
    obtain ⟨m', hrun, h1, h2⟩ := run_bounds (P := P) (w := w) (isS := true) (len := len) (cap := c) (len' := 0) (m := most) hLO hHI hMX (.inl ⟨rfl, hmc⟩) (.inl rfl) hhm hl
    have hm' := h1 rfl
    subst hm'
    refine done (run_slice_of hE hd hs rfl hrun) ?_
    have hA : AR ρ (moveBy ⟨bb, oo, none⟩ (l * k)) ((⟨em.B, em.base + oo, none⟩ : Addr).add (l * k)) := AR.move (a := ⟨bb, oo, none⟩) ⟨_, h0, rfl, rfl⟩ _
    by_cases hml : m' = l
    ·
     have e0 : h' - l = 0 := by omega
     have e1 : m' - l = 0 := by omega
     show V ρ (.slice (some (moveBy ⟨bb, oo, none⟩ (Nat.mul l k))) (h' - l) U) _
     rw [if_pos hml, e0, e1]
     have hoff : (moveBy ⟨bb, oo, none⟩ (l * k) : Addr) = ⟨bb, oo + l * k, none⟩ := by
      unfold moveBy
      rw [ifB_eq]
      split
      ·
       rename_i hz
       have := Nat.eq_of_beq_eq_true hz
       rw [this]; rfl
      ·
       rfl
     show V ρ (.slice (some (moveBy ⟨bb, oo, none⟩ (Nat.mul l k))) 0 U) _
     rw [show Nat.mul l k = l * k from rfl, hoff]
     refine .empty h0 ?_
     rw [hek] at hc
     subst hml
     omega
    ·
     rw [if_neg hml]
     show V ρ (.slice (some (moveBy ⟨bb, oo, none⟩ (Nat.mul l k))) (Nat.sub h' l) U) (.slice (some ((⟨em.B, em.base + oo, none⟩ : Addr).add (l * k))) (h' - l) (m' - l))
     rw [show Nat.mul l k = l * k from rfl, show Nat.sub h' l = h' - l from rfl, add_mk]
     have hoff : (moveBy ⟨bb, oo, none⟩ (l * k) : Addr) = ⟨bb, oo + l * k, none⟩ := by
      unfold moveBy
      rw [ifB_eq]
      split
      ·
       rename_i hz
       have := Nat.eq_of_beq_eq_true hz
       rw [this]; rfl
      ·
       rfl
     rw [hoff, Nat.add_assoc]
     refine .sliceU h0 (by omega) ?_
     rw [hek] at hc ⊢
     rw [Nat.sub_mul]
     have : l * k <= m' * k := Nat.mul_le_mul_right k (by omega)
     omega
   ·
    have hne : isN mxv = false := by
     cases hb : isN mxv with
     | false => rfl
     | true => exact (hmn (isN_eq.1 hb)).elim
    rw [hne, ifB_false, chk_eq] at hq
    exact exact_case _ c len hq.2 rfl hn (Nat.le_refl _) (fun h => (hmn h).elim) (fun _ => .inr trivial) (fun m h l _ h1 h2 => hval_of _ _ ⟨_, h0, rfl, rfl⟩ m h l h1 h2)
  | empty h0 hs0 =>
   rename_i bb oo em a'
   have hc0 : isU U = true := rfl
   rw [hc0, Bool.true_and, ifB_true] at hq
   by_cases hmn : mxv = none
   ·
    subst hmn
    rw [isN_eq.2 rfl, ifB_true, bnd_some] at hq
    unfold sliceU at hq
    simp only [bnd_eq, chk_eq, mkSlice_eq] at hq
    obtain ⟨et, het, k, hk, hks, h', hh, l, hl, e'⟩ := hq
    cases e'
    have hh' : bound hiv 0 0 = some h' := by
     rcases (orO_eq hh).symm with ⟨_, hh⟩ | hh
     ·
      exact hh
     ·
      simp only [bnd_eq, chk_eq] at hh
      obtain ⟨m2, hm2, hin, hh⟩ := hh
      obtain ⟨cs, ro, hblk⟩ := elemAt_inv het
      obtain ⟨hek, hsz, hroom⟩ := block_k hE hH hblk h0 hk
      unfold mostU at hm2
      rw [hblk, bnd_some] at hm2
      have e2 : some ((cs.length - oo) / k) = some m2 := by
       have : cellsOf (.cells cs et ro) = some (cs, et, ro) := rfl
       rw [this, bnd_some, lenL_eq] at hm2
       exact hm2
      cases e2
      have : cs.length - oo = 0 := by omega
      rw [this, Nat.zero_div] at hh
      exact hh
    clear hh
    have hh := hh'
    have hhl : h' <= 0 := bound_le hh hHI (Nat.le_refl _)
    have hll : l <= h' := bound_le hl hLO (Nat.zero_le _)
    have e0 : h' = 0 := by omega
    have e1 : l = 0 := by omega
    subst e0 e1
    obtain ⟨m', hrun, h1, h2⟩ := run_bounds (P := P) (w := w) (isS := true) (len := 0) (cap := 0) (len' := 0) (m := 0) hLO hHI hMX (.inl ⟨rfl, Nat.le_refl _⟩) (.inl rfl) hh hl
    have hm' := h1 rfl
    subst hm'
    refine done (run_slice_of hE hd hs rfl hrun) ?_
    show V ρ (.slice (some (moveBy ⟨bb, oo, none⟩ (Nat.mul 0 size))) 0 U) (.slice (some a') 0 0)
    rw [show Nat.mul 0 size = 0 from Nat.zero_mul size]
    exact .empty h0 hs0
   ·
    have hne : isN mxv = false := by
     cases hb : isN mxv with
     | false => rfl
     | true => exact (hmn (isN_eq.1 hb)).elim
    rw [hne, ifB_false, chk_eq] at hq
    have := hq.1
    simp at this
 ·
  rename_i n e p
  rw [bnd_eq] at hq
  obtain ⟨size, hs, hq⟩ := hq
  unfold sliceArr at hq
  obtain ⟨p', hp', hAR⟩ := hV.ptrInv
  obtain ⟨m, h', l, hx, hm, hm62, hh, hl, rfl⟩ := sliceE_inv hq
  have hmr : m <= n := bound_le hm hMX (Nat.le_refl _)
  have hlm : h' <= m := by
   rcases bound_inv hh hHI with ⟨h1, _, h9⟩ | ⟨_, _, _, h2⟩
   ·
    rcases hx with h3 | h3
    ·
     subst h3
     have e : some n = some m := hm
     have := Option.some.inj e
     omega
    ·
     exact (h3 h1).elim
   ·
    exact h2
  obtain ⟨m', hrun, h1, h2⟩ := run_bounds (P := P) (w := w) (isS := false) (len := n) (cap := n) (len' := n) (m := m) hLO hHI hMX (by
   by_cases hmn : mxv = none
   ·
    exact .inl ⟨hmn, hmr⟩
   ·
    exact .inr ⟨hmn, hm, Nat.le_refl _⟩) hx hh hl
  have hmm : m' = m := by
   by_cases hmn : mxv = none
   ·
    rw [h1 hmn]
    subst hmn
    have e : some n = some m := hm
    exact Option.some.inj e
   ·
    exact h2 hmn
  subst hmm
  refine done (q' := .slice (some (if m' = l then p' else p'.add (l * size))) (h' - l) (m' - l)) ?_ ?_
  ·
   simp only [Instr.sliceAt, Sem.run_bind, run_und hE hd, Result.andThen_ok, hp', Instr.sureAddr, Sem.run_pure, hrun, run_size hE hs]
  ·
   have hA : AR ρ (if m' = l then p else moveBy p (l * size)) (if m' = l then p' else p'.add (l * size)) := by
    by_cases h : m' = l
    ·
     simp [h, hAR]
    ·
     simp only [h, if_false]
     exact hAR.move _
   have e1 : (if m' = l then some p else (some p).map (moveBy · (l * size))) = some (if m' = l then p else moveBy p (l * size)) := by
    by_cases h : m' = l <;> simp [h]
   rw [e1]
   generalize (if m' = l then p else moveBy p (l * size)) = z at hA
   generalize (if m' = l then p' else p'.add (l * size)) = z' at hA
   obtain ⟨zb, zo, zs⟩ := z
   obtain ⟨em, he, hsp, rfl⟩ := hA
   simp only at hsp; subst hsp
   exact .slice he (by omega) (by unfold U; omega)
 ·
  cases hq
end
end Go.Ev
namespace Go.Ev
open Go.RowKit
variable [Sg]
omit [Sg] in
theorem newSlice_eq {H H' : Heap} {id n c : Nat} {elem : TypeId} {cs : List Value} {v : Value} (h : newSlice H id n c elem cs = some (v, H')) :
  v = .slice (some ⟨id, 0, none⟩) n c /\ H' = H.set id (.cells cs elem .rw) := by
 unfold newSlice at h
 simp only [fN_eq, Option.some.injEq, Prod.mk.injEq] at h
 exact ⟨h.1.symm, h.2.symm⟩
omit [Sg] in
theorem ofUns_small {n : Nat} (h : n < 9223372036854775808) : ofUns .i64 n = (n : Int) := by
 show ifB true (ifB (Nat.ble 9223372036854775808 n) _ (Int.ofNat n)) (Int.ofNat n) = _
 rw [ifB_true, ifB_eq, if_neg (by rw [Nat.ble_eq]; omega)]
 rfl
omit [Sg] in
theorem run_newRow (P : Program) (w : World) (t : TypeId) (C : Array Value) : (newRow t C).run P w = .ok ⟨w.heap.size, 0, none⟩ (w.alloc (.cells C t)) := by
 simp [newRow]
section
variable {P : Program} {S : Nat -> Prop} {ρ : Map} {H : Heap} {w : World} {o : Oper} {a : Act}
variable {env : Env} (hE : EnvOk P env)
variable {call : Call} {id : Nat} {tm : Tm} {v : Value} {H' : Heap}
variable (hH : HR P ρ H w) (hid : ρ id = none) (hlt : id < H.next) (hS : S id) (hT : TR ρ tm a.tmps)
include hH hid hlt hS in
theorem newSlice_ok {n c : Nat} {elem : TypeId} {cs cs' : List Value} {i : TypeInfo} (hi : P.info? elem = some i) (h : newSlice H id n c elem cs = some (v, H')) (hv : VL ρ cs cs') (h1 : ∀ x ∈ cs', x.oneCell' = true) (hn : n <= c) (hc : c ≠ U) :
  Post P S ρ H w v H' (.slice (some ⟨w.heap.size, 0, none⟩) n c) (w.alloc (.cells ⟨cs'⟩ elem)) := by
 obtain ⟨rfl, rfl⟩ := newSlice_eq h
 obtain ⟨hH', hSt⟩ := hH.row (S := S) hid hlt hS (cs := cs) (cs' := cs') (C := ⟨cs'⟩) (elem := elem) (fr := (0, 0)) hi hv h1 (by simp) (by simp) (w' := w.alloc (.cells ⟨cs'⟩ elem)) rfl rfl rfl
  (by simp) (heap_alloc_new _ _) (fun k hk => Below.heap_alloc _ _ _ hk)
 exact ⟨_, .slice (ins_same _ _ _) hn hc, hH', hSt⟩
include hE hH hid hlt hS hT in
theorem ok_buildSlice {t : TypeId} {len : Nat} {parts : Array (Nat × Operand)} (ho : o.op = .buildSlice t len parts) (h : oBuildSlice t len parts env call id tm H = some (v, H')) : Does P o a w (Post P S ρ H w v H') := by
 unfold oBuildSlice buildSlice at h
 simp only [bnd_eq, chk_eq] at h
 obtain ⟨ps, hps, elem, hel, i, hi, z, hz, zs, hzs, hle, cs, hcs, h⟩ := h
 have hzero : env.zero elem = some z := by simp [Env.zero, hi, hz]
 have hsz : env.size elem = some i.size := by simp [Env.size, hi]
 obtain ⟨hzc, hzV, hz1, hzsz⟩ := zero_cells (ρ := ρ) hE hzero hzs
 rw [hsz] at hzsz
 have hzl : i.size = zs.length := Option.some.inj hzsz
 have hd := slice_inv hel
 have hPL := parts_ok hT hps
 rw [Nat.ble_eq] at hle
 have hle' : len * (i.size + 1) <= 1048576 := hle
 have hmul : len * i.size + len <= 1048576 := by rw [Nat.mul_add] at hle'; omega
 obtain ⟨r', hr', hVr, h1⟩ := fill_ok (place' := fun j => some (j * i.size, i.size)) (fun j q hq => hq) hcs hPL (hzV.rep len) (repL_one hz1 len)
 refine does_val ?_ (newSlice_ok hH hid hlt hS (hE.info elem i hi) h hVr h1 (Nat.le_refl _) (by unfold U; omega))
 have hparts : (parts.map fun (p : Nat × Operand) => (p.1, a.eval p.2)).toList = parts.toList.map fun p => (p.1, a.eval p.2) := by simp
 simp only [execOp, ho]
 refine run_v ?_
 have hbig : ¬ len * i.size > 2 ^ 24 := by omega
 have hrow : ∀ zc : Array Value, (zc = ⟨zs⟩ \/ len * i.size = 0) -> ((Array.range (len * i.size)).map (fun j => zc[j % zc.size]!)) = ⟨repL zs len⟩ := by
  intro zc hzc'
  have hq := zeros_eq zs len
  rcases hzc' with rfl | h0
  ·
   rw [hzl]; exact hq
  ·
   rw [<- hzl, h0] at hq
   rw [h0, <- hq]
   simp
 by_cases h0 : len * i.size = 0
 ·
  have := hrow #[] (.inr h0)
  rw [h0] at this
  have h24 : ¬ 0 > 2 ^ 24 := by decide
  simp only [Instr.buildSlice, Sem.run_bind, run_und hE hd, Result.andThen_ok, run_size hE hsz, h24, if_false, h0, if_true, Sem.run_pure, this, hparts, hr', run_newRow]
 ·
  have := hrow ⟨zs⟩ (.inl rfl)
  simp only [Instr.buildSlice, Sem.run_bind, run_und hE hd, Result.andThen_ok, run_size hE hsz, hbig, if_false, h0, run_zero hE hzero, Sem.run_pure, hzc, this, hparts, hr', run_newRow]
include hH hid hlt hS in
theorem newMap_ok (h : newMap H id = some (v, H')) : Post P S ρ H w v H' (.map (some w.heap.size)) (w.alloc (.map #[] 0)) := by
 unfold newMap at h
 simp only [fN_eq, Option.some.injEq, Prod.mk.injEq] at h
 obtain ⟨rfl, rfl⟩ := h
 obtain ⟨hH', hSt⟩ := hH.fresh (S := S) hid hlt (x := .map [] 0) (e := ⟨w.heap.size, 0, 0, 0, 0⟩) (w' := w.alloc (.map #[] 0)) hS (Nat.le_refl _) rfl rfl rfl (by simp) (by
  show BR P _ _ _ (w.alloc (.map #[] 0)).heap[w.heap.size]?
  rw [heap_alloc_new]; exact .map .nil) (fun k hk => Below.heap_alloc _ _ _ hk)
 exact ⟨_, .map (ins_same _ _ _), hH', hSt⟩
include hE hH hid hlt hS hT in
theorem ok_makeMap {t : TypeId} {x : Option Operand} (ho : o.op = .makeMap t x) (h : oMakeMap t x env call id tm H = some (v, H')) : Does P o a w (Post P S ρ H w v H') := by
 cases x with
 | none =>
  have h' : newMap H id = some (v, H') := h
  refine does_val ?_ (newMap_ok hH hid hlt hS h')
  simp [execOp, ho, Instr.makeMap]
 | some x =>
  have h' : bnd (env.map t) (fun _ => bnd (eval tm x) fun v => chk (!(notInt v)) (newMap H id)) = some (v, H') := h
  simp only [bnd_eq, chk_eq] at h'
  obtain ⟨p, hp, u, hu, hi, h'⟩ := h'
  refine does_val ?_ (newMap_ok hH hid hlt hS h')
  have hd := map_inv hp
  have hV := eval_ok hT hu
  cases u with
  | int k n =>
   simp [execOp, ho, Instr.makeMap, run_und hE hd, hV.int_inv, asInt, asIntOf]
  | _ => simp [notInt] at hi
include hE hH hid hlt hS hT in
theorem ok_makeSlice {t : TypeId} {l c : Operand} (ho : o.op = .makeSlice t l c) (h : oMakeSlice t l c env call id tm H = some (v, H')) : Does P o a w (Post P S ρ H w v H') := by
 unfold oMakeSlice makeSlice at h
 simp only [bnd_eq, chk_eq, Bool.and_eq_true, Nat.ble_eq] at h
 obtain ⟨lv, hl, cv, hc, elem, hel, i, hi, z, hz, ln, hln, cn, hcn, ⟨hlc, hle⟩, zs, hzs, h⟩ := h
 have inv : ∀ {x : Value} {n : Nat}, i64Of x = some n -> x = .int .i64 (.ofNat n) := by
  intro x n hx
  unfold i64Of at hx
  split at hx
  ·
   cases hx; rfl
  ·
   cases hx
 have e1 := inv hln
 have e2 := inv hcn
 subst e1 e2
 have hV1 := (eval_ok hT hl).int_inv
 have hV2 := (eval_ok hT hc).int_inv
 have hzero : env.zero elem = some z := by simp [Env.zero, hi, hz]
 have hsz : env.size elem = some i.size := by simp [Env.size, hi]
 obtain ⟨hzc, hzV, hz1, hzsz⟩ := zero_cells (ρ := ρ) hE hzero hzs
 rw [hsz] at hzsz
 have hzl : i.size = zs.length := Option.some.inj hzsz
 have hd := slice_inv hel
 have hle' : cn * (i.bytes + 1) <= 1099511627776 := hle
 have hmul : cn * i.bytes + cn <= 1099511627776 := by rw [Nat.mul_add] at hle'; omega
 refine does_val ?_ (newSlice_ok hH hid hlt hS (hE.info elem i hi) h (hzV.rep cn) (repL_one hz1 cn) hlc (by unfold U; omega))
 simp only [execOp, ho, hV1, hV2]
 refine run_v ?_
 have hwl : IntKind.i64.wrap (Int.ofNat ln) = (ln : Int) := by
  show IntKind.i64.wrap ((ln : Nat) : Int) = _
  rw [<- ofUns_nat .i64 (m := ln) (by simp [IntKind.bits]; omega), ofUns_small (by omega)]
 have hwc : IntKind.i64.wrap (Int.ofNat cn) = (cn : Int) := by
  show IntKind.i64.wrap ((cn : Nat) : Int) = _
  rw [<- ofUns_nat .i64 (m := cn) (by simp [IntKind.bits]; omega), ofUns_small (by omega)]
 have hbig : ∀ n : Nat, n <= cn -> ¬ ((decide ((n : Int) < 0) || decide ((i.bytes : Int) * (n : Int) > 2 ^ 48)) = true) := by
  intro n hn
  have hb : n * i.bytes <= cn * i.bytes := Nat.mul_le_mul_right _ hn
  have hb' : (i.bytes : Int) * (n : Int) = ((n * i.bytes : Nat) : Int) := by rw [Nat.mul_comm]; simp
  rw [hb']
  simp
  omega
 have hcond : ¬ ((decide ((cn : Int) < 0) || decide ((i.bytes : Int) * (cn : Int) > 2 ^ 48) || decide ((ln : Int) < 0) || decide ((ln : Int) > (cn : Int))) = true) := by
  have := hbig cn (Nat.le_refl _)
  simp only [Bool.or_eq_true, not_or] at this ⊢
  refine ⟨⟨this, ?_⟩, ?_⟩ <;> simp <;> omega
 have hq := zeros_eq zs cn
 rw [<- hzl] at hq
 by_cases h0 : cn * i.size = 0
 ·
  have hq0 : (Array.range (cn * i.size)).map (fun j => (#[] : Array Value)[j % (#[] : Array Value).size]!) = ⟨repL zs cn⟩ := by
   rw [h0] at hq ⊢; rw [<- hq]; simp
  simp only [Instr.makeSlice, asInt, asIntOf, Sem.run_bind, Sem.run_pure, run_und hE hd, Result.andThen_ok, run_info hE hi, hwl, hwc]
  rw [if_neg (by simpa using hcond)]
  simp only [Sem.run_bind, run_askRoom, Result.andThen_ok, run_size hE hsz, Int.toNat_natCast, h0, if_true, Sem.run_pure]
  rw [h0] at hq0
  simp only [hq0, run_newRow, Result.andThen_ok]
 ·
  simp only [Instr.makeSlice, asInt, asIntOf, Sem.run_bind, Sem.run_pure, run_und hE hd, Result.andThen_ok, run_info hE hi, hwl, hwc]
  rw [if_neg (by simpa using hcond)]
  simp only [Sem.run_bind, run_askRoom, Result.andThen_ok, run_size hE hsz, Int.toNat_natCast, h0, if_false, run_zero hE hzero, hzc, Sem.run_pure, hq, run_newRow]
end
end Go.Ev
namespace Go.Ev
open Go.RowKit
variable [Sg]
section
variable {P : Program} {S : Nat -> Prop} {ρ : Map} {H : Heap} {w : World} {a : Act}
variable {env : Env} (hE : EnvOk P env)
variable {id : Nat} {v : Value} {H' : Heap}
variable (hH : HR P ρ H w) (hid : ρ id = none) (hlt : id < H.next) (hS : S id)
include hH in
theorem source_ok {size n : Nat} {x x' : Value} {new : List Value} (h : source H size x = some (n, new)) (hx : V ρ x x') :
  ∃ new', VL ρ new new' /\ (∀ y ∈ new', y.oneCell' = true) /\ new'.length = n * size /\ (Builtin.lenOf x').run P w = .ok n w /\
   ∀ m, m <= n -> (Builtin.firstCells size m x').run P w = .ok ⟨new'.take (m * size)⟩ w := by
 unfold source at h
 split at h
 ·
  cases h
  cases hx
  exact ⟨[], .nil, by simp, by simp, rfl, fun m hm => by simp [Builtin.firstCells]⟩
 ·
  rename_i p n' c
  rw [bnd_eq] at h
  obtain ⟨l, hl, e⟩ := h
  cases e
  have fin : ∀ (p' : Addr) (c' : Nat), AR ρ p p' -> x' = .slice (some p') n c' -> ∃ new', VL ρ new new' /\ (∀ y ∈ new', y.oneCell' = true) /\ new'.length = n * size /\ (Builtin.lenOf x').run P w = .ok n w /\
    ∀ m, m <= n -> (Builtin.firstCells size m x').run P w = .ok ⟨new'.take (m * size)⟩ w := by
   intro p' c' hAR hx'
   obtain ⟨l', hVL, h1, hlen, hc⟩ := hH.load hAR hl
   refine ⟨l', hVL, h1, hlen, by rw [hx']; rfl, fun m hm => ?_⟩
   rw [hx']
   have hms : m * size <= n * size := Nat.mul_le_mul_right size hm
   have := run_loadCells_of (P := P) (w := w) (a' := p') (l' := l'.take (m * size)) (n := m * size) (by rw [List.length_take]; rw [show Nat.mul n size = n * size from rfl] at hlen; omega) (fun j v hj => by
    rw [List.getElem?_take] at hj
    split at hj
    ·
     exact hc j v hj
    ·
     cases hj)
   simpa [Builtin.firstCells] using this
  cases hx with
  | slice h0 hn hc => exact fin _ _ ⟨_, h0, rfl, rfl⟩ rfl
  | sliceU h0 hn hc => exact fin _ _ ⟨_, h0, rfl, rfl⟩ rfl
  | empty h0 hs =>
   have : new = [] := by
    unfold cellsAt at hl
    simp only [chk_eq, bnd_eq] at hl
    obtain ⟨_, _, _, _, _, hl⟩ := hl
    rw [takeN_eq, show Nat.mul 0 size = 0 from Nat.zero_mul size] at hl
    simpa using hl.2
   subst this
   refine ⟨[], .nil, by simp, by simp, rfl, fun m hm => ?_⟩
   have : m = 0 := by omega
   subst this
   simp [Builtin.firstCells, loadCells, loadCellsFrom]
 ·
  rename_i s
  rw [chk_eq] at h
  obtain ⟨hs, e⟩ := h
  have hs1 := Nat.eq_of_beq_eq_true hs
  subst hs1
  simp only [lenL_eq, mapL_eq, Option.some.injEq, Prod.mk.injEq] at e
  obtain ⟨rfl, rfl⟩ := e
  rw [hx.string_inv]
  refine ⟨_, VL.bytes _, bytes_one _, by simp, ?_, fun m hm => ?_⟩
  ·
   have : s.data.toList.length = s.size := by simp
   rw [this]; rfl
  ·
   have : ((s.extract 0 m).data.map fun b => Value.int .u8 b.toNat) = ⟨(s.data.toList.map byteVal).take (m * 1)⟩ := by
    apply Array.ext'
    simp [List.extract_eq_take_drop]
    rfl
   simp only [Builtin.firstCells, Sem.run_pure, this]
 ·
  cases h
omit [Sg] in
theorem nextslicecap_le (need old : Nat) (h : old < need) : Builtin.nextslicecap need old <= 2 * need + 192 := by
 have hg : ∀ (r c : Nat), c <= 2 * need + 192 -> Builtin.growBy need r c <= 2 * need + 192 := by
  intro r
  induction r with
  | zero => intro c hc; simpa [Builtin.growBy] using hc
  | succ r ih =>
   intro c hc
   unfold Builtin.growBy
   split
   ·
    exact hc
   ·
    exact ih _ (by omega)
 unfold Builtin.nextslicecap
 split
 ·
  omega
 ·
  split
  ·
   omega
  ·
   exact hg _ _ (by omega)
omit [Sg] in
theorem run_append_moves {t1 t2 elem ty : TypeId} {d2 : TypeDesc} {i : TypeInfo} {z : Value} {zs : List Value} (hd : P.underlying t1 = some (.slice elem)) (hd2 : P.underlying t2 = some d2) (hni : isInt d2 = false)
  (hi : P.info? elem = some i) (hz : i.zero = some z) (hzc : z.cells = ⟨zs⟩) (hzl : zs.length = i.size)
  {base : Option Addr} {sLen sCap n : Nat} {x' : Value} {old new : List Value} (hlen : (Builtin.lenOf x').run P w = .ok n w)
  (hold : (Builtin.firstCells i.size sLen (.slice base sLen sCap)).run P { w with drawn := w.drawn + 1 } = .ok ⟨old⟩ { w with drawn := w.drawn + 1 })
  (hnew : (Builtin.firstCells i.size n x').run P { w with drawn := w.drawn + 1 } = .ok ⟨new⟩ { w with drawn := w.drawn + 1 })
  (hol : old.length = sLen * i.size) (hnl : new.length = n * i.size) (hgt : sCap < sLen + n) (hbound : (sLen + n) * (i.bytes + 1) <= 1099511627776) :
  ∃ cap C W, (Builtin.append_ #[t1, t2] ty #[.slice base sLen sCap, x']).run P w = .ok (.slice (some ⟨w.heap.size, 0, none⟩) (sLen + n) cap) W /\ sLen + n <= cap /\ C.size = cap * i.size /\
   C.toList.take (old ++ new).length = old ++ new /\ W = ({ w with drawn := w.drawn + 1 } : World).alloc (.cells C elem) := by
 let q : Question := .appendCap (sLen + n) sCap elem
 let cap := q.cut (w.tape w.drawn q)
 have hcap : sLen + n <= cap := by simp only [cap, q, Question.cut]; omega
 let C : Array Value := ⟨old⟩ ++ ⟨new⟩ ++ Builtin.zeroCells ⟨zs⟩ (cap - (sLen + n))
 have hzs : Builtin.zeroCells ⟨zs⟩ (cap - (sLen + n)) = ⟨repL zs (cap - (sLen + n))⟩ := zeros_eq zs _
 have hCs : C.size = cap * i.size := by
  simp only [C, hzs, Array.size_append, List.size_toArray, repL_length, hol, hnl, hzl]
  rw [<- Nat.add_mul, <- Nat.add_mul]
  congr 1; omega
 refine ⟨cap, C, _, ?_, hcap, hCs, ?_, rfl⟩
 ·
  have hm : (match (some t2 : Option TypeId) with | some xType => (do pure ((<- underlying xType) matches .int _) : Sem Bool) | none => pure false).run P w = .ok false w := by
   simp only [Sem.run_bind, run_underlying hd2, Result.andThen_ok]
   cases d2 <;> first | rfl | simp [isInt] at hni
  have hn1 : sLen + n <= 1099511627776 := by
   have : (sLen + n) * 1 <= (sLen + n) * (i.bytes + 1) := Nat.mul_le_mul_left _ (by omega)
   omega
  have hno1 : ¬ (((sLen + n : Nat) : Int) > IntKind.i64.max /\ (false = true \/ i.bytes = 0)) := by
   rw [IntKind.max_i64]; omega
  have hns := nextslicecap_le (sLen + n) sCap hgt
  have hno2 : ¬ Builtin.nextslicecap (sLen + n) sCap * i.bytes > 2 ^ 48 := by
   have h1 : Builtin.nextslicecap (sLen + n) sCap * i.bytes <= (2 * (sLen + n) + 192) * i.bytes := Nat.mul_le_mul_right _ hns
   have h2 : (2 * (sLen + n) + 192) * i.bytes = 2 * ((sLen + n) * i.bytes) + 192 * i.bytes := by rw [Nat.add_mul, Nat.mul_assoc]
   have h3 : (sLen + n) * (i.bytes + 1) = (sLen + n) * i.bytes + (sLen + n) := by rw [Nat.mul_add, Nat.mul_one]
   have h4 : i.bytes <= (sLen + n) * i.bytes := Nat.le_mul_of_pos_left _ (by omega)
   omega
  have hneed : ¬ sLen + n <= sCap := by omega
  have hinfo : ∀ w', (typeInfo elem).run P w' = .ok i w' := by intro w'; simp [typeInfo, hi]
  have hsize : ∀ w', (sizeOf elem).run P w' = .ok i.size w' := by intro w'; simp [sizeOf, hinfo]
  have hzero : ∀ w', (zeroValue elem).run P w' = .ok z w' := by intro w'; simp [zeroValue, hinfo, hz]
  have hq : q.forced = false := rfl
  simp only [Builtin.append_, List.getElem?_toArray, List.getElem?_cons_zero, List.getElem?_cons_succ, Sem.run_bind, run_underlying hd, Result.andThen_ok, hsize]
  rw [run_underlying hd2, Result.andThen_ok]
  refine (congrArg (fun bb => (Sem.run P (pure bb) w).andThen _) (?_ : _ = false)).trans ?_
  ·
   cases d2 <;> first | rfl | simp [isInt] at hni
  ·
   simp only [Result.andThen_ok, Sem.run_pure, Bool.false_eq_true, if_false, hlen, Sem.run_bind, hneed, Sem.run_ite, hinfo, hno2, false_or, Bool.not_false, if_true,
    run_choose, show (Question.appendCap (sLen + n) sCap elem).forced = false from rfl, run_askRoom, hold, hnew, hzero, hzc, newRow, run_newObj]
   rw [if_neg (by simpa using hno1)]
   rfl
 ·
  have e : C.toList = old ++ new ++ (Builtin.zeroCells ⟨zs⟩ (cap - (sLen + n))).toList := by simp [C]
  rw [e]
  exact List.take_left' rfl
omit [Sg] in
theorem run_append_room {t1 t2 elem ty : TypeId} {d2 : TypeDesc} {size : Nat} (hd : P.underlying t1 = some (.slice elem)) (hd2 : P.underlying t2 = some d2) (hni : isInt d2 = false)
  (hsize : (sizeOf elem).run P w = .ok size w) {base : Option Addr} {sLen sCap n : Nat} {x' : Value} {new : List Value} (hlen : (Builtin.lenOf x').run P w = .ok n w)
  (hnew : (Builtin.firstCells size n x').run P w = .ok ⟨new⟩ w) (hle : sLen + n <= sCap) {w' : World}
  (hst : (match base with | some a => storeCells (a.add (sLen * size)) new | none => pure () : Sem Unit).run P w = .ok () w') :
  (Builtin.append_ #[t1, t2] ty #[.slice base sLen sCap, x']).run P w = .ok (.slice base (sLen + n) sCap) w' := by
 simp only [Builtin.append_, List.getElem?_toArray, List.getElem?_cons_zero, List.getElem?_cons_succ, Sem.run_bind, run_underlying hd, Result.andThen_ok, hsize]
 rw [run_underlying hd2, Result.andThen_ok]
 refine (congrArg (fun bb => (Sem.run P (pure bb) w).andThen _) (?_ : _ = false)).trans ?_
 ·
  cases d2 <;> first | rfl | simp [isInt] at hni
 ·
  simp only [Result.andThen_ok, Sem.run_pure, Bool.false_eq_true, if_false, hlen, Sem.run_bind, hle, if_true, Bool.not_false, hnew]
  cases base with
  | none =>
   have e : Result.ok () w = Result.ok () w' := hst
   cases e
   rfl
  | some a =>
   simp only [Sem.run_bind, Sem.run_pure]
   simp only at hst
   rw [hst]
   rfl
theorem HR.drewOk {k : Nat} (h : HR P ρ H w) : HR P ρ H { w with drawn := k } := ⟨h.blk, h.inj, h.dom, h.lim, h.top⟩
omit [Sg] in
theorem isU_false {c : Nat} (h : c ≠ U) : isU c = false := by
 unfold isU
 cases hb : Nat.beq c U with
 | false => rfl
 | true => exact (h (Nat.eq_of_beq_eq_true hb)).elim
omit [Sg] in
theorem Step.drew {k : Nat} {ρ' : Map} {H' : Heap} {w' : World} (h : Step S ρ H { w with drawn := k } ρ' H' w') : Step S ρ H w ρ' H' w' :=
 ⟨h.ext, h.os, h.tape, h.output, h.size, h.keep, h.wr, h.next, h.mp, h.abs1, h.abs2⟩
omit [Sg] in
include hE in
omit hE in
theorem size_eq {e : TypeId} {i : TypeInfo} (hi : env.info e = some i) : env.size e = some i.size := by simp [Env.size, hi]
include hE hH hid hlt hS in
theorem moved_ok {t1 t2 elem ty : TypeId} {d2 : TypeDesc} {i : TypeInfo} {z : Value} {zs : List Value} (hd : P.underlying t1 = some (.slice elem)) (hd2 : P.underlying t2 = some d2) (hni : isInt d2 = false)
  (hi : env.info elem = some i) (hz : i.zero = some z) (hzs : cellsV z = some zs) {base : Option Addr} {sLen sCap n : Nat} {x' : Value} {old old' new new' : List Value}
  (hlen : (Builtin.lenOf x').run P w = .ok n w)
  (hold : (Builtin.firstCells i.size sLen (.slice base sLen sCap)).run P { w with drawn := w.drawn + 1 } = .ok ⟨old'⟩ { w with drawn := w.drawn + 1 })
  (hnew : (Builtin.firstCells i.size n x').run P { w with drawn := w.drawn + 1 } = .ok ⟨new'⟩ { w with drawn := w.drawn + 1 })
  (hVo : VL ρ old old') (ho1 : ∀ y ∈ old', y.oneCell' = true) (hVn : VL ρ new new') (hn1 : ∀ y ∈ new', y.oneCell' = true)
  (hol : old'.length = sLen * i.size) (hnl : new'.length = n * i.size) (hgt : sCap < sLen + n) (hbound : (sLen + n) * (i.bytes + 1) <= 1099511627776)
  (h : newSlice H id (sLen + n) U elem (old ++ new) = some (v, H')) :
  ∃ v' w', (Builtin.append_ #[t1, t2] ty #[.slice base sLen sCap, x']).run P w = .ok v' w' /\ Post P S ρ H w v H' v' w' := by
 obtain ⟨rfl, rfl⟩ := newSlice_eq h
 have hzero : env.zero elem = some z := by simp [Env.zero, hi, hz]
 obtain ⟨hzc, _, _, hzsz⟩ := zero_cells (ρ := ρ) hE hzero hzs
 have hzl : zs.length = i.size := by
  rw [size_eq hi] at hzsz
  exact (Option.some.inj hzsz).symm
 obtain ⟨cap, C, W, hrun, hcap, hCs, hCt, hW⟩ := run_append_moves (ty := ty) hd hd2 hni (hE.info _ _ hi) hz hzc hzl hlen hold hnew hol hnl hgt hbound
 refine ⟨_, W, hrun, ?_⟩
 subst hW
 have hw := (hH.drewOk (k := w.drawn + 1)).row (S := S) hid hlt hS (cs := old ++ new) (cs' := old' ++ new') (C := C) (elem := elem) (fr := (0, 0)) (hE.info _ _ hi) (hVo.append hVn)
  (fun y hy => (List.mem_append.1 hy).elim (ho1 y) (hn1 y)) (by simp) hCt (w' := ({ w with drawn := w.drawn + 1 } : World).alloc (.cells C elem)) rfl rfl rfl (by simp) (heap_alloc_new _ _) (fun k hk => Below.heap_alloc _ _ _ hk)
 refine ⟨_, ?_, hw.1, hw.2.drew⟩
 have := V.sliceU (ρ := ins ρ id ⟨w.heap.size, 0, (old' ++ new').length, C.size, i.size⟩) (b := id) (o := 0) (n := sLen + n) (c := cap) (ins_same _ _ _) hcap (by simp [hCs])
 simpa using this
end
end Go.Ev
namespace Go.Ev
open Go.RowKit
variable [Sg]
section
variable {P : Program} {S : Nat -> Prop} {ρ : Map} {H : Heap} {w : World} {a : Act}
variable {env : Env} (hE : EnvOk P env)
variable {id : Nat} {v : Value} {H' : Heap}
variable (hH : HR P ρ H w) (hid : ρ id = none) (hlt : id < H.next) (hS : S id)
omit [Sg] in
theorem moveBy_off (b o n : Nat) : moveBy ⟨b, o, none⟩ n = ⟨b, o + n, none⟩ := by
 unfold moveBy
 rw [ifB_eq]
 split
 ·
  rename_i hz
  have := Nat.eq_of_beq_eq_true hz
  rw [this]; rfl
 ·
  rfl
include hH in
theorem firstCells_whole {p p' : Addr} (hAR : AR ρ p p') {size n c : Nat} {l : List Value} (hl : cellsAt H p (n * size) = some l) :
  ∃ l', VL ρ l l' /\ (∀ y ∈ l', y.oneCell' = true) /\ l'.length = n * size /\ (Builtin.firstCells size n (.slice (some p') n c)).run P w = .ok ⟨l'⟩ w := by
 obtain ⟨l', hVL, h1, hlen, hc⟩ := hH.load hAR hl
 exact ⟨l', hVL, h1, hlen, run_loadCells_of hlen hc⟩
include hE hH hid hlt hS in
theorem append_ok {t1 t2 ty : TypeId} {s s' x x' : Value} (hs : V ρ s s') (hx : V ρ x x') (h : append env H id t1 t2 s x = some (v, H')) :
  ∃ v' w', (Builtin.append_ #[t1, t2] ty #[s', x']).run P w = .ok v' w' /\ Post P S ρ H w v H' v' w' := by
 unfold append appendOf at h
 simp only [bnd_eq, chk_eq, Bool.not_eq_true'] at h
 obtain ⟨d2, hd2, hni, elem, hel, ⟨base, len, cap⟩, hp, i, hi, z, hz, zs, hzs, ⟨n, new⟩, hsrc, h⟩ := h
 have hsp : s = .slice base len cap := by
  cases s with
  | slice b n c => simp [sliceParts] at hp; obtain ⟨rfl, rfl, rfl⟩ := hp; rfl
  | _ => simp [sliceParts] at hp
 subst hsp
 have hd := hE.und _ _ (slice_inv hel)
 have hdd2 := hE.und _ _ hd2
 have hsize : ∀ w, (sizeOf elem).run P w = .ok i.size w := fun w => run_size hE (size_eq hi) w
 dsimp only at h
 obtain ⟨new', hVn, hn1, hnl, hlen, hfirst⟩ := source_ok hH hsrc hx
 have hnew : (Builtin.firstCells i.size n x').run P w = .ok ⟨new'⟩ w := by
  have := hfirst n (Nat.le_refl _)
  rwa [List.take_of_length_le (by omega)] at this
 obtain ⟨newd', _, _, _, _, hfirstd⟩ := source_ok (w := { w with drawn := w.drawn + 1 }) hH.drewOk hsrc hx
 have hnewd : (Builtin.firstCells i.size n x').run P { w with drawn := w.drawn + 1 } = .ok ⟨new'⟩ { w with drawn := w.drawn + 1 } := by
  unfold source at hsrc
  split at hsrc
  ·
   cases hsrc; cases hx
   have : new' = [] := by cases hVn; rfl
   subst this
   simp [Builtin.firstCells]
  ·
   rename_i p n' c'
   rw [bnd_eq] at hsrc
   obtain ⟨l, hl, e⟩ := hsrc
   simp only [Option.some.injEq, Prod.mk.injEq] at e
   obtain ⟨rfl, rfl⟩ := e
   have fin : ∀ (p' : Addr) (c'' : Nat), AR ρ p p' -> x' = .slice (some p') n' c'' -> (Builtin.firstCells i.size n' x').run P { w with drawn := w.drawn + 1 } = .ok ⟨new'⟩ { w with drawn := w.drawn + 1 } := by
    intro p' c'' hAR hx'
    subst hx'
    obtain ⟨l', _, _, hlen', hc⟩ := hH.load hAR hl
    have h1 := run_loadCells_of (P := P) (w := w) hlen' hc
    have h2 := run_loadCells_of (P := P) (w := { w with drawn := w.drawn + 1 }) (a' := p') hlen' hc
    have h3 : (loadCells p' (n' * i.size)).run P w = .ok ⟨new'⟩ w := hnew
    rw [show Nat.mul n' i.size = n' * i.size from rfl] at h1 h2
    rw [h1] at h3
    cases h3
    exact h2
   cases hx with
   | slice h0 hn hc => exact fin _ _ ⟨_, h0, rfl, rfl⟩ rfl
   | sliceU h0 hn hc => exact fin _ _ ⟨_, h0, rfl, rfl⟩ rfl
   | empty h0 hs0 =>
    have : new' = [] := List.length_eq_zero_iff.1 (by omega)
    subst this
    simp [Builtin.firstCells, loadCells, loadCellsFrom]
  ·
   rw [hx.string_inv] at hnew ⊢
   simp only [Builtin.firstCells, Sem.run_pure, Result.ok.injEq] at hnew ⊢
   exact ⟨hnew.1, trivial⟩
  ·
   cases hsrc
 rw [ifB_eq] at h
 split at h
 ·
  rename_i hn0
  have hn0' : n = 0 := Nat.eq_of_beq_eq_true hn0
  subst hn0'
  cases h
  have : new' = [] := List.length_eq_zero_iff.1 (by omega)
  subst this
  have room : ∀ (b' : Option Addr) (c' : Nat), s' = .slice b' len c' -> len <= c' -> ∃ v' w', (Builtin.append_ #[t1, t2] ty #[s', x']).run P w = .ok v' w' /\ Post P S ρ H w (.slice base len cap) H v' w' := by
   intro b' c' hs' hle
   refine ⟨s', w, ?_, ρ, hs, hH, .refl _ _ _ _⟩
   rw [hs']
   have := run_append_room (ty := ty) hd hdd2 hni (hsize w) (base := b') hlen hnew (show len + 0 <= c' by omega) (w' := w) (by cases b' <;> rfl)
   simpa using this
  cases hs with
  | nilSlice => exact room none 0 rfl (Nat.le_refl _)
  | slice h0 hn hc => exact room _ _ rfl hn
  | sliceU h0 hn hc => exact room _ _ rfl hn
  | empty h0 hs0 => exact room _ _ rfl (Nat.le_refl _)
 ·
  rename_i hn0
  have hn0' : n ≠ 0 := fun e => hn0 (by subst e; rfl)
  rw [chk_eq] at h
  obtain ⟨hok, h⟩ := h
  simp only [Bool.and_eq_true, Bool.not_eq_true', Nat.ble_eq] at hok
  obtain ⟨hsz0, hbound⟩ := hok
  have hszp : 0 < i.size := by
   rcases Nat.eq_zero_or_pos i.size with e | e
   ·
    rw [e] at hsz0; cases hsz0
   ·
    exact e
  have hbound' : (len + n) * (i.bytes + 1) <= 1099511627776 := hbound
  cases hs with
  | nilSlice =>
   have h' : newSlice H id n U elem new = some (v, H') := h
   exact moved_ok hE hH hid hlt hS hd hdd2 hni hi hz hzs (base := none) (sLen := 0) (sCap := 0) (old := []) (old' := []) hlen (by simp [Builtin.firstCells]) hnewd .nil (by simp) hVn hn1 (by simp) hnl (by omega) hbound' (by simpa using h')
  | slice h0 hn hc =>
   rename_i b o e
   have h' : appendTo H id elem i.size ⟨b, o, none⟩ len cap n new = some (v, H') := h
   unfold appendTo at h'
   rw [isU_false hc, ifB_false, ifB_eq] at h'
   have hAR : AR ρ ⟨b, o, none⟩ ⟨e.B, e.base + o, none⟩ := ⟨e, h0, rfl, rfl⟩
   split at h'
   ·
    rename_i hle
    rw [Nat.ble_eq] at hle
    have hle' : len + n <= cap := hle
    simp only [bnd_eq, mkSlice_eq] at h'
    obtain ⟨H1, hst, q, hq, e'⟩ := h'
    cases hq; cases e'
    obtain ⟨w', hrun, hH', hSt⟩ := hH.store (hAR.move _) hst hVn hn1 S
    refine ⟨_, w', run_append_room (ty := ty) hd hdd2 hni (hsize w) hlen hnew hle' hrun, ρ, ?_, hH', hSt⟩
    exact .slice h0 hle' hc
   ·
    rename_i hle
    rw [Nat.ble_eq] at hle
    have hgt : cap < len + n := by have : ¬ len + n <= cap := hle; omega
    rw [bnd_eq] at h'
    obtain ⟨old, hold, h'⟩ := h'
    obtain ⟨old', hVo, ho1, hol, hfo⟩ := firstCells_whole (w := { w with drawn := w.drawn + 1 }) hH.drewOk hAR (c := cap) hold
    rw [appL_eq] at h'
    exact moved_ok hE hH hid hlt hS hd hdd2 hni hi hz hzs hlen hfo hnewd hVo ho1 hVn hn1 hol hnl hgt hbound' h'
  | sliceU h0 hn hc =>
   rename_i b o c e
   have h' : appendTo H id elem i.size ⟨b, o, none⟩ len U n new = some (v, H') := h
   unfold appendTo at h'
   rw [show isU U = true from rfl, ifB_true] at h'
   unfold appendU at h'
   simp only [chk_eq, bnd_eq, Bool.and_eq_true] at h'
   obtain ⟨_, x0, hx0, ⟨cs, elem', ro⟩, hcs, ⟨hro, helm⟩, h'⟩ := h'
   rw [cellsOf_eq] at hcs
   dsimp only at hcs hro helm h'
   have := Nat.eq_of_beq_eq_true helm
   have hro' := isRw_eq hro
   subst this hro' hcs
   have hAR : AR ρ ⟨b, o, none⟩ ⟨e.B, e.base + o, none⟩ := ⟨e, h0, rfl, rfl⟩
   obtain ⟨hek, hcsz, hroom⟩ := block_k hE hH hx0 h0 (size_eq hi)
   have hb := hH.blk _ _ _ hx0 h0
   rw [ifB_eq] at h'
   simp only [lenL_eq, appL_eq, dropL_eq] at h'
   split at h'
   ·
    rename_i hend
    have hend' : o + len * i.size = cs.length := Nat.eq_of_beq_eq_true hend
    rw [chk_eq] at h'
    obtain ⟨hmodo, h'⟩ := h'
    have hmodo' : o % i.size = 0 := Nat.eq_of_beq_eq_true hmodo
    by_cases hle : len + n <= c
    ·
     obtain ⟨rfl, rfl⟩ := newSlice_eq h'
     generalize hg : w.heap[e.B]? = g at hb
     cases hb with
     | cells hi' hk' hs' hr' hC hf hv' h1' hmodb =>
      rename_i C fr j
      have hln := hVn.length
      have hmul : (len + n) * i.size = len * i.size + n * i.size := Nat.add_mul _ _ _
      have hle2 : (len + n) * i.size <= c * i.size := Nat.mul_le_mul_right _ hle
      rw [hek] at hc
      obtain ⟨w', hrun, h2, h3, h4, h5, h6, h7⟩ := run_storeCells_row P e.B elem fr (e.base + o + len * i.size) new' 0 C w hg (by omega) (hf rfl) hn1
      let e' : Emb := ⟨e.B, e.base + o, (cs.drop o).length + new'.length, e.room - o, i.size⟩
      have hwinC : (win C e).drop o = (C.toList.drop (e.base + o)).take (e.size - o) := by
       unfold win
       rw [List.drop_take, List.drop_drop]
      have hCl : C.toList.length = e.base + e.room := by simpa using hC
      have hwin : win (putRow C (e.base + o + len * i.size) new') e' = (win C e).drop o ++ new' := by
       have hlo : e.base + o + len * i.size = e.base + e.size := by omega
       rw [hwinC]
       unfold win putRow
       simp only [e', hlo]
       have hl1 : (C.toList.take (e.base + e.size)).length = e.base + e.size := by rw [List.length_take, hCl]; omega
       rw [List.drop_append_of_le_length (by rw [hl1]; omega)]
       rw [<- List.append_assoc]
       have hl2 : ((C.toList.take (e.base + e.size)).drop (e.base + o) ++ new').length = (cs.drop o).length + new'.length := by
        rw [List.length_append, List.length_drop, hl1, List.length_drop]; omega
       rw [<- hl2, List.take_left' rfl, List.drop_take]
       congr 2
       omega
      have hren := hH.renum (S := S) (e' := e') (x' := .cells (cs.drop o ++ new) elem .rw) (w' := w') hx0 h0 rfl hid hlt rfl hS h2 h3 h4 h5 (by
       rw [h6]
       refine .cells (hE.info _ _ hi) rfl ?_ ?_ ?_ ?_ ?_ ?_ (by show (e.base + o) % i.size = 0; rw [hek] at hmodb; rw [Nat.add_mod, hmodb, hmodo', Nat.zero_add, Nat.zero_mod])
       ·
        simp only [e', List.length_append]; omega
       ·
        simp only [e', List.length_drop]; omega
       ·
        rw [putRow_size _ _ _ (by omega)]; simp only [e']; omega
       ·
        intro _ j hj
        rw [putRow_size _ _ _ (by omega)] at hj
        exact hf rfl j hj
       ·
        rw [Nat.add_zero, hwin]
        exact ((hv'.drop o).append hVn).mono (Le.ins hid _)
       ·
        rw [Nat.add_zero, hwin]
        intro y hy
        rcases List.mem_append.1 hy with hy | hy
        ·
         exact h1' y (List.mem_of_mem_drop hy)
        ·
         exact hn1 y hy) h7
      refine ⟨_, w', run_append_room (ty := ty) hd hdd2 hni (hsize w) (base := some ⟨e.B, e.base + o, none⟩) hlen hnew hle (by simp only [add_mk]; exact hrun), _, ?_, hren.1, hren.2⟩
      have := V.sliceU (ρ := ins ρ id e') (b := id) (o := 0) (n := len + n) (c := c) (ins_same _ _ _) hle (by simp only [e']; omega)
      simpa using this
    ·
     obtain ⟨hHd, hSd⟩ := hH.drop h0 S
     have hold : cellsAt H ⟨b, o, none⟩ (len * i.size) = some (cs.drop o) := by
      unfold cellsAt
      simp only [chk_eq, bnd_eq]
      refine ⟨rfl, _, hx0, _, rfl, ?_⟩
      rw [takeN_eq, dropL_eq]
      dsimp only
      rw [List.length_drop, List.take_of_length_le (by rw [List.length_drop]; omega)]
      exact ⟨by omega, rfl⟩
     obtain ⟨old', hVo, ho1, hol, hfo⟩ := firstCells_whole (w := { w with drawn := w.drawn + 1 }) hH.drewOk hAR (c := c) hold
     obtain ⟨v', w', hrun, ρ', hV', hH', hS'⟩ := moved_ok hE hHd hid hlt hS hd hdd2 hni hi hz hzs hlen hfo hnewd hVo ho1 hVn hn1 hol hnl (by omega) hbound' h'
     exact ⟨v', w', hrun, ρ', hV', hH', hSd.trans hS'⟩
   ·
    rename_i hend
    simp only [bnd_eq, mkSlice_eq] at h'
    obtain ⟨cs', hcs', q, hq, e'⟩ := h'
    cases hq; cases e'
    have hst : storeAt H ⟨b, o + len * i.size, none⟩ new = some (H.set b (.cells cs' elem .rw)) := by
     unfold storeAt
     simp only [chk_eq, bnd_eq]
     refine ⟨rfl, _, hx0, _, rfl, rfl, cs', hcs', rfl⟩
    unfold writeAt at hcs'
    rw [writeAt_eq] at hcs'
    obtain ⟨hfit, _⟩ := hcs'
    have hln := hVn.length
    have hfit' : o + len * i.size + new.length <= cs.length := hfit
    have hle : len + n <= c := by
     have hmul : (len + n) * i.size = len * i.size + n * i.size := Nat.add_mul _ _ _
     rw [hek] at hc
     have : (len + n) * i.size <= c * i.size := by omega
     exact Nat.le_of_mul_le_mul_right this hszp
    have hAR2 : AR ρ ⟨b, o + len * i.size, none⟩ ((⟨e.B, e.base + o, none⟩ : Addr).add (len * i.size)) := by
     have := hAR.move (len * i.size)
     rwa [moveBy_off] at this
    obtain ⟨w', hrun, hH', hSt⟩ := hH.store hAR2 hst hVn hn1 S
    exact ⟨_, w', run_append_room (ty := ty) hd hdd2 hni (hsize w) hlen hnew hle hrun, ρ, .sliceU h0 hle hc, hH', hSt⟩
  | empty h0 hs0 =>
   rename_i b o e a'
   have h' : appendTo H id elem i.size ⟨b, o, none⟩ 0 U n new = some (v, H') := h
   unfold appendTo at h'
   rw [show isU U = true from rfl, ifB_true] at h'
   unfold appendU at h'
   simp only [chk_eq, bnd_eq, Bool.and_eq_true] at h'
   obtain ⟨_, x0, hx0, ⟨cs, elem', ro⟩, hcs, ⟨hro, helm⟩, h'⟩ := h'
   rw [cellsOf_eq] at hcs
   dsimp only at hcs hro helm h'
   have := Nat.eq_of_beq_eq_true helm
   have hro' := isRw_eq hro
   subst this hro' hcs
   obtain ⟨hek, hcsz, hroom⟩ := block_k hE hH hx0 h0 (size_eq hi)
   rw [ifB_eq] at h'
   simp only [lenL_eq, appL_eq, dropL_eq] at h'
   split at h'
   ·
    rw [chk_eq] at h'
    obtain ⟨_, h'⟩ := h'
    obtain ⟨hHd, hSd⟩ := hH.drop h0 S
    have hold : cs.drop o = [] := List.drop_eq_nil_of_le (by omega)
    rw [hold] at h'
    obtain ⟨v', w', hrun, ρ', hV', hH', hS'⟩ := moved_ok hE hHd hid hlt hS hd hdd2 hni hi hz hzs (base := some a') (sLen := 0) (sCap := 0) (old := []) (old' := []) hlen
     (by simp [Builtin.firstCells, loadCells, loadCellsFrom]) hnewd .nil (by simp) hVn hn1 (by simp) hnl (by omega) hbound' h'
    exact ⟨v', w', hrun, ρ', hV', hH', hSd.trans hS'⟩
   ·
    rename_i hend
    simp only [bnd_eq, mkSlice_eq] at h'
    obtain ⟨cs', hcs', q, hq, e'⟩ := h'
    unfold writeAt at hcs'
    rw [writeAt_eq] at hcs'
    obtain ⟨hfit, _⟩ := hcs'
    have hln := hVn.length
    have hfit' : o + 0 * i.size + new.length <= cs.length := hfit
    have : 0 < n * i.size := Nat.mul_pos (by omega) hszp
    omega
include hE hH in
theorem copy_ok {t1 t2 ty : TypeId} {s s' x x' : Value} (hs : V ρ s s') (hx : V ρ x x') (h : copyOp env H t1 s x = some (v, H')) :
  ∃ v' w', (Builtin.copy_ #[t1, t2] ty #[s', x']).run P w = .ok v' w' /\ Post P S ρ H w v H' v' w' := by
 unfold copyOp copyTo at h
 simp only [bnd_eq] at h
 obtain ⟨elem, hel, ⟨base, len, cap⟩, hp, size, hsz, ⟨n, new⟩, hsrc, q, hq, h⟩ := h
 rw [mkInt_eq] at hq
 cases hq
 have hsp : s = .slice base len cap := by
  cases s with
  | slice b n c => simp [sliceParts] at hp; obtain ⟨rfl, rfl, rfl⟩ := hp; rfl
  | _ => simp [sliceParts] at hp
 subst hsp
 obtain ⟨new', hVn, hn1, hnl, hlen, hfirst⟩ := source_ok hH hsrc hx
 have hmin : minN n len = Nat.min n len := by
  unfold minN; rw [minB]
 dsimp only at h
 rw [hmin, takeL_eq] at h
 have hcells := hfirst (Nat.min n len) (Nat.min_le_left _ _)
 have hV1 := hVn.take (Nat.min n len * size)
 have ho1 : ∀ y ∈ new'.take (Nat.min n len * size), y.oneCell' = true := fun y hy => hn1 y (List.mem_of_mem_take hy)
 have run : ∀ (b' : Option Addr) (c' : Nat) (w' : World), s' = .slice b' len c' -> (match b' with | some p => storeCells p (new'.take (Nat.min n len * size)) | none => pure () : Sem Unit).run P w = .ok () w' ->
   (Builtin.copy_ #[t1, t2] ty #[s', x']).run P w = .ok (goInt (Nat.min n len)) w' := by
  intro b' c' w' hs' hst
  subst hs'
  simp only [Builtin.copy_, List.getElem?_toArray, List.getElem?_cons_zero, List.getElem?_cons_succ, Sem.run_bind, run_und hE (slice_inv hel), Result.andThen_ok, hlen, run_size hE hsz, hcells]
  cases b' with
  | none =>
   have e : Result.ok () w = Result.ok () w' := hst
   cases e; rfl
  | some p =>
   simp only at hst
   simp only [Sem.run_bind, hst, Result.andThen_ok, Sem.run_pure]
 cases hs with
 | nilSlice =>
  have h' : some (Value.int .i64 (.ofNat (Nat.min n 0)), H) = some (v, H') := h
  cases h'
  exact ⟨_, w, run none 0 w rfl rfl, ρ, .int _ _, hH, .refl _ _ _ _⟩
 | slice h0 hn hc =>
  rename_i b o e
  have h' : bnd (storeAt H ⟨b, o, none⟩ (new.take (Nat.mul (Nat.min n len) size))) (fun H => some (Value.int .i64 (.ofNat (Nat.min n len)), H)) = some (v, H') := h
  rw [bnd_eq] at h'
  obtain ⟨H1, hst, e'⟩ := h'
  cases e'
  obtain ⟨w', hrun, hH', hSt⟩ := hH.store ⟨e, h0, rfl, rfl⟩ hst hV1 ho1 S
  exact ⟨_, w', run _ _ w' rfl hrun, ρ, .int _ _, hH', hSt⟩
 | sliceU h0 hn hc =>
  rename_i b o c e
  have h' : bnd (storeAt H ⟨b, o, none⟩ (new.take (Nat.mul (Nat.min n len) size))) (fun H => some (Value.int .i64 (.ofNat (Nat.min n len)), H)) = some (v, H') := h
  rw [bnd_eq] at h'
  obtain ⟨H1, hst, e'⟩ := h'
  cases e'
  obtain ⟨w', hrun, hH', hSt⟩ := hH.store ⟨e, h0, rfl, rfl⟩ hst hV1 ho1 S
  exact ⟨_, w', run _ _ w' rfl hrun, ρ, .int _ _, hH', hSt⟩
 | empty h0 hs0 =>
  rename_i b o e a'
  have h' : bnd (storeAt H ⟨b, o, none⟩ (new.take (Nat.mul (Nat.min n 0) size))) (fun H => some (Value.int .i64 (.ofNat (Nat.min n 0)), H)) = some (v, H') := h
  rw [bnd_eq] at h'
  obtain ⟨H1, hst, e'⟩ := h'
  cases e'
  have hz : Nat.min n 0 = 0 := Nat.min_zero n
  have ht : Nat.mul (Nat.min n 0) size = 0 := by rw [hz]; exact Nat.zero_mul _
  rw [ht, List.take_zero] at hst
  obtain ⟨w', hrun, hH', hSt⟩ := hH.store (a' := ⟨e.B, e.base + o, none⟩) ⟨e, h0, rfl, rfl⟩ hst .nil (by simp) S
  have e0 : Result.ok () w = Result.ok () w' := hrun
  cases e0
  refine ⟨_, w, run (some a') 0 w rfl ?_, ρ, .int _ _, hH', hSt⟩
  rw [show Nat.min n 0 * size = 0 by rw [hz]; exact Nat.zero_mul _, List.take_zero]
  rfl
end
end Go.Ev
namespace Go.Ev
open Go.RowKit
variable [Sg]
theorem keySame_ok {sk : Value -> Value -> Option Bool} (hsk : ∀ x y b, sk x y = some b -> ∀ ρ x' y', V ρ x x' -> V ρ y y' -> ∃ p q : ByteArray, x' = .string p /\ y' = .string q /\ b = same p.data.toList q.data.toList) {ρ : Map} {kind : TypeDesc} {k k' e e' : Value} {b : Bool} (h : keySameF sk kind k e = some b) (hk : V ρ k k') (he : V ρ e e') :
    Instr.sameNow kind k' e' = some b /\ (b = true -> k' = e') /\ Instr.sameBits 10000 k' k' = true := by
  unfold keySameF at h
  split at h
  . rename_i kk x kk' y
    rw [chk_eq, eqI_eq] at h
    obtain ⟨h1, h2⟩ := h
    have := kn_eq h1; subst this
    cases h2
    rw [hk.int_inv, he.int_inv]
    refine ⟨by simp [Instr.sameNow], fun hb => by rw [beq_iff_eq] at hb; rw [hb], ?_⟩
    show Instr.sameBits (9999 + 1) _ _ = true
    simp [Instr.sameBits]
  . cases h
    rw [hk.string_inv, he.string_inv]
    rename_i x y
    have hxy : (x == y) = same x.data.toList y.data.toList := by rw [same_eq, beq_toListBytes, toList_data, toList_data]
    refine ⟨by simp [Instr.sameNow, hxy], fun hb => ?_, ?_⟩
    . rw [same_eq, beq_iff_eq] at hb
      have : x = y := by
        obtain ⟨⟨x⟩⟩ := x
        obtain ⟨⟨y⟩⟩ := y
        simp at hb; subst hb; rfl
      rw [this]
    . show Instr.sameBits (9999 + 1) _ _ = true
      simp [Instr.sameBits, beq_toListBytes]
  . rename_i x y
    cases h
    rw [hk.bool_inv, he.bool_inv]
    refine ⟨?_, fun hb => ?_, ?_⟩
    . cases x <;> cases y <;> rfl
    . revert hb; cases x <;> cases y <;> simp
    . show Instr.sameBits (9999 + 1) _ _ = true
      simp [Instr.sameBits]
  . obtain ⟨x, y, rfl, rfl, rfl⟩ := hsk _ _ _ h _ _ _ hk he
    have hxy : (x == y) = same x.data.toList y.data.toList := by rw [same_eq, beq_toListBytes, toList_data, toList_data]
    refine ⟨by simp [Instr.sameNow, hxy], fun hb => ?_, ?_⟩
    . rw [same_eq, beq_iff_eq] at hb
      have : x = y := by
        obtain ⟨⟨x⟩⟩ := x
        obtain ⟨⟨y⟩⟩ := y
        simp at hb; subst hb; rfl
      rw [this]
    . show Instr.sameBits (9999 + 1) _ _ = true
      simp [Instr.sameBits, beq_toListBytes]
  . cases h
theorem findKey_ok {sk : Value -> Value -> Option Bool} (hsk : ∀ x y b, sk x y = some b -> ∀ ρ x' y', V ρ x x' -> V ρ y y' -> ∃ p q : ByteArray, x' = .string p /\ y' = .string q /\ b = same p.data.toList q.data.toList) {ρ : Map} {kind : TypeDesc} {k k' : Value} (hk : V ρ k k') {es es' : List MapEntry} {i : Nat} {r : Option (Nat × MapEntry)} (h : findKey sk kind k es i = some r) (hE : EL ρ es es') :
    (r = none -> Instr.findNow kind k' es' i = some none) /\
    (∀ j e, r = some (j, e) -> ∃ e', Instr.findNow kind k' es' i = some (some (j, e'.val)) /\ V ρ e.val e'.val /\ e'.born = e.born /\ k' = e'.key /\ i <= j /\ es[j - i]? = some e /\ es'[j - i]? = some e' /\ Instr.sameBits 10000 k' k' = true) := by
  induction hE generalizing i r with
  | nil =>
    have e : some none = some r := h
    cases e
    exact ⟨fun _ => rfl, fun _ _ h => by cases h⟩
  | cons hkk hv ht ih =>
    rename_i kk kk' v v' n es es'
    have h' : bnd (keySameF sk kind k kk) (fun b => ifB b (some (some (i, ⟨kk, v, n⟩))) (findKey sk kind k es (Nat.succ i))) = some r := h
    rw [bnd_eq] at h'
    obtain ⟨b, hb, h'⟩ := h'
    obtain ⟨h1, h2, h3⟩ := keySame_ok hsk hb hk hkk
    cases b with
    | true =>
      rw [ifB_true] at h'
      cases h'
      refine ⟨fun h => (by cases h), fun j e he => ?_⟩
      cases he
      exact ⟨⟨kk', v', n⟩, by simp [Instr.findNow, h1], hv, rfl, h2 rfl, Nat.le_refl _, by simp, by simp, h3⟩
    | false =>
      rw [ifB_false] at h'
      obtain ⟨g1, g2⟩ := ih h'
      refine ⟨fun hr => by simpa [Instr.findNow, h1] using g1 hr, fun j e he => ?_⟩
      obtain ⟨e', a1, a2, a3, a4, a5, a6, a7, a8⟩ := g2 j e he
      have hj : j - i = (j - (i + 1)) + 1 := by omega
      exact ⟨e', by simpa [Instr.findNow, h1] using a1, a2, a3, a4, by omega, by rw [hj]; simpa using a6, by rw [hj]; simpa using a7, a8⟩
theorem EL.length {ρ : Map} {l l' : List MapEntry} (h : EL ρ l l') : l.length = l'.length := by
  induction h with
  | nil => rfl
  | cons _ _ _ ih => simp [ih]
theorem EL.append {ρ : Map} {l l' m m' : List MapEntry} (h : EL ρ l l') (k : EL ρ m m') : EL ρ (l ++ m) (l' ++ m') := by
  induction h with
  | nil => exact k
  | cons hk hv _ ih => exact .cons hk hv ih
theorem EL.set {ρ : Map} {v v' k' : Value} (hv : V ρ v v') {l l' : List MapEntry} (h : EL ρ l l') : ∀ {i : Nat} {e' : MapEntry}, l'[i]? = some e' -> k' = e'.key -> EL ρ (setVal v l i) (l'.modify i fun e => { e with key := k', val := v' }) := by
  induction h with
  | nil => intro i e' h; simp at h
  | cons hk hv' ht ih =>
    intro i e' he hke
    cases i with
    | zero => simp at he; subst he hke; exact .cons hk hv ht
    | succ i => exact .cons hk hv' (ih (by simpa using he) hke)
theorem EL.erase {ρ : Map} {l l' : List MapEntry} (h : EL ρ l l') : ∀ (i : Nat), EL ρ (eraseL l i) (l'.eraseIdx i) := by
  induction h with
  | nil => intro i; exact .nil
  | cons hk hv' ht ih =>
    intro i
    cases i with
    | zero => exact ht
    | succ i => exact .cons hk hv' (ih i)
theorem EL.born {ρ : Map} {v v' : Value} (hv : V ρ v v') {b : Int} {l l' : List MapEntry} (h : EL ρ l l') : ∀ {r : List MapEntry}, setBorn v b l = some r -> ∃ i, l'.findIdx? (fun e => (e.born : Int) == b) = some i /\ EL ρ r (l'.modify i fun e => { e with val := v' }) := by
  induction h with
  | nil => intro r h; cases h
  | cons hk hv' ht ih =>
    rename_i k k' u u' n l l'
    intro r h
    have h' : ifB (eqI (.ofNat n) b) (some (⟨k, v, n⟩ :: l)) (bnd (setBorn v b l) fun q => some (⟨k, u, n⟩ :: q)) = some r := h
    rw [eqI_eq, ifB_eq] at h'
    split at h'
    . rename_i hb
      cases h'
      exact ⟨0, by have hb' : ((n : Int) == b) = true := hb
                   simp [List.findIdx?_cons, hb'], .cons hk hv ht⟩
    . rename_i hb
      rw [bnd_eq] at h'
      obtain ⟨q, hq, e⟩ := h'
      cases e
      obtain ⟨i, hi, hE⟩ := ih hq
      refine ⟨i + 1, ?_, .cons hk hv' hE⟩
      have hb' : ¬ ((n : Int) == b) = true := hb
      simp [List.findIdx?_cons, hb', hi]
omit [Sg] in
theorem isKey_check' {P : Program} {w : World} {t : TypeId} {d : TypeDesc} (hd : P.underlying t = some d) (hk : isKey d = true) (b : Bool) (v : Value) (n : Nat) : (Instr.checkKey b (n + 1) t v).run P w = .ok () w := by
  simp only [Instr.checkKey, Sem.run_bind, run_underlying hd, Result.andThen_ok]
  cases d with
  | int k => rfl
  | string => rfl
  | bool => rfl
  | _ => simp [isKey] at hk
omit [Sg] in
theorem isKey_check {P : Program} {w : World} {t : TypeId} {d : TypeDesc} (hd : P.underlying t = some d) (hk : isKey d = true) (b : Bool) (v : Value) : (Instr.checkKey b 10000 t v).run P w = .ok () w :=
  isKey_check' hd hk b v 9999
omit [Sg] in
theorem run_getMap {P : Program} {w : World} {r : Nat} {es : Array MapEntry} {clock : Nat} (hb : w.heap[r]? = some (.map es clock)) : (getObj r).run P w = .ok (.map es clock) w := by
  simp [getObj, Sem.run, hb]
omit [Sg] in
theorem run_setMap {P : Program} {w : World} {r : Nat} {es : Array MapEntry} {clock : Nat} (o : Obj) (hb : w.heap[r]? = some (.map es clock)) : (setObj r o).run P w = .ok () { w with heap := w.heap.setIfInBounds r o } := by
  simp [setObj, Sem.run, hb]
omit [Sg] in
theorem set_same {α : Type} (A : Array α) (i : Nat) (x : α) (h : A[i]? = some x) : A.setIfInBounds i x = A := by
  apply Array.ext_getElem?
  intro j
  rw [Array.getElem?_setIfInBounds]
  split
  . rename_i e; subst e
    split
    . exact h.symm
    . rename_i hlt
      rw [Array.getElem?_eq_none (by omega)]
  . rfl
section
variable {P : Program} {S : Nat -> Prop} {ρ : Map} {H : Heap} {w : World} {o : Oper} {a : Act}
variable {env : Env} (hE : EnvOk P env)
variable {call : Call} {id : Nat} {tm : Tm} {v : Value} {H' : Heap}
variable (hH : HR P ρ H w) (hid : ρ id = none) (hlt : id < H.next) (hS : S id) (hT : TR ρ tm a.tmps)
omit [Sg] in
theorem key_inv {t : TypeId} {d : TypeDesc} (h : env.key t = some d) : env.und t = some d /\ isKey d = true := by
  unfold Env.key at h
  simp only [bnd_eq, chk_eq] at h
  obtain ⟨d', hd, hk, e⟩ := h
  cases e
  exact ⟨hd, hk⟩
omit [Sg] in
theorem mapRef_inv {m : Value} {r : Option Nat} (h : mapRef m = some r) : m = .map r := by
  cases m with
  | map x => simp [mapRef] at h; rw [h]
  | _ => simp [mapRef] at h
include hH in
theorem mapAt_ok {r : Nat} {e : Emb} {es : List MapEntry × Nat} (h : mapAt H r = some es) (he : ρ r = some e) : H.get r = some (.map es.1 es.2) /\ ∃ es' : Array MapEntry, w.heap[e.B]? = some (.map es' es.2) /\ EL ρ es.1 es'.toList := by
  unfold mapAt at h
  rw [bnd_eq] at h
  obtain ⟨x, hx, h⟩ := h
  cases x with
  | map l c =>
    simp [mapOf] at h
    subst h
    have hb := hH.blk _ _ _ hx he
    generalize hg : w.heap[e.B]? = g at hb
    cases hb with
    | map hEL => exact ⟨hx, _, rfl, hEL⟩
  | _ => simp [mapOf] at h
omit [Sg] in
theorem run_find {t : TypeId} {d : TypeDesc} (hd : P.underlying t = some d) {k : Value} {es : List MapEntry} {r : Option (Nat × Value)} (h : Instr.findNow d k es 0 = some r) : (Instr.findKey t k es).run P w = .ok r w := by
  simp [Instr.findKey, run_underlying hd, h]
include hH in
theorem map_turn {r : Nat} {e : Emb} {es : List MapEntry × Nat} {es' : Array MapEntry} (hx : H.get r = some (.map es.1 es.2)) (he : ρ r = some e) (hw : w.heap[e.B]? = some (.map es' es.2)) {l : List MapEntry} {l' : Array MapEntry} {c : Nat} (hEL : EL ρ l l'.toList) :
    (setObj e.B (.map l' c)).run P w = .ok () { w with heap := w.heap.setIfInBounds e.B (.map l' c) } /\ HR P ρ (H.set r (.map l c)) { w with heap := w.heap.setIfInBounds e.B (.map l' c) } /\
      Step S ρ H w ρ (H.set r (.map l c)) { w with heap := w.heap.setIfInBounds e.B (.map l' c) } := by
  refine ⟨run_setMap _ hw, ?_⟩
  have hB : e.B < w.heap.size := by
    rcases Nat.lt_or_ge e.B w.heap.size with h | h
    . exact h
    . rw [Array.getElem?_eq_none h] at hw; cases hw
  exact hH.turn hx he rfl rfl (w' := { w with heap := w.heap.setIfInBounds e.B (.map l' c) }) rfl rfl rfl (by simp) (by
    show BR P ρ e _ (w.heap.setIfInBounds e.B (.map l' c))[e.B]?
    rw [Array.getElem?_setIfInBounds]
    simp only [if_true, hB]
    exact .map hEL) (fun k hk => by
    show (w.heap.setIfInBounds e.B (.map l' c))[k]? = _
    rw [Array.getElem?_setIfInBounds, if_neg (fun h => hk h.symm)]) S
omit [Sg] in
omit hE in
theorem lookup_run {t kt et : TypeId} {kind : TypeDesc} (hd : P.underlying t = some (.map kt et)) (hkd : P.underlying kt = some kind) (hkk : isKey kind = true) {mv k : Value} {ok : Bool} {es' : Array MapEntry}
    (hget : (mv = .map none /\ es' = #[]) \/ ∃ r c, mv = .map (some r) /\ w.heap[r]? = some (.map es' c)) {r : Option (Nat × Value)} (hf : Instr.findNow kind k es'.toList 0 = some r) :
    (Instr.lookup t mv k ok).run P w = match r with | some (_, v) => .ok (if ok then .tuple #[v, .bool true] else v) w | none => ((zeroValue et).run P w).andThen fun z w => .ok (if ok then .tuple #[z, .bool false] else z) w := by
  rcases hget with ⟨rfl, rfl⟩ | ⟨r0, c, rfl, hw⟩
  . simp only [Instr.lookup, Sem.run_bind, run_underlying hd, Result.andThen_ok, Sem.run_pure, isKey_check hkd hkk, run_find hkd hf]
    cases r <;> simp
  . simp only [Instr.lookup, Sem.run_bind, run_underlying hd, Result.andThen_ok, Sem.run_pure, run_getMap hw, isKey_check hkd hkk, run_find hkd hf]
    cases r <;> simp
include hE hH hT in
theorem ok_lookup {t : TypeId} {m k : Operand} {ok : Bool} (ho : o.op = .lookup t m k ok) (h : oLookup t m k ok env call id tm H = some (v, H')) : Does P o a w (Post P S ρ H w v H') := by
  unfold oLookup retO lookup mapView at h
  simp only [bnd_eq] at h
  obtain ⟨mv, hm, kv, hk, q, ⟨p, hp, kind, hkind, es, ⟨r, hr, hes⟩, f, hf, hq⟩, e0⟩ := h
  cases e0
  have hd := map_inv hp
  obtain ⟨hku, hkk⟩ := key_inv hkind
  have hkd := hE.und _ _ hku
  have hVm := eval_ok hT hm
  have hVk := eval_ok hT hk
  have := mapRef_inv hr; subst this
  have fin : ∀ (es' : Array MapEntry), ((a.eval m = .map none /\ es' = #[]) \/ ∃ r c, a.eval m = .map (some r) /\ w.heap[r]? = some (.map es' c)) -> EL ρ es.1 es'.toList -> Does P o a w (Post P S ρ H w v H) := by
    intro es' hget hEL
    obtain ⟨g1, g2⟩ := findKey_ok hE.symKey hVk hf hEL
    cases f with
    | none =>
      have hq' : bnd (env.zero p.2) (fun z => some (withOk ok z false)) = some v := hq
      rw [bnd_eq] at hq'
      obtain ⟨z, hz, e⟩ := hq'
      cases e
      have hzV : V ρ z z := by
        unfold Env.zero at hz
        rw [bnd_eq] at hz
        obtain ⟨i, hi, hz⟩ := hz
        exact (hE.zero _ i z hi hz).1 ρ
      refine does_pure hH (v' := withOk ok z false) ?_ ?_
      . simp only [execOp, ho]
        refine run_v ?_
        rw [lookup_run (hE.und _ _ hd) hkd hkk hget (g1 rfl)]
        simp only [run_zero hE hz, Result.andThen_ok, withOk, ifB_eq]
      . unfold withOk
        cases ok
        . exact hzV
        . exact .tuple (.cons hzV (.cons (.bool _) .nil))
    | some f =>
      obtain ⟨j, e⟩ := f
      have hq' : some (withOk ok e.val true) = some v := hq
      cases hq'
      obtain ⟨e', a1, a2, _, _, _, _, _, _⟩ := g2 j e rfl
      refine does_pure hH (v' := withOk ok e'.val true) ?_ ?_
      . simp only [execOp, ho]
        refine run_v ?_
        rw [lookup_run (hE.und _ _ hd) hkd hkk hget a1]
        simp only [withOk, ifB_eq]
      . unfold withOk
        cases ok
        . exact a2
        . exact .tuple (.cons a2 (.cons (.bool _) .nil))
  cases r with
  | none =>
    have e : some ([], 0) = some es := hes
    cases e
    refine fin #[] (.inl ⟨?_, rfl⟩) .nil
    generalize hg : a.eval m = g at hVm
    cases hVm
    rfl
  | some r =>
    have hes' : mapAt H r = some es := hes
    generalize hg : a.eval m = g at hVm
    cases hVm with
    | map he =>
      obtain ⟨_, es', hw, hEL⟩ := mapAt_ok hH hes' he
      exact fin es' (.inr ⟨_, _, hg, hw⟩) hEL
include hE hH hT in
theorem ok_update {t : TypeId} {m k x : Operand} (ho : o.op = .mapUpdate t m k x \/ o.op = .insert t m k x) (h : oUpdate t m k x env call id tm H = some (v, H')) : Does P o a w (Post P S ρ H w v H') := by
  unfold oUpdate mapUpdate at h
  simp only [bnd_eq] at h
  obtain ⟨mv, hm, kv, hk, xv, hx, H1, ⟨p, hp, kind, hkind, r0, hr0, r, hr, es, hes, f, hf, hq⟩, e0⟩ := h
  cases e0
  have hd := map_inv hp
  obtain ⟨hku, hkk⟩ := key_inv hkind
  have hkd := hE.und _ _ hku
  have hVm := eval_ok hT hm
  have hVk := eval_ok hT hk
  have hVx := eval_ok hT hx
  have := mapRef_inv hr0; subst this
  subst hr
  generalize hg : a.eval m = g at hVm
  cases hVm with
  | map he =>
    rename_i e
    obtain ⟨hblk, es', hw, hEL⟩ := mapAt_ok hH hes he
    obtain ⟨g1, g2⟩ := findKey_ok hE.symKey hVk hf hEL
    have hsk : ∀ {w' : World}, (Instr.mapUpdate t (.map (some e.B)) (a.eval k) (a.eval x)).run P w = .ok () w' -> (execOp a.eval o).run P w = .ok .skip w' := by
      intro w' hrun
      rcases ho with ho | ho <;> (simp only [execOp, ho, hg]; exact run_u hrun)
    cases f with
    | none =>
      have hq' : some (H.set r (.map (appL es.1 [⟨kv, xv, es.2⟩]) (Nat.succ es.2))) = some H' := hq
      cases hq'
      have hEL' : EL ρ (appL es.1 [⟨kv, xv, es.2⟩]) (es'.push ⟨a.eval k, a.eval x, es.2⟩).toList := by
        rw [appL_eq, Array.toList_push]
        exact hEL.append (.cons hVk hVx .nil)
      obtain ⟨h1, h2, h3⟩ := map_turn (S := S) hH hblk he hw (c := Nat.succ es.2) hEL'
      refine does_skip (hsk ?_) ⟨ρ, undef_V, h2, h3⟩
      simp only [Instr.mapUpdate, Sem.run_bind, run_und hE hd, Result.andThen_ok, run_getMap hw, isKey_check hkd hkk, run_find hkd (g1 rfl)]
      exact h1
    | some f =>
      obtain ⟨j, en⟩ := f
      have hq' : some (H.set r (.map (setVal xv es.1 j) es.2)) = some H' := hq
      cases hq'
      obtain ⟨e', a1, a2, a3, a4, a5, a6, a7, a8⟩ := g2 j en rfl
      rw [Nat.sub_zero] at a7
      have hEL' : EL ρ (setVal xv es.1 j) (es'.modify j fun e => { e with key := a.eval k, val := a.eval x }).toList := by
        rw [Array.toList_modify]
        exact hEL.set hVx a7 a4
      obtain ⟨h1, h2, h3⟩ := map_turn (S := S) hH hblk he hw (c := es.2) hEL'
      refine does_skip (hsk ?_) ⟨ρ, undef_V, h2, h3⟩
      have a7' : es'[j]? = some e' := by simpa using a7
      have hst : (Instr.keyThatStays (((es'[j]?).map (·.key)).getD (a.eval k)) (a.eval k)).run P w = .ok (a.eval k) w := by
        rw [a7']
        simp only [Option.map_some, Option.getD_some, <- a4]
        unfold Instr.keyThatStays
        rw [if_pos a8]
        rfl
      simp only [Instr.mapUpdate, Sem.run_bind, run_und hE hd, Result.andThen_ok, run_getMap hw, isKey_check hkd hkk, run_find hkd a1, hst]
      exact h1
include hE hH hT in
theorem ok_entry {t : TypeId} {m k : Operand} (ho : o.op = .mapEntry t m k) (h : oEntry t m k env call id tm H = some (v, H')) : Does P o a w (Post P S ρ H w v H') := by
  unfold oEntry mapEntry at h
  simp only [bnd_eq] at h
  obtain ⟨mv, hm, kv, hk, p, hp, kind, hkind, r0, hr0, r, hr, es, hes, f, hf, hq⟩ := h
  have hd := map_inv hp
  obtain ⟨hku, hkk⟩ := key_inv hkind
  have hkd := hE.und _ _ hku
  have hVm := eval_ok hT hm
  have hVk := eval_ok hT hk
  have := mapRef_inv hr0; subst this
  subst hr
  generalize hg : a.eval m = g at hVm
  cases hVm with
  | map he =>
    rename_i e
    obtain ⟨hblk, es', hw, hEL⟩ := mapAt_ok hH hes he
    obtain ⟨g1, g2⟩ := findKey_ok hE.symKey hVk hf hEL
    cases f with
    | none =>
      have hq' : bnd (env.zero p.2) (fun z => some (Value.tuple #[z, goInt es.2], H.set r (.map (appL es.1 [⟨kv, z, es.2⟩]) (Nat.succ es.2)))) = some (v, H') := hq
      rw [bnd_eq] at hq'
      obtain ⟨z, hz, e'⟩ := hq'
      cases e'
      have hzV : V ρ z z := by
        unfold Env.zero at hz
        rw [bnd_eq] at hz
        obtain ⟨i, hi, hz⟩ := hz
        exact (hE.zero _ i z hi hz).1 ρ
      have hEL' : EL ρ (appL es.1 [⟨kv, z, es.2⟩]) (es'.push ⟨a.eval k, z, es.2⟩).toList := by
        rw [appL_eq, Array.toList_push]
        exact hEL.append (.cons hVk hzV .nil)
      obtain ⟨h1, h2, h3⟩ := map_turn (S := S) hH hblk he hw (c := Nat.succ es.2) hEL'
      refine does_val (v := .tuple #[z, goInt es.2]) ?_ ⟨ρ, .tuple (.cons hzV (.cons (.int _ _) .nil)), h2, h3⟩
      simp only [execOp, ho, hg]
      refine run_v ?_
      simp only [Instr.mapEntry, Sem.run_bind, run_und hE hd, Result.andThen_ok, run_getMap hw, isKey_check hkd hkk, run_find hkd (g1 rfl), run_zero hE hz]
      simp only [Nat.succ_eq_add_one] at h1
      rw [h1]
      rfl
    | some f =>
      obtain ⟨j, en⟩ := f
      have hq' : some (Value.tuple #[en.val, goInt en.born], H) = some (v, H') := hq
      cases hq'
      obtain ⟨e', a1, a2, a3, a4, a5, a6, a7, a8⟩ := g2 j en rfl
      rw [Nat.sub_zero] at a7
      have a7' : es'[j]? = some e' := by simpa using a7
      have hst : (Instr.keyThatStays e'.key (a.eval k)).run P w = .ok (a.eval k) w := by
        rw [<- a4]
        unfold Instr.keyThatStays
        rw [if_pos a8]
        rfl
      have hmod : (es'.modify j fun e => { e with key := a.eval k }) = es' := by
        apply Array.ext_getElem?
        intro i
        rw [Array.getElem?_modify]
        split
        . rename_i hi; subst hi
          rw [a7', a4]; rfl
        . rfl
      have hset : w.heap.setIfInBounds e.B (.map es' es.2) = w.heap := set_same _ _ _ hw
      refine does_pure hH (v' := .tuple #[e'.val, goInt e'.born]) ?_ (.tuple (.cons a2 (.cons (by rw [a3]; exact .int _ _) .nil)))
      simp only [execOp, ho, hg]
      refine run_v ?_
      simp only [Instr.mapEntry, Sem.run_bind, run_und hE hd, Result.andThen_ok, run_getMap hw, isKey_check hkd hkk, run_find hkd a1, a7', Option.map_some, Option.getD_some, hst, hmod, run_setMap _ hw, hset]
      rfl
include hH hT in
theorem ok_entryStore {t : TypeId} {m s x : Operand} (ho : o.op = .entryStore t m s x) (h : oEntryStore t m s x env call id tm H = some (v, H')) : Does P o a w (Post P S ρ H w v H') := by
  unfold oEntryStore entryStore at h
  simp only [bnd_eq] at h
  obtain ⟨mv, hm, sv, hs, xv, hx, H1, ⟨r0, hr0, r, hr, b, hb, es, hes, l, hl, hq⟩, e0⟩ := h
  cases e0; cases hq
  have hVm := eval_ok hT hm
  have hVx := eval_ok hT hx
  obtain ⟨kk, rfl⟩ := intOf_eq hb
  have hVs := (eval_ok hT hs).int_inv
  have := mapRef_inv hr0; subst this
  subst hr
  generalize hg : a.eval m = g at hVm
  cases hVm with
  | map he =>
    rename_i e
    obtain ⟨hblk, es', hw, hEL⟩ := mapAt_ok hH hes he
    obtain ⟨i, hi, hEL2⟩ := hEL.born hVx hl
    have hEL' : EL ρ l (es'.modify i fun e => { e with val := a.eval x }).toList := by rw [Array.toList_modify]; exact hEL2
    obtain ⟨h1, h2, h3⟩ := map_turn (S := S) hH hblk he hw (c := es.2) hEL'
    refine does_skip ?_ ⟨ρ, undef_V, h2, h3⟩
    simp only [execOp, ho, hg, hVs]
    refine run_u ?_
    have hi' : es'.findIdx? (fun e => (e.born : Int) == b) = some i := by cases es'; simpa using hi
    simp only [Instr.entryStore, Sem.run_bind, Result.andThen_ok, run_getMap hw, asInt, asIntOf, Sem.run_pure, hi']
    exact h1
end
end Go.Ev
