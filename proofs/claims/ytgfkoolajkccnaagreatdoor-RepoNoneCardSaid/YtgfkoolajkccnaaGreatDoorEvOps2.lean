/- More operations: new memory, arithmetic, conversions, functions. -/
import Derived.Test.YtgfkoolajkccnaaGreatDoorEvOps
/-! More operations: new memory, arithmetic, conversions, functions. -/
namespace Go.Ev
open Go.RowKit

theorem run_newVar (P : Program) (w : World) (t : TypeId) (v : Value) : (newVar t v).run P w = .ok ⟨w.heap.size, 0, none⟩ (w.alloc (.cells v.cells t)) := by
  simp [newVar, newRow]

theorem heap_alloc_new (w : World) (o : Obj) : (w.alloc o).heap[w.heap.size]? = some o := by
  show (w.heap.push o)[w.heap.size]? = _
  simp

section
variable {P : Program} {S : Nat → Prop} {ρ : Map} {H : Heap} {w : World} {o : Oper} {a : Act}

/-- A new row of cells. -/
theorem HR.row (hH : HR P ρ H w) {id : Nat} (hid : ρ id = none) (hlt : id < H.next) (hS : S id) {cs cs' : List Value} {C : Array Value} {elem : TypeId} {i : TypeInfo} (hi : P.info? elem = some i)
    (hv : VL ρ cs cs') (h1 : ∀ v ∈ cs', v.oneCell' = true) {w' : World} {fr : Nat × Nat} (hfr : ∀ j, j < C.size → ¬ (fr.1 ≤ j ∧ j < fr.2)) (hC : C.toList.take cs'.length = cs')
    (os : w'.os = w.os) (tape : w'.tape = w.tape) (out : w'.output = w.output) (size : w'.heap.size = w.heap.size + 1) (ho : w'.heap[w.heap.size]? = some (.cells C elem fr))
    (hk : ∀ k, k < w.heap.size → w'.heap[k]? = w.heap[k]?) :
    HR P (ins ρ id ⟨w.heap.size, 0, cs'.length, C.size, i.size⟩) (H.set id (.cells cs elem .rw)) w' ∧
      Step S ρ H w (ins ρ id ⟨w.heap.size, 0, cs'.length, C.size, i.size⟩) (H.set id (.cells cs elem .rw)) w' := by
  have hle : cs'.length ≤ C.size := by
    have := congrArg List.length hC
    rw [List.length_take] at this
    simp at this; omega
  refine hH.fresh hid hlt hS (Nat.le_refl _) os tape out (by omega) ?_ hk
  rw [ho]
  have hw : win C ⟨w.heap.size, 0, cs'.length, C.size, i.size⟩ = cs' := by unfold win; simpa using hC
  exact .cells hi rfl hv.length hle (by simp) (fun _ => hfr) (by rw [hw]; exact hv.mono (Le.ins hid _)) (by rw [hw]; exact h1) (Nat.zero_mod _)

variable {env : Env} (hE : EnvOk P env)
include hE
variable {call : Call} {id : Nat} {tm : Tm} {v : Value} {H' : Heap}
variable (hH : HR P ρ H w) (hid : ρ id = none) (hlt : id < H.next) (hS : S id)
include hH hid hlt hS

theorem newCells_ok {e : TypeId} {u u' : Value} (hu : V ρ u u') (h : newCells env H id e u = some (v, H')) :
    ∃ v' w', (do let p ← newVar e u'; pure (Value.pointer (some p)) : Sem Value).run P w = .ok v' w' ∧ Post P S ρ H w v H' v' w' := by
  unfold newCells at h
  simp only [bnd_eq, fN_eq] at h
  obtain ⟨i, hi, cs, hcs, e'⟩ := h
  cases e'
  obtain ⟨l', hl', hVL, h1⟩ := cellsV_ok hu hcs
  refine ⟨.pointer (some ⟨w.heap.size, 0, none⟩), w.alloc (.cells u'.cells e), by simp only [Sem.run_bind, run_newVar, Result.andThen_ok, Sem.run_pure], ?_⟩
  obtain ⟨hH', hSt⟩ := hH.row (S := S) hid hlt hS (cs := cs) (cs' := l') (C := u'.cells) (elem := e) (fr := (0, 0)) (hE.info e i hi) hVL h1 (by simp) (by rw [hl']; simp) (w' := w.alloc (.cells u'.cells e)) rfl rfl rfl
    (by simp) (heap_alloc_new _ _) (fun k hk => Below.heap_alloc _ _ _ hk)
  exact ⟨_, .ptr (ins_same _ _ _), hH', hSt⟩

theorem ok_alloc {e : TypeId} (ho : o.op = .alloc e) (h : oAlloc e env call id tm H = some (v, H')) : Does P o a w (Post P S ρ H w v H') := by
  unfold oAlloc at h
  rw [bnd_eq] at h
  obtain ⟨z, hz, h⟩ := h
  have hzV : V ρ z z := by
    unfold Env.zero at hz
    rw [bnd_eq] at hz
    obtain ⟨i, hi, hz⟩ := hz
    exact (hE.zero e i z hi hz).1 ρ
  obtain ⟨v', w', hrun, hP⟩ := newCells_ok hE hH hid hlt hS hzV h
  refine does_val ?_ hP
  simp only [execOp, ho]
  refine run_v ?_
  simp only [Sem.run_bind] at hrun
  simp only [Instr.alloc, Sem.run_bind, run_zero hE hz, Result.andThen_ok]
  exact hrun

variable (hT : TR ρ tm a.tmps)
include hT

theorem ok_box {e : TypeId} {x : Operand} (ho : o.op = .box e x) (h : oBox e x env call id tm H = some (v, H')) : Does P o a w (Post P S ρ H w v H') := by
  unfold oBox at h
  rw [bnd_eq] at h
  obtain ⟨u, hu, h⟩ := h
  obtain ⟨v', w', hrun, hP⟩ := newCells_ok hE hH hid hlt hS (eval_ok hT hu) h
  refine does_val ?_ hP
  simp only [execOp, ho]
  exact run_v hrun
end

section
variable {P : Program} {S : Nat → Prop} {ρ : Map} {H : Heap} {w : World} {o : Oper} {a : Act}
variable {env : Env} {call : Call} {id : Nat} {tm : Tm} {v : Value} {H' : Heap}
variable (hH : HR P ρ H w) (hT : TR ρ tm a.tmps)
include hH hT

theorem ok_nilCheck {x : Operand} (ho : o.op = .nilCheck x) (h : oNilCheck x env call id tm H = some (v, H')) : Does P o a w (Post P S ρ H w v H') := by
  unfold oNilCheck retO at h
  simp only [bnd_eq] at h
  obtain ⟨u, hu, q, hq, e⟩ := h
  cases e
  have hV := eval_ok hT hu
  unfold checkOf at hq
  split at hq
  · cases hq
    obtain ⟨p', hp', hAR⟩ := hV.ptrInv
    refine does_pure hH (v' := .pointer (some p')) ?_ hAR.val
    simp [execOp, ho, hp']
  · cases hq
    rename_i f x' y'
    generalize hg : a.eval x = g at hV
    cases hV with
    | func fn ha hb =>
      refine does_pure hH ?_ (.func (.func f) ha hb)
      simp [execOp, ho, hg]
  · cases hq

theorem ok_func {fn : Fn} {first captured : Array Operand} (ho : o.op = .makeFunc fn first captured) (h : oFunc fn first captured env call id tm H = some (v, H')) : Does P o a w (Post P S ρ H w v H') := by
  unfold oFunc at h
  simp only [bnd_eq] at h
  obtain ⟨x, hx, y, hy, e⟩ := h
  cases e
  refine does_pure hH (v' := .func fn (first.map a.eval) (captured.map a.eval)) (by simp [execOp, ho, Instr.makeFunc]) ?_
  have h1 := evals_ok hT hx
  have h2 := evals_ok hT hy
  have e1 : first.map a.eval = ⟨first.toList.map a.eval⟩ := by apply Array.ext'; simp
  have e2 : captured.map a.eval = ⟨captured.toList.map a.eval⟩ := by apply Array.ext'; simp
  rw [e1, e2]
  exact .func fn h1 h2

theorem ok_extract {x : Operand} {i : Nat} (ho : o.op = .extract x i) (h : oExtract x i env call id tm H = some (v, H')) : Does P o a w (Post P S ρ H w v H') := by
  unfold oExtract retO at h
  simp only [bnd_eq] at h
  obtain ⟨u, hu, vs, hvs, q, hq, e⟩ := h
  cases e
  have hV := eval_ok hT hu
  generalize hg : a.eval x = g at hV
  cases hV with
  | tuple hl =>
    simp [tupleOf] at hvs
    subst hvs
    rw [nthL_eq] at hq
    obtain ⟨q', hq', hV⟩ := hl.get hq
    refine does_pure hH (v' := q') ?_ hV
    simp [execOp, ho, hg, Instr.extract, hq']
  | _ => simp [tupleOf] at hvs

theorem ok_un {op : UnOp} {t : TypeId} {x : Operand} (ho : o.op = .unOp op t x) (h : oUn op t x env call id tm H = some (v, H')) : Does P o a w (Post P S ρ H w v H') := by
  unfold oUn retO at h
  simp only [bnd_eq] at h
  obtain ⟨u, hu, q, hq, e⟩ := h
  cases e
  have hV := eval_ok hT hu
  unfold unOpF at hq
  split at hq
  · rename_i k n
    have hx := hV.int_inv
    rw [mkInt_eq] at hq
    cases hq
    refine does_pure hH (v' := .int k _) ?_ (.int k _)
    simp only [execOp, ho, hx]
    refine run_v ?_
    show (Op.intBits .xor k (if k.signed then -1 else k.max) n).run P w = _
    simp only [Op.intBits, Sem.run_pure]
    congr 2
    have hb : (BitVec.ofInt k.bits (if k.signed = true then -1 else k.max)) = BitVec.allOnes k.bits := by
      apply BitVec.eq_of_toNat_eq
      rw [BitVec.toNat_ofInt, BitVec.toNat_allOnes]
      cases k <;> decide
    rw [hb]
    have e1 : (BitVec.allOnes k.bits ^^^ BitVec.ofInt k.bits n).toNat = 2 ^ k.bits - 1 - uns k n := by
      rw [BitVec.xor_comm, BitVec.xor_allOnes, BitVec.toNat_not, BitVec.toNat_ofInt, uns_eq]
      congr 2
    rw [e1, ← ofUns_eq]
    congr 1
    have hlt : uns k n < kmod k := by
      rw [uns_eq]
      have := Int.emod_lt_of_pos n (b := (2 ^ k.bits : Int)) (by cases k <;> decide)
      have := Int.emod_nonneg n (b := (2 ^ k.bits : Int)) (by cases k <;> decide)
      cases k <;> simp only [kmod, IntKind.bits] at * <;> omega
    have hm : 2 ^ k.bits = kmod k := by cases k <;> rfl
    have hm' : (2 ^ k.bits : Int) = (kmod k : Int) := by cases k <;> rfl
    rw [hm, hm']
    simp only [Nat.sub_eq]
    rw [Int.emod_eq_of_lt (by omega) (by omega)]
    omega
  · rename_i k n
    have hx := hV.int_inv
    rw [wInt_eq] at hq
    cases hq
    refine does_pure hH (v' := .int k _) ?_ (.int k _)
    simp only [execOp, ho, hx]
    exact run_v rfl
  · have hx := hV.bool_inv
    cases hq
    refine does_pure hH (v' := .bool false) ?_ (.bool _)
    simp only [execOp, ho, hx]
    exact run_v rfl
  · have hx := hV.bool_inv
    cases hq
    refine does_pure hH (v' := .bool true) ?_ (.bool _)
    simp only [execOp, ho, hx]
    exact run_v rfl
  · cases hq

variable (hE : EnvOk P env)
include hE

theorem ok_iface {t : TypeId} {x : Operand} (ho : o.op = .makeInterface t x) (h : oIface t x env call id tm H = some (v, H')) : Does P o a w (Post P S ρ H w v H') := by
  unfold oIface at h
  simp only [bnd_eq, chk_eq] at h
  obtain ⟨u, hu, d, hd, hi, e⟩ := h
  cases e
  refine does_pure hH (v' := .iface t (a.eval x)) ?_ (.iface t (eval_ok hT hu))
  simp only [execOp, ho]
  refine run_v ?_
  simp only [Instr.makeInterface, Sem.run_bind, run_und hE hd, Result.andThen_ok]
  cases d with
  | interface ms => simp [isIface] at hi
  | _ => rfl

theorem ok_assert {x : Operand} {t0 t : TypeId} {ok : Bool} (ho : o.op = .typeAssert x t0 t ok) (h : oAssert x t0 t ok env call id tm H = some (v, H')) : Does P o a w (Post P S ρ H w v H') := by
  unfold oAssert at h
  simp only [bnd_eq, chk_eq, Bool.and_eq_true, Bool.not_eq_true'] at h
  obtain ⟨u, hu, p, hp, d, hd, ⟨⟨hi, hok⟩, ht⟩, e⟩ := h
  cases e
  have hV := eval_ok hT hu
  generalize hg : a.eval x = g at hV
  cases hV with
  | iface t' hv =>
    simp [ifaceOf] at hp
    subst hp
    have ht' := Nat.eq_of_beq_eq_true ht
    simp only at ht'
    subst ht' hok
    refine does_pure hH ?_ hv
    simp only [execOp, ho, hg]
    refine run_v ?_
    simp only [Instr.typeAssert, Sem.run_bind, run_und hE hd, Result.andThen_ok]
    cases d with
    | interface ms => simp [isIface] at hi
    | _ => simp
  | _ => simp [ifaceOf] at hp
end
end Go.Ev
