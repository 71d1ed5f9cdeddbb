/- Regions, code, functions: THE THEOREM. -/
import Derived.Test.YthnojgpobfpgeaaGreatDoorEvOpsB
import Derived.LoopN
namespace Go.Ev
open Go.RowKit
variable [Sg]
def Invokes (P : Program) (f : FuncId) (args : Array Value) (w : World) (R : Value -> World -> Prop) : Prop :=
 (∃ v w', (callFunc f args).run P w = .ok (.value v) w' /\ R v w') \/ ((callFunc f args).run P w = .ok (.enter f args) w /\ Calls P f args w fun e w' => ∃ v, e = .returned v /\ R v w')
def CallsOk (P : Program) (call : Call) : Prop :=
 ∀ f args H v H', call f args H = some (v, H') -> ∀ ρ w args', VL ρ args args' -> HR P ρ H w -> Invokes P f ⟨args'⟩ w (Post P (fun b => H.next <= b) ρ H w v H')
theorem Post.mono {P : Program} {S S' : Nat -> Prop} (hS : ∀ b, S b -> S' b) {ρ : Map} {H H' : Heap} {w : World} {v : Value} {v' : Value} {w' : World} (h : Post P S ρ H w v H' v' w') : Post P S' ρ H w v H' v' w' := by
 obtain ⟨ρ', h1, h2, h3⟩ := h
 exact ⟨ρ', h1, h2, h3.weaken hS⟩
section
variable {P : Program} {S : Nat -> Prop} {ρ : Map} {H : Heap} {w : World} {o : Oper} {a : Act}
variable {env : Env} (hE : EnvOk P env)
variable {call : Call} (hC : CallsOk P call) {id : Nat} {tm : Tm} {v : Value} {H' : Heap}
variable (hH : HR P ρ H w) (hid : ρ id = none) (hlt : id < H.next) (hS : S id) (hS2 : kindOf env o.op = 3 -> ∀ b, H.next <= b -> S b) (hT : TR ρ tm a.tmps)
omit [Sg] in
theorem fnOf_inv {v : Value} {p : FuncId × List Value × List Value} (h : fnOf v = some p) : v = .func (.func p.1) ⟨p.2.1⟩ ⟨p.2.2⟩ := by
 unfold fnOf at h
 split at h
 ·
  cases h; rfl
 ·
  cases h
include hE hC hH hid hlt hS hS2 hT in
theorem ok_call {c : Go.Call} (ho : o.op = .call c) (h : oCall c env call id tm H = some (v, H')) : Does P o a w (Post P S ρ H w v H') := by
 unfold oCall at h
 rw [bnd_eq] at h
 obtain ⟨args, hargs, h⟩ := h
 have hVL := evals_ok hT hargs
 have hmap : c.args.map a.eval = ⟨c.args.toList.map a.eval⟩ := by apply Array.ext'; simp
 generalize hcc : c.callee = cc at h
 cases cc with
 | value f =>
  have hS2 := hS2 (by rw [ho]; show callKind c.callee = 3; rw [hcc]; rfl)
  have h' : bnd (eval tm f) (fun v => bnd (fnOf v) fun p => call p.1 (appL p.2.1 (appL args p.2.2)) H) = some (v, H') := h
  simp only [bnd_eq] at h'
  obtain ⟨u, hu, p, hp, h'⟩ := h'
  have := fnOf_inv hp; subst this
  have hV := eval_ok hT hu
  generalize hg : a.eval f = g at hV
  cases hV with
  | func fn ha hb =>
   rename_i fs cs
   simp only [appL_eq] at h'
   have hI := hC _ _ _ _ _ h' ρ w (fs ++ (c.args.toList.map a.eval ++ cs)) (ha.append (hVL.append hb)) hH
   have harr : ((⟨fs⟩ : Array Value) ++ (⟨c.args.toList.map a.eval⟩ : Array Value) ++ (⟨cs⟩ : Array Value)) = ⟨fs ++ (c.args.toList.map a.eval ++ cs)⟩ := by
    apply Array.ext'; simp
   have hrun : (execOp a.eval o).run P w = (callFunc p.1 ⟨fs ++ (c.args.toList.map a.eval ++ cs)⟩).run P w := by
    simp only [execOp, ho, resolve, hcc, hg, Deferred.ofValue, Sem.run_bind, Sem.run_pure, Result.andThen_ok, invoke, hmap, harr]
   rcases hI with ⟨v', w', hr, hP⟩ | ⟨hr, hP⟩
   ·
    exact does_val (hrun.trans hr) (hP.mono hS2)
   ·
    unfold Does
    rw [hrun, hr]
    exact Calls.mono hP fun e w' ⟨v', he, hR⟩ => ⟨v', he, hR.mono hS2⟩
 | invoke r n => cases h
 | builtin b =>
  have h' : builtinFn b env H id c.argTypes.toList args = some (v, H') := h
  obtain ⟨v', w', hrun, hP⟩ := builtin_ok (ty := o.type) (consts := c.args.map fun | .const _ => true | _ => false) hE hH hid hlt hS hVL h'
  refine does_val ?_ hP
  simp only [execOp, ho, resolve, hcc, Sem.run_bind, Sem.run_pure, Result.andThen_ok, invoke, hmap]
  exact hrun
include hE hC hH hid hlt hS hS2 hT in
theorem evOp_ok (h : evOp o.op env call id tm H = some (v, H')) : Does P o a w (Post P S ρ H w v H') := by
 generalize hop : o.op = op at h
 cases op with
 | move x => first | exact ok_move hH hT (.inl hop) h | exact ok_move (call := call) (id := id) hH hT (.inl hop) h | exact ok_move (call := call) (id := id) (tm := tm) hH hT (.inl hop) h | exact ok_move (call := call) (tm := tm) hH hT (.inl hop) h | exact ok_move (env := env) (id := id) hH hT (.inl hop) h | exact ok_move (env := env) (call := call) (id := id) hH hT (.inl hop) h | exact ok_move (env := env) (call := call) hH hT (.inl hop) h
 | assign x => first | exact ok_move hH hT (.inr hop) h | exact ok_move (call := call) (id := id) hH hT (.inr hop) h | exact ok_move (call := call) (id := id) (tm := tm) hH hT (.inr hop) h | exact ok_move (call := call) (tm := tm) hH hT (.inr hop) h | exact ok_move (env := env) (id := id) hH hT (.inr hop) h | exact ok_move (env := env) (call := call) (id := id) hH hT (.inr hop) h | exact ok_move (env := env) (call := call) hH hT (.inr hop) h
 | pick c x y => first | exact ok_pick hH hT hop h | exact ok_pick (call := call) (id := id) hH hT hop h | exact ok_pick (call := call) (id := id) (tm := tm) hH hT hop h | exact ok_pick (call := call) (tm := tm) hH hT hop h | exact ok_pick (env := env) (id := id) hH hT hop h | exact ok_pick (env := env) (call := call) (id := id) hH hT hop h | exact ok_pick (env := env) (call := call) hH hT hop h
 | alloc e => first | exact ok_alloc hE hH hid hlt hS hop h | exact ok_alloc (call := call) (id := id) hE hH hid hlt hS hop h | exact ok_alloc (call := call) (id := id) (tm := tm) hE hH hid hlt hS hop h | exact ok_alloc (call := call) (tm := tm) hE hH hid hlt hS hop h | exact ok_alloc (env := env) (id := id) hE hH hid hlt hS hop h | exact ok_alloc (env := env) (call := call) (id := id) hE hH hid hlt hS hop h | exact ok_alloc (env := env) (call := call) hE hH hid hlt hS hop h
 | box e x => first | exact ok_box hE hH hid hlt hS hT hop h | exact ok_box (call := call) (id := id) hE hH hid hlt hS hT hop h | exact ok_box (call := call) (id := id) (tm := tm) hE hH hid hlt hS hT hop h | exact ok_box (call := call) (tm := tm) hE hH hid hlt hS hT hop h | exact ok_box (env := env) (id := id) hE hH hid hlt hS hT hop h | exact ok_box (env := env) (call := call) (id := id) hE hH hid hlt hS hT hop h | exact ok_box (env := env) (call := call) hE hH hid hlt hS hT hop h
 | build t ps => first | exact ok_build hE hH hT hop h | exact ok_build (call := call) (id := id) hE hH hT hop h | exact ok_build (call := call) (id := id) (tm := tm) hE hH hT hop h | exact ok_build (call := call) (tm := tm) hE hH hT hop h | exact ok_build (env := env) (id := id) hE hH hT hop h | exact ok_build (env := env) (call := call) (id := id) hE hH hT hop h | exact ok_build (env := env) (call := call) hE hH hT hop h
 | buildSlice t n ps => first | exact ok_buildSlice hE hH hid hlt hS hT hop h | exact ok_buildSlice (call := call) (id := id) hE hH hid hlt hS hT hop h | exact ok_buildSlice (call := call) (id := id) (tm := tm) hE hH hid hlt hS hT hop h | exact ok_buildSlice (call := call) (tm := tm) hE hH hid hlt hS hT hop h | exact ok_buildSlice (env := env) (id := id) hE hH hid hlt hS hT hop h | exact ok_buildSlice (env := env) (call := call) (id := id) hE hH hid hlt hS hT hop h | exact ok_buildSlice (env := env) (call := call) hE hH hid hlt hS hT hop h
 | insert t m k x => first | exact ok_update hE hH hT (.inr hop) h | exact ok_update (call := call) (id := id) hE hH hT (.inr hop) h | exact ok_update (call := call) (id := id) (tm := tm) hE hH hT (.inr hop) h | exact ok_update (call := call) (tm := tm) hE hH hT (.inr hop) h | exact ok_update (env := env) (id := id) hE hH hT (.inr hop) h | exact ok_update (env := env) (call := call) (id := id) hE hH hT (.inr hop) h | exact ok_update (env := env) (call := call) hE hH hT (.inr hop) h
 | load t x => first | exact ok_load hE hH hT hop h | exact ok_load (call := call) (id := id) hE hH hT hop h | exact ok_load (call := call) (id := id) (tm := tm) hE hH hT hop h | exact ok_load (call := call) (tm := tm) hE hH hT hop h | exact ok_load (env := env) (id := id) hE hH hT hop h | exact ok_load (env := env) (call := call) (id := id) hE hH hT hop h | exact ok_load (env := env) (call := call) hE hH hT hop h
 | store t x y => first | exact ok_store hE hH hT hop h | exact ok_store (call := call) (id := id) hE hH hT hop h | exact ok_store (call := call) (id := id) (tm := tm) hE hH hT hop h | exact ok_store (call := call) (tm := tm) hE hH hT hop h | exact ok_store (env := env) (id := id) hE hH hT hop h | exact ok_store (env := env) (call := call) (id := id) hE hH hT hop h | exact ok_store (env := env) (call := call) hE hH hT hop h
 | ready g => cases h
 | waits g => cases h
 | nilCheck x => first | exact ok_nilCheck hH hT hop h | exact ok_nilCheck (call := call) (id := id) hH hT hop h | exact ok_nilCheck (call := call) (id := id) (tm := tm) hH hT hop h | exact ok_nilCheck (call := call) (tm := tm) hH hT hop h | exact ok_nilCheck (env := env) (id := id) hH hT hop h | exact ok_nilCheck (env := env) (call := call) (id := id) hH hT hop h | exact ok_nilCheck (env := env) (call := call) hH hT hop h
 | binOp p t x y t' => first | exact ok_bin hE hH hT hop h | exact ok_bin (call := call) (id := id) hE hH hT hop h | exact ok_bin (call := call) (id := id) (tm := tm) hE hH hT hop h | exact ok_bin (call := call) (tm := tm) hE hH hT hop h | exact ok_bin (env := env) (id := id) hE hH hT hop h | exact ok_bin (env := env) (call := call) (id := id) hE hH hT hop h | exact ok_bin (env := env) (call := call) hE hH hT hop h
 | unOp p t x => first | exact ok_un hH hT hE hop h | exact ok_un (call := call) (id := id) hH hT hE hop h | exact ok_un (call := call) (id := id) (tm := tm) hH hT hE hop h | exact ok_un (call := call) (tm := tm) hH hT hE hop h | exact ok_un (env := env) (id := id) hH hT hE hop h | exact ok_un (env := env) (call := call) (id := id) hH hT hE hop h | exact ok_un (env := env) (call := call) hH hT hE hop h
 | convert s d x => first | exact ok_convert hE hH hid hlt hS hT hop h | exact ok_convert (call := call) (id := id) hE hH hid hlt hS hT hop h | exact ok_convert (call := call) (id := id) (tm := tm) hE hH hid hlt hS hT hop h | exact ok_convert (call := call) (tm := tm) hE hH hid hlt hS hT hop h | exact ok_convert (env := env) (id := id) hE hH hid hlt hS hT hop h | exact ok_convert (env := env) (call := call) (id := id) hE hH hid hlt hS hT hop h | exact ok_convert (env := env) (call := call) hE hH hid hlt hS hT hop h
 | sliceToArrayPointer d x => cases h
 | makeInterface t x => first | exact ok_iface hH hT hE hop h | exact ok_iface (call := call) (id := id) hH hT hE hop h | exact ok_iface (call := call) (id := id) (tm := tm) hH hT hE hop h | exact ok_iface (call := call) (tm := tm) hH hT hE hop h | exact ok_iface (env := env) (id := id) hH hT hE hop h | exact ok_iface (env := env) (call := call) (id := id) hH hT hE hop h | exact ok_iface (env := env) (call := call) hH hT hE hop h
 | makeFunc f x y => first | exact ok_func hH hT hop h | exact ok_func (call := call) (id := id) hH hT hop h | exact ok_func (call := call) (id := id) (tm := tm) hH hT hop h | exact ok_func (call := call) (tm := tm) hH hT hop h | exact ok_func (env := env) (id := id) hH hT hop h | exact ok_func (env := env) (call := call) (id := id) hH hT hop h | exact ok_func (env := env) (call := call) hH hT hop h
 | makeMap t r => first | exact ok_makeMap hE hH hid hlt hS hT hop h | exact ok_makeMap (call := call) (id := id) hE hH hid hlt hS hT hop h | exact ok_makeMap (call := call) (id := id) (tm := tm) hE hH hid hlt hS hT hop h | exact ok_makeMap (call := call) (tm := tm) hE hH hid hlt hS hT hop h | exact ok_makeMap (env := env) (id := id) hE hH hid hlt hS hT hop h | exact ok_makeMap (env := env) (call := call) (id := id) hE hH hid hlt hS hT hop h | exact ok_makeMap (env := env) (call := call) hE hH hid hlt hS hT hop h
 | makeChan t x => cases h
 | makeSlice t l c => first | exact ok_makeSlice hE hH hid hlt hS hT hop h | exact ok_makeSlice (call := call) (id := id) hE hH hid hlt hS hT hop h | exact ok_makeSlice (call := call) (id := id) (tm := tm) hE hH hid hlt hS hT hop h | exact ok_makeSlice (call := call) (tm := tm) hE hH hid hlt hS hT hop h | exact ok_makeSlice (env := env) (id := id) hE hH hid hlt hS hT hop h | exact ok_makeSlice (env := env) (call := call) (id := id) hE hH hid hlt hS hT hop h | exact ok_makeSlice (env := env) (call := call) hE hH hid hlt hS hT hop h
 | slice t x lo hi mx => first | exact ok_slice hE hH hT hop h | exact ok_slice (call := call) (id := id) hE hH hT hop h | exact ok_slice (call := call) (id := id) (tm := tm) hE hH hT hop h | exact ok_slice (call := call) (tm := tm) hE hH hT hop h | exact ok_slice (env := env) (id := id) hE hH hT hop h | exact ok_slice (env := env) (call := call) (id := id) hE hH hT hop h | exact ok_slice (env := env) (call := call) hE hH hT hop h
 | fieldAddr t x f => first | exact ok_fieldAddr hE hH hT hop h | exact ok_fieldAddr (call := call) (id := id) hE hH hT hop h | exact ok_fieldAddr (call := call) (id := id) (tm := tm) hE hH hT hop h | exact ok_fieldAddr (call := call) (tm := tm) hE hH hT hop h | exact ok_fieldAddr (env := env) (id := id) hE hH hT hop h | exact ok_fieldAddr (env := env) (call := call) (id := id) hE hH hT hop h | exact ok_fieldAddr (env := env) (call := call) hE hH hT hop h
 | field t x f => first | exact ok_field hE hH hT hop h | exact ok_field (call := call) (id := id) hE hH hT hop h | exact ok_field (call := call) (id := id) (tm := tm) hE hH hT hop h | exact ok_field (call := call) (tm := tm) hE hH hT hop h | exact ok_field (env := env) (id := id) hE hH hT hop h | exact ok_field (env := env) (call := call) (id := id) hE hH hT hop h | exact ok_field (env := env) (call := call) hE hH hT hop h
 | indexAddr t x i => first | exact ok_indexAddr hE hH hT hop h | exact ok_indexAddr (call := call) (id := id) hE hH hT hop h | exact ok_indexAddr (call := call) (id := id) (tm := tm) hE hH hT hop h | exact ok_indexAddr (call := call) (tm := tm) hE hH hT hop h | exact ok_indexAddr (env := env) (id := id) hE hH hT hop h | exact ok_indexAddr (env := env) (call := call) (id := id) hE hH hT hop h | exact ok_indexAddr (env := env) (call := call) hE hH hT hop h
 | index t x i => first | exact ok_index hE hH hT hop h | exact ok_index (call := call) (id := id) hE hH hT hop h | exact ok_index (call := call) (id := id) (tm := tm) hE hH hT hop h | exact ok_index (call := call) (tm := tm) hE hH hT hop h | exact ok_index (env := env) (id := id) hE hH hT hop h | exact ok_index (env := env) (call := call) (id := id) hE hH hT hop h | exact ok_index (env := env) (call := call) hE hH hT hop h
 | lookup t x i ok => first | exact ok_lookup hE hH hT hop h | exact ok_lookup (call := call) (id := id) hE hH hT hop h | exact ok_lookup (call := call) (id := id) (tm := tm) hE hH hT hop h | exact ok_lookup (call := call) (tm := tm) hE hH hT hop h | exact ok_lookup (env := env) (id := id) hE hH hT hop h | exact ok_lookup (env := env) (call := call) (id := id) hE hH hT hop h | exact ok_lookup (env := env) (call := call) hE hH hT hop h
 | mapUpdate t m k x => first | exact ok_update hE hH hT (.inl hop) h | exact ok_update (call := call) (id := id) hE hH hT (.inl hop) h | exact ok_update (call := call) (id := id) (tm := tm) hE hH hT (.inl hop) h | exact ok_update (call := call) (tm := tm) hE hH hT (.inl hop) h | exact ok_update (env := env) (id := id) hE hH hT (.inl hop) h | exact ok_update (env := env) (call := call) (id := id) hE hH hT (.inl hop) h | exact ok_update (env := env) (call := call) hE hH hT (.inl hop) h
 | mapEntry t m k => first | exact ok_entry hE hH hT hop h | exact ok_entry (call := call) (id := id) hE hH hT hop h | exact ok_entry (call := call) (id := id) (tm := tm) hE hH hT hop h | exact ok_entry (call := call) (tm := tm) hE hH hT hop h | exact ok_entry (env := env) (id := id) hE hH hT hop h | exact ok_entry (env := env) (call := call) (id := id) hE hH hT hop h | exact ok_entry (env := env) (call := call) hE hH hT hop h
 | entryStore t m s x => first | exact ok_entryStore hH hT hop h | exact ok_entryStore (call := call) (id := id) hH hT hop h | exact ok_entryStore (call := call) (id := id) (tm := tm) hH hT hop h | exact ok_entryStore (call := call) (tm := tm) hH hT hop h | exact ok_entryStore (env := env) (id := id) hH hT hop h | exact ok_entryStore (env := env) (call := call) (id := id) hH hT hop h | exact ok_entryStore (env := env) (call := call) hH hT hop h
 | range t x => first | exact ok_range hE hH hid hlt hS hT hop h | exact ok_range (call := call) (id := id) hE hH hid hlt hS hT hop h | exact ok_range (call := call) (id := id) (tm := tm) hE hH hid hlt hS hT hop h | exact ok_range (call := call) (tm := tm) hE hH hid hlt hS hT hop h | exact ok_range (env := env) (id := id) hE hH hid hlt hS hT hop h | exact ok_range (env := env) (call := call) (id := id) hE hH hid hlt hS hT hop h | exact ok_range (env := env) (call := call) hE hH hid hlt hS hT hop h
 | next it b => first | exact ok_next hH hT hop h | exact ok_next (call := call) (id := id) hH hT hop h | exact ok_next (call := call) (id := id) (tm := tm) hH hT hop h | exact ok_next (call := call) (tm := tm) hH hT hop h | exact ok_next (env := env) (id := id) hH hT hop h | exact ok_next (env := env) (call := call) (id := id) hH hT hop h | exact ok_next (env := env) (call := call) hH hT hop h
 | entry it => first | exact ok_mapEntry hH hT hop h | exact ok_mapEntry (call := call) (id := id) hH hT hop h | exact ok_mapEntry (env := env) (call := call) (id := id) hH hT hop h
 | typeAssert x t0 t ok => first | exact ok_assert hH hT hE hop h | exact ok_assert (call := call) (id := id) hH hT hE hop h | exact ok_assert (call := call) (id := id) (tm := tm) hH hT hE hop h | exact ok_assert (call := call) (tm := tm) hH hT hE hop h | exact ok_assert (env := env) (id := id) hH hT hE hop h | exact ok_assert (env := env) (call := call) (id := id) hH hT hE hop h | exact ok_assert (env := env) (call := call) hH hT hE hop h
 | extract x i => first | exact ok_extract hH hT hop h | exact ok_extract (call := call) (id := id) hH hT hop h | exact ok_extract (call := call) (id := id) (tm := tm) hH hT hop h | exact ok_extract (call := call) (tm := tm) hH hT hop h | exact ok_extract (env := env) (id := id) hH hT hop h | exact ok_extract (env := env) (call := call) (id := id) hH hT hop h | exact ok_extract (env := env) (call := call) hH hT hop h
 | call c => exact ok_call hE hC hH hid hlt hS hS2 hT hop h
 | go c => cases h
 | defer c => cases h
 | panic x => cases h
 | send c x => cases h
 | recv t c ok => cases h
 | select cs b => cases h
end
omit [Sg] in
theorem slot_put (tm : Tm) (d t : Nat) (v : Value) : slot (putT tm (some d) v) t = if t = d then v else slot tm t := getF_putF undef 2 d t v tm
omit [Sg] in
theorem getD_set (A : Array Value) (d t : Nat) (v : Value) (h : d < A.size) : (A.setIfInBounds d v).getD t undef = if t = d then v else A.getD t undef := by
 by_cases e : t = d
 ·
  subst e; simp [h]
 ·
  rw [if_neg e]
  simp [Array.getElem?_setIfInBounds_ne (Ne.symm e)]
theorem TR.put {ρ : Map} {tm : Tm} {a : Act} (hT : TR ρ tm a.tmps) {dst : Option Tmp} (hd : ∀ d, dst = some d -> d < a.tmps.size) {v v' : Value} (hv : V ρ v v') : TR ρ (putT tm dst v) (a.put dst v').tmps := by
 cases dst with
 | none => exact hT
 | some d =>
  intro t
  show V ρ (slot (putT tm (some d) v) t) ((a.tmps.setIfInBounds d v').getD t undef)
  rw [slot_put, getD_set _ _ _ _ (hd d rfl)]
  split
  ·
   exact hv
  ·
   exact hT t
omit [Sg] in
theorem put_size (a : Act) (dst : Option Tmp) (v : Value) : (a.put dst v).tmps.size = a.tmps.size := by cases dst <;> simp [Act.put]
omit [Sg] in
theorem put_defers (a : Act) (dst : Option Tmp) (v : Value) : (a.put dst v).defers = a.defers := by cases dst <;> simp [Act.put]
theorem wanted_ok {ρ : Map} {tm : Tm} {tmps : Array Value} (hT : TR ρ tm tmps) (o : Oper) (ops : Array Oper) : wantedB o ops tm = Region.wanted o (yielded ops tmps) := by
 unfold wantedB Region.wanted
 generalize o.guard = g
 cases g with
 | none => rfl
 | some g =>
  obtain ⟨j, want⟩ := g
  show guardOk ops tm (j, want) = (yielded ops tmps j == some want)
  unfold guardOk yielded
  rw [nthL_eq]
  have hj : ops.toList[j]? = ops[j]? := by simp
  rw [hj]
  cases ops[j]? with
  | none => cases want <;> rfl
  | some q =>
   simp only [bnd_some, Option.bind_some]
   cases q.dst with
   | none => cases want <;> rfl
   | some d =>
    simp only [bnd_some, Option.bind_some]
    have hV := hT d
    rw [Array.getD_eq_getD_getElem?] at hV
    generalize hs : slot tm d = s at hV
    generalize hc : tmps[d]? = c at hV
    cases c with
    | none =>
     simp only [Option.getD_none] at hV
     have : boolOf s = none := by
      unfold undef at hV
      generalize hu : (Value.tuple #[]) = u at hV
      cases hV <;> first | (exact (isIS_tuple (Sg.kind _) _ hu.symm).elim) | rfl | (cases hu; done)
     rw [this]; cases want <;> rfl
    | some c =>
     simp only [Option.getD_some] at hV
     cases hV with
     | sym i =>
      have hk := Sg.kind i
      generalize Sg.val i = u at hk
      cases u <;> first | (cases hk; done) | (cases want <;> rfl)
     | any hb => cases c <;> first | (exact (hb _ rfl).elim) | (cases want <;> rfl)
     | bool b => cases b <;> cases want <;> rfl
     | _ => cases want <;> rfl
section
variable {P : Program} {ρ : Map} {H : Heap} {w : World} {a : Act}
variable {env : Env} (hE : EnvOk P env) {call : Call} (hC : CallsOk P call)
include hE hC in
theorem evOps_ok {ops : Array Oper} {base : Nat} (hdst : ∀ o ∈ ops.toList, ∀ d, o.dst = some d -> d < a.tmps.size) {Q : Exit -> Act -> World -> Prop} :
  ∀ (l : List Oper) (i : Nat) (ρ : Map) (tm : Tm) (H : Heap) (a' : Act) (w : World) {r : Tm × Heap}, ops.toList.drop i = l -> i <= ops.size -> evOps env call ops l (base + i) tm H = some r ->
   a'.tmps.size = a.tmps.size -> a'.defers = a.defers -> TR ρ tm a'.tmps -> HR P ρ H w -> base + ops.size <= H.next -> (∀ j, i <= j -> j < ops.size -> ρ (base + j) = none) ->
   (∀ ρ' a'' w', TR ρ' r.1 a''.tmps -> HR P ρ' r.2 w' -> Step (fun b => base + i <= b) ρ H w ρ' r.2 w' -> a''.tmps.size = a.tmps.size -> a''.defers = a.defers -> Q .normal a'' w') ->
   wpOps P ops Q (List.range' i (ops.size - i)) a' w
 | [], i, ρ, tm, H, a', w, r, hl, hi, h, hsz, hdf, hT, hH, hnx, hfr, hQ => by
  have e : some (tm, H) = some r := h
  cases e
  have hlen : ops.size <= i := by
   have := List.drop_eq_nil_iff.1 hl
   simpa using this
  have : ops.size - i = 0 := by omega
  rw [this]
  exact hQ ρ a' w hT hH (.refl _ _ _ _) hsz hdf
 | o :: l, i, ρ, tm, H, a', w, r, hl, hi, h, hsz, hdf, hT, hH, hnx, hfr, hQ => by
  have hlt : i < ops.size := by
   rcases Nat.lt_or_ge i ops.size with h | h
   ·
    exact h
   ·
    rw [List.drop_eq_nil_of_le (by simpa using h)] at hl; cases hl
  have ho : ops[i]? = some o := by
   have : (ops.toList.drop i)[0]? = some o := by rw [hl]; rfl
   rw [List.getElem?_drop] at this
   simpa using this
  have hmem : o ∈ ops.toList := List.mem_of_getElem? (i := i) (by simpa using ho)
  have hl' : ops.toList.drop (i + 1) = l := by
   have : (ops.toList.drop i).drop 1 = l := by rw [hl]; rfl
   rwa [List.drop_drop] at this
  have hr : ops.size - i = (ops.size - (i + 1)) + 1 := by omega
  rw [hr, List.range'_succ]
  have h' : ifB (wantedB o ops tm) (bnd (evOp o.op env call (base + i) tm H) fun p => evOps env call ops l (Nat.succ (base + i)) (putT tm o.dst p.1) p.2) (evOps env call ops l (Nat.succ (base + i)) (putT tm o.dst undef) H) = some r := h
  rw [wanted_ok hT] at h'
  simp only [wpOps, ho]
  cases hw : Region.wanted o (yielded ops a'.tmps) with
  | false =>
   rw [hw, ifB_false] at h'
   simp only [Bool.false_eq_true, if_false]
   refine evOps_ok hdst l (i + 1) ρ _ H (a'.put o.dst undef) w hl' hlt h' ?_ ?_ ?_ hH hnx (fun j hj => hfr j (by omega)) fun ρ' a'' w' h1 h2 h3 => hQ ρ' a'' w' h1 h2 (h3.weaken fun b hb => by omega)
   ·
    rw [put_size, hsz]
   ·
    rw [put_defers, hdf]
   ·
    exact hT.put (fun d hd => by rw [hsz]; exact hdst o hmem d hd) undef_V
  | true =>
   rw [hw, ifB_true, bnd_eq] at h'
   obtain ⟨⟨v, H1⟩, hop, h'⟩ := h'
   simp only [if_true]
   refine .inl ?_
   have hd := evOp_ok (S := fun b => b = base + i \/ base + ops.size <= b) (o := o) (a := a') hE hC hH (hfr i (Nat.le_refl _) hlt) (by omega) (.inl rfl) (fun _ b hb => .inr (by omega)) hT hop
   refine hd.wp ?_
   rintro v' w1 ⟨ρ1, hv, hH1, hS1⟩
   refine evOps_ok hdst l (i + 1) ρ1 _ H1 (a'.put o.dst v') w1 hl' hlt h' ?_ ?_ ?_ hH1 (Nat.le_trans hnx hS1.next) (fun j hj hjn => ?_) fun ρ' a'' w' h1 h2 h3 => hQ ρ' a'' w' h1 h2 ?_
   ·
    rw [put_size, hsz]
   ·
    rw [put_defers, hdf]
   ·
    exact (hT.mono hS1.le).put (fun d hd => by rw [hsz]; exact hdst o hmem d hd) hv
   ·
    rcases hS1.ext (base + j) with e | ⟨_, e⟩
    ·
     rw [e]; exact hfr j (by omega) hjn
    ·
     omega
   ·
    exact (hS1.weaken fun b hb => by omega).trans (h3.weaken fun b hb => by omega)
def DrawOk (P : Program) (env : Env) (call : Call) : Prop :=
 ∀ (id : Nat) (ops : Array Oper) (ρ : Map) (tm : Tm) (H : Heap) (a : Act) (w : World) (r : Tm × Heap) (Q : Exit -> Act -> World -> Prop), evDraw env call ops tm H = some r ->
  (∀ o ∈ ops.toList, ∀ d, o.dst = some d -> d < a.tmps.size) -> TR ρ tm a.tmps -> HR P ρ H w ->
  (∀ ρ' a' w', TR ρ' r.1 a'.tmps -> HR P ρ' r.2 w' -> Step (fun b => H.next <= b) ρ H w ρ' r.2 w' -> a'.tmps.size = a.tmps.size -> a'.defers = a.defers -> Q .normal a' w') ->
  (Code.region id ops true).wp P Q a w
def exOf : Ex -> Exit
 | .normal => .normal
 | .exit id => .exit id
 | .ret => .ret
variable (hD : DrawOk P env call)
omit [Sg] in
theorem bump_inv {n : Nat} {H' : Heap} (h : bump H n = some H') : H'.blks = H.blks /\ H'.next = H.next + n /\ H'.next <= 2 ^ 64 := by
 unfold bump at h
 simp only [fN_eq, chk_eq, Option.some.injEq, Nat.ble_eq] at h
 obtain ⟨h1, rfl⟩ := h
 exact ⟨rfl, rfl, h1⟩
def Good (P : Program) (c : Code) (ρ : Map) (H : Heap) (a : Act) (w : World) (r : Ex × Tm × Heap) : Prop :=
 ∀ Q : Exit -> Act -> World -> Prop, (∀ ρ' a' w', TR ρ' r.2.1 a'.tmps -> HR P ρ' r.2.2 w' -> Step (fun b => H.next <= b) ρ H w ρ' r.2.2 w' -> a'.tmps.size = a.tmps.size -> a'.defers = a.defers -> Q (exOf r.1) a' w') -> c.wp P Q a w
include hE hC hD in
theorem evC_ok (N : Nat) : ∀ (n : Nat), (∀ (c : Code) (ρ : Map) (tm : Tm) (H : Heap) (a : Act) (w : World) (r : Ex × Tm × Heap), evC env call n c tm H = some r -> codeOk N c = true -> a.tmps.size = N -> TR ρ tm a.tmps -> HR P ρ H w -> Good P c ρ H a w r) /\
  (∀ (b : Code) (ρ : Map) (tm : Tm) (H : Heap) (a : Act) (w : World) (r : Ex × Tm × Heap), evC env call n (.loop b) tm H = some r -> codeOk N b = true -> a.tmps.size = N -> TR ρ tm a.tmps -> HR P ρ H w ->
   ∀ Q : Exit -> Act -> World -> Prop, (∀ ρ' a' w', TR ρ' r.2.1 a'.tmps -> HR P ρ' r.2.2 w' -> Step (fun b => H.next <= b) ρ H w ρ' r.2.2 w' -> a'.tmps.size = a.tmps.size -> a'.defers = a.defers -> Q (exOf r.1) a' w') -> Code.rounds P b Q n a w)
 | 0 => ⟨fun c ρ tm H a w r h => (by cases h), fun b ρ tm H a w r h => (by cases h)⟩
 | n + 1 => by
  obtain ⟨ih, ihl⟩ := evC_ok N n
  have loops : (∀ (b : Code) (ρ : Map) (tm : Tm) (H : Heap) (a : Act) (w : World) (r : Ex × Tm × Heap), evC env call (n + 1) (.loop b) tm H = some r -> codeOk N b = true -> a.tmps.size = N -> TR ρ tm a.tmps -> HR P ρ H w ->
   ∀ Q : Exit -> Act -> World -> Prop, (∀ ρ' a' w', TR ρ' r.2.1 a'.tmps -> HR P ρ' r.2.2 w' -> Step (fun b => H.next <= b) ρ H w ρ' r.2.2 w' -> a'.tmps.size = a.tmps.size -> a'.defers = a.defers -> Q (exOf r.1) a' w') -> Code.rounds P b Q (n + 1) a w) := by
   intro b ρ tm H a w r h hok hsz hT hH Q hQ
   have h' : bnd (evC env call n b tm H) (fun r => ifB (isNormal r.1) (evC env call n (.loop b) r.2.1 r.2.2) (some r)) = some r := h
   rw [bnd_eq] at h'
   obtain ⟨⟨e1, tm1, H1⟩, h1, h'⟩ := h'
   rw [rounds_succ]
   refine ih b ρ tm H a w _ h1 hok hsz hT hH _ ?_
   intro ρ1 a1 w1 hT1 hH1 hS1 hsz1 hdf1
   cases e1 with
   | normal =>
    have h2 : evC env call n (.loop b) tm1 H1 = some r := h'
    exact ihl b ρ1 tm1 H1 a1 w1 r h2 hok (hsz1.trans hsz) hT1 hH1 Q fun ρ' a' w' g1 g2 g3 g4 g5 => hQ ρ' a' w' g1 g2 (hS1.trans (g3.weaken fun b hb => Nat.le_trans hS1.next hb)) (g4.trans hsz1) (g5.trans hdf1)
   | exit id => have h2 : some (Ex.exit id, tm1, H1) = some r := h'; cases h2; exact hQ ρ1 a1 w1 hT1 hH1 hS1 hsz1 hdf1
   | ret => have h2 : some (Ex.ret, tm1, H1) = some r := h'; cases h2; exact hQ ρ1 a1 w1 hT1 hH1 hS1 hsz1 hdf1
  refine ⟨?_, loops⟩
  intro c ρ tm H a w r h hok hsz hT hH Q hQ
  cases c with
  | skip => have h' : some (Ex.normal, tm, H) = some r := h; cases h'; exact wp_skip (hQ ρ a w hT hH (.refl _ _ _ _) rfl rfl)
  | region id ops draw =>
   have h' : bnd (evRegion draw env call ops tm H) (fun p => some (Ex.normal, p.1, p.2)) = some r := h
   rw [bnd_eq] at h'
   obtain ⟨p, hp, e⟩ := h'
   cases e
   have hdst : ∀ o ∈ ops.toList, ∀ d, o.dst = some d -> d < a.tmps.size := by
    intro o ho d hd
    have := List.all_eq_true.1 (show ops.toList.all _ = true from hok) o ho
    rw [hd] at this
    rw [hsz]; exact Nat.le_of_ble_eq_true this
   cases draw with
   | true => exact hD id ops ρ tm H a w p Q hp hdst hT hH fun ρ' a' w' g1 g2 g3 g4 g5 => hQ ρ' a' w' g1 g2 g3 g4 g5
   | false =>
    have hp' : bnd (bump H (lenL ops.toList)) (fun H' => evOps env call ops ops.toList H.next tm H') = some p := hp
    rw [bnd_eq] at hp'
    obtain ⟨H1, hb, hp'⟩ := hp'
    obtain ⟨b1, b2, b3⟩ := bump_inv hb
    have hln : lenL ops.toList = ops.size := by rw [lenL_eq]; simp
    rw [hln] at b2
    have hget : ∀ b, H1.get b = H.get b := fun b => by unfold Heap.get; rw [b1]
    have hH1 : HR P ρ H1 w := ⟨fun b x e h1 h2 => hH.blk b x e (by rwa [hget] at h1) h2, fun c d x y e f h1 h2 => hH.inj c d x y e f (by rwa [hget] at h1) (by rwa [hget] at h2), fun b e h1 => by have := hH.dom b e h1; omega, b3, fun b hb => by rw [hget]; exact hH.top b (by omega)⟩
    have hS0 : Step (fun b => H.next <= b) ρ H w ρ H1 w := ⟨fun _ => .inl rfl, rfl, rfl, rfl, Nat.le_refl _, fun _ _ _ => rfl, fun B _ ⟨b, x, e, h1, h2, h3, h4⟩ => ⟨b, x, e, by rwa [hget] at h1, h2, h3, h4⟩, by omega, fun B _ ⟨b, x, e, h1, h2, h3⟩ => ⟨b, x, e, by rwa [hget] at h1, h2, h3⟩, fun b _ _ => hget b, fun b hb _ => by rw [hget]; exact hb⟩
    refine wp_region ?_
    have hrange : List.range ops.size = List.range' 0 (ops.size - 0) := by rw [List.range_eq_range']; simp
    rw [hrange]
    refine evOps_ok (a := a) (base := H.next) hE hC hdst ops.toList 0 ρ tm H1 a w (by simp) (Nat.zero_le _) (by simpa using hp') rfl rfl hT hH1 (by omega) (fun j _ _ => ?_) fun ρ' a' w' g1 g2 g3 g4 g5 => hQ ρ' a' w' g1 g2 (hS0.trans (g3.weaken fun b hb => by omega)) g4 g5
    cases hr : ρ (H.next + j) with
    | none => rfl
    | some e => have := hH.dom _ e hr; omega
  | seq x y =>
   have h' : bnd (evC env call n x tm H) (fun r => ifB (isNormal r.1) (evC env call n y r.2.1 r.2.2) (some r)) = some r := h
   rw [bnd_eq] at h'
   obtain ⟨⟨e1, tm1, H1⟩, h1, h'⟩ := h'
   have hok' : codeOk N x = true /\ codeOk N y = true := by
    have : (codeOk N x && codeOk N y) = true := hok
    simpa using this
   refine wp_seq (ih x ρ tm H a w _ h1 hok'.1 hsz hT hH _ ?_)
   intro ρ1 a1 w1 hT1 hH1 hS1 hsz1 hdf1
   cases e1 with
   | normal =>
    have h2 : evC env call n y tm1 H1 = some r := h'
    exact ih y ρ1 tm1 H1 a1 w1 r h2 hok'.2 (hsz1.trans hsz) hT1 hH1 Q fun ρ' a' w' g1 g2 g3 g4 g5 => hQ ρ' a' w' g1 g2 (hS1.trans (g3.weaken fun b hb => Nat.le_trans hS1.next hb)) (g4.trans hsz1) (g5.trans hdf1)
   | exit id => have h2 : some (Ex.exit id, tm1, H1) = some r := h'; cases h2; exact hQ ρ1 a1 w1 hT1 hH1 hS1 hsz1 hdf1
   | ret => have h2 : some (Ex.ret, tm1, H1) = some r := h'; cases h2; exact hQ ρ1 a1 w1 hT1 hH1 hS1 hsz1 hdf1
  | cond x y z =>
   have h' : bnd (eval tm x) (fun v => bnd (boolOf v) fun t => ifB t (evC env call n y tm H) (evC env call n z tm H)) = some r := h
   simp only [bnd_eq] at h'
   obtain ⟨v, hv, t, ht, h'⟩ := h'
   have := boolOf_eq ht; subst this
   have hc := (eval_ok hT hv).bool_inv
   have hok' : codeOk N y = true /\ codeOk N z = true := by
    have : (codeOk N y && codeOk N z) = true := hok
    simpa using this
   refine wp_cond hc ?_
   cases t with
   | true => rw [ifB_true] at h'; exact ih y ρ tm H a w r h' hok'.1 hsz hT hH Q hQ
   | false => rw [ifB_false] at h'; exact ih z ρ tm H a w r h' hok'.2 hsz hT hH Q hQ
  | block id b =>
   have h' : bnd (evC env call n b tm H) (fun r => some (unExit id r.1, r.2)) = some r := h
   rw [bnd_eq] at h'
   obtain ⟨⟨e1, tm1, H1⟩, h1, e⟩ := h'
   cases e
   refine wp_block (ih b ρ tm H a w _ h1 hok hsz hT hH _ ?_)
   intro ρ1 a1 w1 hT1 hH1 hS1 hsz1 hdf1
   have hq := hQ ρ1 a1 w1 hT1 hH1 hS1 hsz1 hdf1
   cases e1 with
   | normal => exact hq
   | ret => exact hq
   | exit k =>
    show (if k = id then Q .normal a1 w1 else Q (.exit k) a1 w1)
    have hu : unExit id (.exit k) = if k = id then .normal else .exit k := by
     show ifB (Nat.beq k id) Ex.normal (Ex.exit k) = _
     rw [ifB_eq]
     simp only [Nat.beq_eq]
    dsimp only at hq
    rw [hu] at hq
    by_cases hk : k = id
    ·
     rw [if_pos hk] at hq ⊢; exact hq
    ·
     rw [if_neg hk] at hq ⊢; exact hq
  | loop b => exact wp_loop_rounds (n + 1) (loops b ρ tm H a w r h hok hsz hT hH Q hQ)
  | rangeFunc f p x y => cases h
  | exit id => have h' : some (Ex.exit id, tm, H) = some r := h; cases h'; exact wp_exit (hQ ρ a w hT hH (.refl _ _ _ _) rfl rfl)
  | scope b => cases h
  | label l => cases h
  | goto l => cases h
  | ret => have h' : some (Ex.ret, tm, H) = some r := h; cases h'; exact wp_ret (hQ ρ a w hT hH (.refl _ _ _ _) rfl rfl)
  | refuse s => cases h
end
end Go.Ev
