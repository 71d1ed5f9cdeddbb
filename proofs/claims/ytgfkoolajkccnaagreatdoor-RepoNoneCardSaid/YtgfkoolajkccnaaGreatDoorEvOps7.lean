/- New slices and maps; append; copy. -/
import Derived.Test.YtgfkoolajkccnaaGreatDoorEvOps6
/-! New slices and maps; append; copy. -/
namespace Go.Ev
open Go.RowKit

theorem newSlice_eq {H H' : Heap} {id n c : Nat} {elem : TypeId} {cs : List Value} {v : Value} (h : newSlice H id n c elem cs = some (v, H')) :
    v = .slice (some ⟨id, 0, none⟩) n c ∧ H' = H.set id (.cells cs elem .rw) := by
  unfold newSlice at h
  simp only [fN_eq, Option.some.injEq, Prod.mk.injEq] at h
  exact ⟨h.1.symm, h.2.symm⟩

theorem ofUns_small {n : Nat} (h : n < 9223372036854775808) : ofUns .i64 n = (n : Int) := by
  show ifB true (ifB (Nat.ble 9223372036854775808 n) _ (Int.ofNat n)) (Int.ofNat n) = _
  rw [ifB_true, ifB_eq, if_neg (by rw [Nat.ble_eq]; omega)]
  rfl

theorem run_newRow (P : Program) (w : World) (t : TypeId) (C : Array Value) : (newRow t C).run P w = .ok ⟨w.heap.size, 0, none⟩ (w.alloc (.cells C t)) := by
  simp [newRow]

section
variable {P : Program} {S : Nat → Prop} {ρ : Map} {H : Heap} {w : World} {o : Oper} {a : Act}
variable {env : Env} (hE : EnvOk P env)
variable {call : Call} {id : Nat} {tm : Tm} {v : Value} {H' : Heap}
variable (hH : HR P ρ H w) (hid : ρ id = none) (hlt : id < H.next) (hS : S id) (hT : TR ρ tm a.tmps)

include hH hid hlt hS in
/-- A slice over a new row of just these cells. -/
theorem newSlice_ok {n c : Nat} {elem : TypeId} {cs cs' : List Value} {i : TypeInfo} (hi : P.info? elem = some i) (h : newSlice H id n c elem cs = some (v, H')) (hv : VL ρ cs cs') (h1 : ∀ x ∈ cs', x.oneCell' = true) (hn : n ≤ c) (hc : c ≠ U) :
    Post P S ρ H w v H' (.slice (some ⟨w.heap.size, 0, none⟩) n c) (w.alloc (.cells ⟨cs'⟩ elem)) := by
  obtain ⟨rfl, rfl⟩ := newSlice_eq h
  obtain ⟨hH', hSt⟩ := hH.row (S := S) hid hlt hS (cs := cs) (cs' := cs') (C := ⟨cs'⟩) (elem := elem) (fr := (0, 0)) hi hv h1 (by simp) (by simp) (w' := w.alloc (.cells ⟨cs'⟩ elem)) rfl rfl rfl
    (by simp) (heap_alloc_new _ _) (fun k hk => Below.heap_alloc _ _ _ hk)
  exact ⟨_, .slice (ins_same _ _ _) hn hc, hH', hSt⟩

include hE hH hid hlt hS hT in
theorem ok_buildSlice {t : TypeId} {len : Nat} {parts : Array (Nat × Operand)} (ho : o.op = .buildSlice t len parts) (h : oBuildSlice t len parts env call id tm H = some (v, H')) : Does P o a w (Post P S ρ H w v H') := by
  unfold oBuildSlice buildSlice at h
  simp only [bnd_eq, chk_eq] at h
  obtain ⟨ps, hps, elem, hel, i, hi, z, hz, zs, hzs, hle, cs, hcs, h⟩ := h
  have hzero : env.zero elem = some z := by simp [Env.zero, hi, hz]
  have hsz : env.size elem = some i.size := by simp [Env.size, hi]
  obtain ⟨hzc, hzV, hz1, hzsz⟩ := zero_cells (ρ := ρ) hE hzero hzs
  rw [hsz] at hzsz
  have hzl : i.size = zs.length := Option.some.inj hzsz
  have hd := slice_inv hel
  have hPL := parts_ok hT hps
  rw [Nat.ble_eq] at hle
  have hle' : len * (i.size + 1) ≤ 1048576 := hle
  have hmul : len * i.size + len ≤ 1048576 := by rw [Nat.mul_add] at hle'; omega
  obtain ⟨r', hr', hVr, h1⟩ := fill_ok (place' := fun j => some (j * i.size, i.size)) (fun j q hq => hq) hcs hPL (hzV.rep len) (repL_one hz1 len)
  refine does_val ?_ (newSlice_ok hH hid hlt hS (hE.info elem i hi) h hVr h1 (Nat.le_refl _) (by unfold U; omega))
  have hparts : (parts.map fun (p : Nat × Operand) => (p.1, a.eval p.2)).toList = parts.toList.map fun p => (p.1, a.eval p.2) := by simp
  simp only [execOp, ho]
  refine run_v ?_
  have hbig : ¬ len * i.size > 2 ^ 24 := by omega
  have hrow : ∀ zc : Array Value, (zc = ⟨zs⟩ ∨ len * i.size = 0) → ((Array.range (len * i.size)).map (fun j => zc[j % zc.size]!)) = ⟨repL zs len⟩ := by
    intro zc hzc'
    have hq := zeros_eq zs len
    rcases hzc' with rfl | h0
    · rw [hzl]; exact hq
    · rw [← hzl, h0] at hq
      rw [h0, ← hq]
      simp
  by_cases h0 : len * i.size = 0
  · have := hrow #[] (.inr h0)
    rw [h0] at this
    have h24 : ¬ 0 > 2 ^ 24 := by decide
    simp only [Instr.buildSlice, Sem.run_bind, run_und hE hd, Result.andThen_ok, run_size hE hsz, h24, if_false, h0, if_true, Sem.run_pure, this, hparts, hr', run_newRow]
  · have := hrow ⟨zs⟩ (.inl rfl)
    simp only [Instr.buildSlice, Sem.run_bind, run_und hE hd, Result.andThen_ok, run_size hE hsz, hbig, if_false, h0, run_zero hE hzero, Sem.run_pure, hzc, this, hparts, hr', run_newRow]

include hH hid hlt hS in
theorem newMap_ok (h : newMap H id = some (v, H')) : Post P S ρ H w v H' (.map (some w.heap.size)) (w.alloc (.map #[] 0)) := by
  unfold newMap at h
  simp only [fN_eq, Option.some.injEq, Prod.mk.injEq] at h
  obtain ⟨rfl, rfl⟩ := h
  obtain ⟨hH', hSt⟩ := hH.fresh (S := S) hid hlt (x := .map [] 0) (e := ⟨w.heap.size, 0, 0, 0, 0⟩) (w' := w.alloc (.map #[] 0)) hS (Nat.le_refl _) rfl rfl rfl (by simp) (by
    show BR P _ _ _ (w.alloc (.map #[] 0)).heap[w.heap.size]?
    rw [heap_alloc_new]; exact .map .nil) (fun k hk => Below.heap_alloc _ _ _ hk)
  exact ⟨_, .map (ins_same _ _ _), hH', hSt⟩

include hE hH hid hlt hS hT in
theorem ok_makeMap {t : TypeId} {x : Option Operand} (ho : o.op = .makeMap t x) (h : oMakeMap t x env call id tm H = some (v, H')) : Does P o a w (Post P S ρ H w v H') := by
  cases x with
  | none =>
    have h' : newMap H id = some (v, H') := h
    refine does_val ?_ (newMap_ok hH hid hlt hS h')
    simp [execOp, ho, Instr.makeMap]
  | some x =>
    have h' : bnd (env.map t) (fun _ => bnd (eval tm x) fun v => chk (!(notInt v)) (newMap H id)) = some (v, H') := h
    simp only [bnd_eq, chk_eq] at h'
    obtain ⟨p, hp, u, hu, hi, h'⟩ := h'
    refine does_val ?_ (newMap_ok hH hid hlt hS h')
    have hd := map_inv hp
    have hV := eval_ok hT hu
    cases u with
    | int k n =>
      simp [execOp, ho, Instr.makeMap, run_und hE hd, hV.int_inv, asInt, asIntOf]
    | _ => simp [notInt] at hi

include hE hH hid hlt hS hT in
theorem ok_makeSlice {t : TypeId} {l c : Operand} (ho : o.op = .makeSlice t l c) (h : oMakeSlice t l c env call id tm H = some (v, H')) : Does P o a w (Post P S ρ H w v H') := by
  unfold oMakeSlice makeSlice at h
  simp only [bnd_eq, chk_eq, Bool.and_eq_true, Nat.ble_eq] at h
  obtain ⟨lv, hl, cv, hc, elem, hel, i, hi, z, hz, ln, hln, cn, hcn, ⟨hlc, hle⟩, zs, hzs, h⟩ := h
  have inv : ∀ {x : Value} {n : Nat}, i64Of x = some n → x = .int .i64 (.ofNat n) := by
    intro x n hx
    unfold i64Of at hx
    split at hx
    · cases hx; rfl
    · cases hx
  have e1 := inv hln
  have e2 := inv hcn
  subst e1 e2
  have hV1 := (eval_ok hT hl).int_inv
  have hV2 := (eval_ok hT hc).int_inv
  have hzero : env.zero elem = some z := by simp [Env.zero, hi, hz]
  have hsz : env.size elem = some i.size := by simp [Env.size, hi]
  obtain ⟨hzc, hzV, hz1, hzsz⟩ := zero_cells (ρ := ρ) hE hzero hzs
  rw [hsz] at hzsz
  have hzl : i.size = zs.length := Option.some.inj hzsz
  have hd := slice_inv hel
  have hle' : cn * (i.bytes + 1) ≤ 1099511627776 := hle
  have hmul : cn * i.bytes + cn ≤ 1099511627776 := by rw [Nat.mul_add] at hle'; omega
  refine does_val ?_ (newSlice_ok hH hid hlt hS (hE.info elem i hi) h (hzV.rep cn) (repL_one hz1 cn) hlc (by unfold U; omega))
  simp only [execOp, ho, hV1, hV2]
  refine run_v ?_
  have hwl : IntKind.i64.wrap (Int.ofNat ln) = (ln : Int) := by
    show IntKind.i64.wrap ((ln : Nat) : Int) = _
    rw [← ofUns_nat .i64 (m := ln) (by simp [IntKind.bits]; omega), ofUns_small (by omega)]
  have hwc : IntKind.i64.wrap (Int.ofNat cn) = (cn : Int) := by
    show IntKind.i64.wrap ((cn : Nat) : Int) = _
    rw [← ofUns_nat .i64 (m := cn) (by simp [IntKind.bits]; omega), ofUns_small (by omega)]
  have hbig : ∀ n : Nat, n ≤ cn → ¬ ((decide ((n : Int) < 0) || decide ((i.bytes : Int) * (n : Int) > 2 ^ 48)) = true) := by
    intro n hn
    have hb : n * i.bytes ≤ cn * i.bytes := Nat.mul_le_mul_right _ hn
    have hb' : (i.bytes : Int) * (n : Int) = ((n * i.bytes : Nat) : Int) := by rw [Nat.mul_comm]; simp
    rw [hb']
    simp
    omega
  have hcond : ¬ ((decide ((cn : Int) < 0) || decide ((i.bytes : Int) * (cn : Int) > 2 ^ 48) || decide ((ln : Int) < 0) || decide ((ln : Int) > (cn : Int))) = true) := by
    have := hbig cn (Nat.le_refl _)
    simp only [Bool.or_eq_true, not_or] at this ⊢
    refine ⟨⟨this, ?_⟩, ?_⟩ <;> simp <;> omega
  have hq := zeros_eq zs cn
  rw [← hzl] at hq
  by_cases h0 : cn * i.size = 0
  · have hq0 : (Array.range (cn * i.size)).map (fun j => (#[] : Array Value)[j % (#[] : Array Value).size]!) = ⟨repL zs cn⟩ := by
      rw [h0] at hq ⊢; rw [← hq]; simp
    simp only [Instr.makeSlice, asInt, asIntOf, Sem.run_bind, Sem.run_pure, run_und hE hd, Result.andThen_ok, run_info hE hi, hwl, hwc]
    rw [if_neg (by simpa using hcond)]
    simp only [Sem.run_bind, run_askRoom, Result.andThen_ok, run_size hE hsz, Int.toNat_natCast, h0, if_true, Sem.run_pure]
    rw [h0] at hq0
    simp only [hq0, run_newRow, Result.andThen_ok]
  · simp only [Instr.makeSlice, asInt, asIntOf, Sem.run_bind, Sem.run_pure, run_und hE hd, Result.andThen_ok, run_info hE hi, hwl, hwc]
    rw [if_neg (by simpa using hcond)]
    simp only [Sem.run_bind, run_askRoom, Result.andThen_ok, run_size hE hsz, Int.toNat_natCast, h0, if_false, run_zero hE hzero, hzc, Sem.run_pure, hq, run_newRow]
end
end Go.Ev
