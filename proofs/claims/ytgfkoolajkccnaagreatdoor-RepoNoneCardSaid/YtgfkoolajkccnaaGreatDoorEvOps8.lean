/- append and copy. -/
import Derived.Test.YtgfkoolajkccnaaGreatDoorEvOps7
/-! append and copy. -/
namespace Go.Ev
open Go.RowKit

section
variable {P : Program} {S : Nat → Prop} {ρ : Map} {H : Heap} {w : World} {a : Act}
variable {env : Env} (hE : EnvOk P env)
variable {id : Nat} {v : Value} {H' : Heap}
variable (hH : HR P ρ H w) (hid : ρ id = none) (hlt : id < H.next) (hS : S id)

include hH in
theorem source_ok {size n : Nat} {x x' : Value} {new : List Value} (h : source H size x = some (n, new)) (hx : V ρ x x') :
    ∃ new', VL ρ new new' ∧ (∀ y ∈ new', y.oneCell' = true) ∧ new'.length = n * size ∧ (Builtin.lenOf x').run P w = .ok n w ∧
      ∀ m, m ≤ n → (Builtin.firstCells size m x').run P w = .ok ⟨new'.take (m * size)⟩ w := by
  unfold source at h
  split at h
  · cases h
    cases hx
    exact ⟨[], .nil, by simp, by simp, rfl, fun m hm => by simp [Builtin.firstCells]⟩
  · rename_i p n' c
    rw [bnd_eq] at h
    obtain ⟨l, hl, e⟩ := h
    cases e
    have fin : ∀ (p' : Addr) (c' : Nat), AR ρ p p' → x' = .slice (some p') n c' → ∃ new', VL ρ new new' ∧ (∀ y ∈ new', y.oneCell' = true) ∧ new'.length = n * size ∧ (Builtin.lenOf x').run P w = .ok n w ∧
        ∀ m, m ≤ n → (Builtin.firstCells size m x').run P w = .ok ⟨new'.take (m * size)⟩ w := by
      intro p' c' hAR hx'
      obtain ⟨l', hVL, h1, hlen, hc⟩ := hH.load hAR hl
      refine ⟨l', hVL, h1, hlen, by rw [hx']; rfl, fun m hm => ?_⟩
      rw [hx']
      have hms : m * size ≤ n * size := Nat.mul_le_mul_right size hm
      have := run_loadCells_of (P := P) (w := w) (a' := p') (l' := l'.take (m * size)) (n := m * size) (by rw [List.length_take]; rw [show Nat.mul n size = n * size from rfl] at hlen; omega) (fun j v hj => by
        rw [List.getElem?_take] at hj
        split at hj
        · exact hc j v hj
        · cases hj)
      simpa [Builtin.firstCells] using this
    cases hx with
    | slice h0 hn hc => exact fin _ _ ⟨_, h0, rfl, rfl⟩ rfl
    | sliceU h0 hn hc => exact fin _ _ ⟨_, h0, rfl, rfl⟩ rfl
    | empty h0 hs =>
      have : new = [] := by
        unfold cellsAt at hl
        simp only [chk_eq, bnd_eq] at hl
        obtain ⟨_, _, _, _, _, hl⟩ := hl
        rw [takeN_eq, show Nat.mul 0 size = 0 from Nat.zero_mul size] at hl
        simpa using hl.2
      subst this
      refine ⟨[], .nil, by simp, by simp, rfl, fun m hm => ?_⟩
      have : m = 0 := by omega
      subst this
      simp [Builtin.firstCells, loadCells, loadCellsFrom]
  · rename_i s
    rw [chk_eq] at h
    obtain ⟨hs, e⟩ := h
    have hs1 := Nat.eq_of_beq_eq_true hs
    subst hs1
    simp only [lenL_eq, mapL_eq, Option.some.injEq, Prod.mk.injEq] at e
    obtain ⟨rfl, rfl⟩ := e
    rw [hx.string_inv]
    refine ⟨_, VL.bytes _, bytes_one _, by simp, ?_, fun m hm => ?_⟩
    · have : s.data.toList.length = s.size := by simp
      rw [this]; rfl
    · have : ((s.extract 0 m).data.map fun b => Value.int .u8 b.toNat) = ⟨(s.data.toList.map byteVal).take (m * 1)⟩ := by
        apply Array.ext'
        simp [List.extract_eq_take_drop]
        rfl
      simp only [Builtin.firstCells, Sem.run_pure, this]
  · cases h

theorem nextslicecap_le (need old : Nat) (h : old < need) : Builtin.nextslicecap need old ≤ 2 * need + 192 := by
  have hg : ∀ (r c : Nat), c ≤ 2 * need + 192 → Builtin.growBy need r c ≤ 2 * need + 192 := by
    intro r
    induction r with
    | zero => intro c hc; simpa [Builtin.growBy] using hc
    | succ r ih =>
      intro c hc
      unfold Builtin.growBy
      split
      · exact hc
      · exact ih _ (by omega)
  unfold Builtin.nextslicecap
  split
  · omega
  · split
    · omega
    · exact hg _ _ (by omega)

/-- What the model does when a slice moves. -/
theorem run_append_moves {t1 t2 elem ty : TypeId} {d2 : TypeDesc} {i : TypeInfo} {z : Value} {zs : List Value} (hd : P.underlying t1 = some (.slice elem)) (hd2 : P.underlying t2 = some d2) (hni : isInt d2 = false)
    (hi : P.info? elem = some i) (hz : i.zero = some z) (hzc : z.cells = ⟨zs⟩) (hzl : zs.length = i.size)
    {base : Option Addr} {sLen sCap n : Nat} {x' : Value} {old new : List Value} (hlen : (Builtin.lenOf x').run P w = .ok n w)
    (hold : (Builtin.firstCells i.size sLen (.slice base sLen sCap)).run P { w with drawn := w.drawn + 1 } = .ok ⟨old⟩ { w with drawn := w.drawn + 1 })
    (hnew : (Builtin.firstCells i.size n x').run P { w with drawn := w.drawn + 1 } = .ok ⟨new⟩ { w with drawn := w.drawn + 1 })
    (hol : old.length = sLen * i.size) (hnl : new.length = n * i.size) (hgt : sCap < sLen + n) (hbound : (sLen + n) * (i.bytes + 1) ≤ 1099511627776) :
    ∃ cap C W, (Builtin.append_ #[t1, t2] ty #[.slice base sLen sCap, x']).run P w = .ok (.slice (some ⟨w.heap.size, 0, none⟩) (sLen + n) cap) W ∧ sLen + n ≤ cap ∧ C.size = cap * i.size ∧
      C.toList.take (old ++ new).length = old ++ new ∧ W = ({ w with drawn := w.drawn + 1 } : World).alloc (.cells C elem) := by
  let q : Question := .appendCap (sLen + n) sCap elem
  let cap := q.cut (w.tape w.drawn q)
  have hcap : sLen + n ≤ cap := by simp only [cap, q, Question.cut]; omega
  let C : Array Value := ⟨old⟩ ++ ⟨new⟩ ++ Builtin.zeroCells ⟨zs⟩ (cap - (sLen + n))
  have hzs : Builtin.zeroCells ⟨zs⟩ (cap - (sLen + n)) = ⟨repL zs (cap - (sLen + n))⟩ := zeros_eq zs _
  have hCs : C.size = cap * i.size := by
    simp only [C, hzs, Array.size_append, List.size_toArray, repL_length, hol, hnl, hzl]
    rw [← Nat.add_mul, ← Nat.add_mul]
    congr 1; omega
  refine ⟨cap, C, _, ?_, hcap, hCs, ?_, rfl⟩
  · have hm : (match (some t2 : Option TypeId) with | some xType => (do pure ((← underlying xType) matches .int _) : Sem Bool) | none => pure false).run P w = .ok false w := by
      simp only [Sem.run_bind, run_underlying hd2, Result.andThen_ok]
      cases d2 <;> first | rfl | simp [isInt] at hni
    have hn1 : sLen + n ≤ 1099511627776 := by
      have : (sLen + n) * 1 ≤ (sLen + n) * (i.bytes + 1) := Nat.mul_le_mul_left _ (by omega)
      omega
    have hno1 : ¬ (((sLen + n : Nat) : Int) > IntKind.i64.max ∧ (false = true ∨ i.bytes = 0)) := by
      rw [IntKind.max_i64]; omega
    have hns := nextslicecap_le (sLen + n) sCap hgt
    have hno2 : ¬ Builtin.nextslicecap (sLen + n) sCap * i.bytes > 2 ^ 48 := by
      have h1 : Builtin.nextslicecap (sLen + n) sCap * i.bytes ≤ (2 * (sLen + n) + 192) * i.bytes := Nat.mul_le_mul_right _ hns
      have h2 : (2 * (sLen + n) + 192) * i.bytes = 2 * ((sLen + n) * i.bytes) + 192 * i.bytes := by rw [Nat.add_mul, Nat.mul_assoc]
      have h3 : (sLen + n) * (i.bytes + 1) = (sLen + n) * i.bytes + (sLen + n) := by rw [Nat.mul_add, Nat.mul_one]
      have h4 : i.bytes ≤ (sLen + n) * i.bytes := Nat.le_mul_of_pos_left _ (by omega)
      omega
    have hneed : ¬ sLen + n ≤ sCap := by omega
    have hinfo : ∀ w', (typeInfo elem).run P w' = .ok i w' := by intro w'; simp [typeInfo, hi]
    have hsize : ∀ w', (sizeOf elem).run P w' = .ok i.size w' := by intro w'; simp [sizeOf, hinfo]
    have hzero : ∀ w', (zeroValue elem).run P w' = .ok z w' := by intro w'; simp [zeroValue, hinfo, hz]
    have hq : q.forced = false := rfl
    simp only [Builtin.append_, List.getElem?_toArray, List.getElem?_cons_zero, List.getElem?_cons_succ, Sem.run_bind, run_underlying hd, Result.andThen_ok, hsize]
    rw [run_underlying hd2, Result.andThen_ok]
    refine (congrArg (fun bb => (Sem.run P (pure bb) w).andThen _) (?_ : _ = false)).trans ?_
    · cases d2 <;> first | rfl | simp [isInt] at hni
    · simp only [Result.andThen_ok, Sem.run_pure, Bool.false_eq_true, if_false, hlen, Sem.run_bind, hneed, Sem.run_ite, hinfo, hno2, false_or, Bool.not_false, if_true,
        run_choose, show (Question.appendCap (sLen + n) sCap elem).forced = false from rfl, run_askRoom, hold, hnew, hzero, hzc, newRow, run_newObj]
      rw [if_neg (by simpa using hno1)]
      rfl
  · have e : C.toList = old ++ new ++ (Builtin.zeroCells ⟨zs⟩ (cap - (sLen + n))).toList := by simp [C]
    rw [e]
    exact List.take_left' rfl

/-- What the model does where there is room. -/
theorem run_append_room {t1 t2 elem ty : TypeId} {d2 : TypeDesc} {size : Nat} (hd : P.underlying t1 = some (.slice elem)) (hd2 : P.underlying t2 = some d2) (hni : isInt d2 = false)
    (hsize : (sizeOf elem).run P w = .ok size w) {base : Option Addr} {sLen sCap n : Nat} {x' : Value} {new : List Value} (hlen : (Builtin.lenOf x').run P w = .ok n w)
    (hnew : (Builtin.firstCells size n x').run P w = .ok ⟨new⟩ w) (hle : sLen + n ≤ sCap) {w' : World}
    (hst : (match base with | some a => storeCells (a.add (sLen * size)) new | none => pure () : Sem Unit).run P w = .ok () w') :
    (Builtin.append_ #[t1, t2] ty #[.slice base sLen sCap, x']).run P w = .ok (.slice base (sLen + n) sCap) w' := by
  simp only [Builtin.append_, List.getElem?_toArray, List.getElem?_cons_zero, List.getElem?_cons_succ, Sem.run_bind, run_underlying hd, Result.andThen_ok, hsize]
  rw [run_underlying hd2, Result.andThen_ok]
  refine (congrArg (fun bb => (Sem.run P (pure bb) w).andThen _) (?_ : _ = false)).trans ?_
  · cases d2 <;> first | rfl | simp [isInt] at hni
  · simp only [Result.andThen_ok, Sem.run_pure, Bool.false_eq_true, if_false, hlen, Sem.run_bind, hle, if_true, Bool.not_false, hnew]
    cases base with
    | none =>
      have e : Result.ok () w = Result.ok () w' := hst
      cases e
      rfl
    | some a =>
      simp only [Sem.run_bind, Sem.run_pure]
      simp only at hst
      rw [hst]
      rfl

theorem HR.drewOk {k : Nat} (h : HR P ρ H w) : HR P ρ H { w with drawn := k } := ⟨h.blk, h.inj, h.dom, h.lim, h.top⟩

theorem isU_false {c : Nat} (h : c ≠ U) : isU c = false := by
  unfold isU
  cases hb : Nat.beq c U with
  | false => rfl
  | true => exact (h (Nat.eq_of_beq_eq_true hb)).elim

theorem Step.drew {k : Nat} {ρ' : Map} {H' : Heap} {w' : World} (h : Step S ρ H { w with drawn := k } ρ' H' w') : Step S ρ H w ρ' H' w' :=
  ⟨h.ext, h.os, h.tape, h.output, h.size, h.keep, h.wr, h.next, h.mp, h.abs1, h.abs2⟩

include hE in
omit hE in
theorem size_eq {e : TypeId} {i : TypeInfo} (hi : env.info e = some i) : env.size e = some i.size := by simp [Env.size, hi]

include hE hH hid hlt hS in
/-- The slice's cells in a new place. -/
theorem moved_ok {t1 t2 elem ty : TypeId} {d2 : TypeDesc} {i : TypeInfo} {z : Value} {zs : List Value} (hd : P.underlying t1 = some (.slice elem)) (hd2 : P.underlying t2 = some d2) (hni : isInt d2 = false)
    (hi : env.info elem = some i) (hz : i.zero = some z) (hzs : cellsV z = some zs) {base : Option Addr} {sLen sCap n : Nat} {x' : Value} {old old' new new' : List Value}
    (hlen : (Builtin.lenOf x').run P w = .ok n w)
    (hold : (Builtin.firstCells i.size sLen (.slice base sLen sCap)).run P { w with drawn := w.drawn + 1 } = .ok ⟨old'⟩ { w with drawn := w.drawn + 1 })
    (hnew : (Builtin.firstCells i.size n x').run P { w with drawn := w.drawn + 1 } = .ok ⟨new'⟩ { w with drawn := w.drawn + 1 })
    (hVo : VL ρ old old') (ho1 : ∀ y ∈ old', y.oneCell' = true) (hVn : VL ρ new new') (hn1 : ∀ y ∈ new', y.oneCell' = true)
    (hol : old'.length = sLen * i.size) (hnl : new'.length = n * i.size) (hgt : sCap < sLen + n) (hbound : (sLen + n) * (i.bytes + 1) ≤ 1099511627776)
    (h : newSlice H id (sLen + n) U elem (old ++ new) = some (v, H')) :
    ∃ v' w', (Builtin.append_ #[t1, t2] ty #[.slice base sLen sCap, x']).run P w = .ok v' w' ∧ Post P S ρ H w v H' v' w' := by
  obtain ⟨rfl, rfl⟩ := newSlice_eq h
  have hzero : env.zero elem = some z := by simp [Env.zero, hi, hz]
  obtain ⟨hzc, _, _, hzsz⟩ := zero_cells (ρ := ρ) hE hzero hzs
  have hzl : zs.length = i.size := by
    rw [size_eq hi] at hzsz
    exact (Option.some.inj hzsz).symm
  obtain ⟨cap, C, W, hrun, hcap, hCs, hCt, hW⟩ := run_append_moves (ty := ty) hd hd2 hni (hE.info _ _ hi) hz hzc hzl hlen hold hnew hol hnl hgt hbound
  refine ⟨_, W, hrun, ?_⟩
  subst hW
  have hw := (hH.drewOk (k := w.drawn + 1)).row (S := S) hid hlt hS (cs := old ++ new) (cs' := old' ++ new') (C := C) (elem := elem) (fr := (0, 0)) (hE.info _ _ hi) (hVo.append hVn)
    (fun y hy => (List.mem_append.1 hy).elim (ho1 y) (hn1 y)) (by simp) hCt (w' := ({ w with drawn := w.drawn + 1 } : World).alloc (.cells C elem)) rfl rfl rfl (by simp) (heap_alloc_new _ _) (fun k hk => Below.heap_alloc _ _ _ hk)
  refine ⟨_, ?_, hw.1, hw.2.drew⟩
  have := V.sliceU (ρ := ins ρ id ⟨w.heap.size, 0, (old' ++ new').length, C.size, i.size⟩) (b := id) (o := 0) (n := sLen + n) (c := cap) (ins_same _ _ _) hcap (by simp [hCs])
  simpa using this
end
end Go.Ev
