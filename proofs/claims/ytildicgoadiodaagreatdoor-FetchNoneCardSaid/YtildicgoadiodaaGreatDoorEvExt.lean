/- Contracts of functions without a body that look at strings alone. -/
import Derived.Test.YtildicgoadiodaaGreatDoorEvEnv
import Derived.Lib.Bytealg
/-! Contracts of functions without a body that look at strings alone. -/
namespace Go.Ev
open Go.RowKit
variable [Sg]

/-- What is asked of the program at a function without a body. -/
structure Ext (P : Program) (f : FuncId) (e : Array Value → Sem Value) : Prop where
  fn : ∃ F, P.funcs[f]? = some F ∧ (F.name == "runtime.NumGoroutine") = false ∧ F.body = none ∧ Extern.findNext F = none ∧ Extern.find F = some e

omit [Sg] in
theorem Ext.run {P : Program} {f : FuncId} {e : Array Value → Sem Value} (h : Ext P f e) {args : Array Value} {w w' : World} {v : Value} (hr : (e args).run P w = .ok v w') : (callFunc f args).run P w = .ok (.value v) w' := by
  obtain ⟨F, h1, h2, h3, h4, h5⟩ := h.fn
  unfold callFunc
  simp only [Sem.run_bind, run_program, Result.andThen_ok, h1, h2, h3, h4, h5, Option.isNone_none, if_true, Bool.false_eq_true, if_false, run_mark, Sem.run_pure, hr]

/-- The answer is a plain value, and nothing turns. -/
theorem SpecOk.plain {P : Program} {f : FuncId} {s : List Value → Heap → Res} {e : Array Value → Sem Value} (hx : Ext P f e)
    (h : ∀ args H v H', s args H = some (v, H') → H' = H ∧ Ev.plain v = true ∧ ∀ ρ args', VL ρ args args' → ∀ w, (e ⟨args'⟩).run P w = .ok v w) : SpecOk P f s := by
  intro args H v H' hs ρ w args' hA hH
  obtain ⟨rfl, hp, hr⟩ := h args H v H' hs
  exact .inl ⟨v, w, hx.run (hr ρ args' hA w), ρ, .plain hp, hH, .refl _ _ _ _⟩

noncomputable def idxL (c : UInt8) (l : List UInt8) : Nat → Option Nat :=
  List.rec (motive := fun _ => Nat → Option Nat) (fun _ => none) (fun b _ ih i => ifB (Nat.beq b.toNat c.toNat) (some i) (ih (Nat.succ i))) l
noncomputable def idxInt (x : Option Nat) : Option Value := Option.rec (motive := fun _ => Option Value) (some (goInt (-1))) (fun i => mkInt .i64 (.ofNat i)) x
noncomputable def strU8 (args : List Value) : Option (List UInt8 × UInt8) := bnd (two args) fun p => bnd (strOf p.1) fun s => bnd (byteOf p.2) fun c => some (s, c)
noncomputable def sIndexByte (args : List Value) (H : Heap) : Res := bnd (strU8 args) fun p => retO (idxInt (idxL p.2 p.1 0)) H

noncomputable def cntL (c : UInt8) (l : List UInt8) : Nat → Nat := List.rec (motive := fun _ => Nat → Nat) (fun n => n) (fun b _ ih n => ih (ifB (Nat.beq b.toNat c.toNat) (Nat.succ n) n)) l
noncomputable def sCount (args : List Value) (H : Heap) : Res := bnd (strU8 args) fun p => retO (mkInt .i64 (.ofNat (cntL p.2 p.1 0))) H

omit [Sg] in
theorem strU8_inv {args : List Value} {p : List UInt8 × UInt8} (h : strU8 args = some p) : ∃ (s : ByteArray) (n : Int), args = [.string s, .int .u8 n] ∧ p = (s.data.toList, UInt8.ofNat n.toNat) := by
  unfold strU8 at h
  simp only [bnd_eq] at h
  obtain ⟨⟨x, y⟩, h1, s, hs, c, hc, e⟩ := h
  have : args = [x, y] := by
    match args, h1 with
    | [a, b], h1 => cases h1; rfl
  subst this
  cases e
  dsimp only at hs hc
  cases x <;> first | (cases hs; done) | skip
  cases hs
  rw [byteOf_eq] at hc
  unfold byteOf0 at hc
  split at hc
  · cases hc; exact ⟨_, _, rfl, rfl⟩
  · cases hc

theorem VL2_inv {ρ : Map} {s : ByteArray} {n : Int} {args' : List Value} (h : VL ρ [.string s, .int .u8 n] args') : args' = [.string s, .int .u8 n] := by
  cases h with
  | cons h1 t => cases t with
    | cons h2 t => cases t; rw [h1.string_inv, h2.int_inv]

omit [Sg] in
theorem beq_u8 (b c : UInt8) : Nat.beq b.toNat c.toNat = (b == c) := by
  cases h : (b == c) with
  | true => rw [beq_iff_eq] at h; subst h; exact Nat.beq_refl _
  | false =>
    cases h2 : Nat.beq b.toNat c.toNat with
    | false => rfl
    | true =>
      have := UInt8.toNat.inj (Nat.eq_of_beq_eq_true h2)
      subst this
      simp at h

omit [Sg] in
theorem cntL_eq (c : UInt8) : ∀ (l : List UInt8) (n : Nat), cntL c l n = n + l.count c
  | [], n => by simp [cntL]
  | b :: l, n => by
    show cntL c l (ifB (Nat.beq b.toNat c.toNat) (Nat.succ n) n) = _
    rw [cntL_eq c l, beq_u8, List.count_cons]
    cases h : (b == c) with
    | true => rw [ifB_true, if_pos rfl]; omega
    | false => rw [ifB_false, if_neg (by simp)]; omega

theorem count_ok {P : Program} {f : FuncId} (hx : Ext P f Extern.BytealgCount.count) : SpecOk P f sCount := by
  refine .plain hx fun args H v H' hs => ?_
  unfold sCount at hs
  rw [bnd_eq] at hs
  obtain ⟨p, hp, hs⟩ := hs
  obtain ⟨hv, rfl⟩ := retO_inv hs
  obtain ⟨s, n, rfl, rfl⟩ := strU8_inv hp
  simp only [mkInt_eq, Option.some.injEq] at hv
  subst hv
  refine ⟨rfl, rfl, fun ρ args' hA w => ?_⟩
  rw [VL2_inv hA]
  refine (Lib.run_countString s n w).trans ?_
  rw [cntL_eq, Nat.zero_add]
  rfl

omit [Sg] in
theorem idxL_eq (c : UInt8) : ∀ (l : List UInt8) (i : Nat), (Lib.indexByte l c = -1 ∧ idxL c l i = none) ∨ ∃ j : Nat, Lib.indexByte l c = (j : Int) ∧ idxL c l i = some (i + j)
  | [], i => .inl ⟨rfl, rfl⟩
  | b :: l, i => by
    have e : idxL c (b :: l) i = ifB (Nat.beq b.toNat c.toNat) (some i) (idxL c l (i + 1)) := rfl
    rw [beq_u8] at e
    unfold Lib.indexByte
    cases h : (b == c) with
    | true => rw [h, ifB_true] at e; exact .inr ⟨0, by simp, by rw [e]; rfl⟩
    | false =>
      rw [h, ifB_false] at e
      rcases idxL_eq c l (i + 1) with ⟨h1, h2⟩ | ⟨j, h1, h2⟩
      · exact .inl ⟨by simp [h1], by rw [e, h2]⟩
      · refine .inr ⟨j + 1, ?_, by rw [e, h2]; congr 1; omega⟩
        have : ((j : Int) == -1) = false := by
          cases hb : ((j : Int) == -1) with
          | false => rfl
          | true => rw [beq_iff_eq] at hb; omega
        rw [h1, this]
        simp

theorem indexByte_ok {P : Program} {f : FuncId} (hx : Ext P f Extern.BytealgIndexByte.indexByte) : SpecOk P f sIndexByte := by
  refine .plain hx fun args H v H' hs => ?_
  unfold sIndexByte at hs
  rw [bnd_eq] at hs
  obtain ⟨p, hp, hs⟩ := hs
  obtain ⟨hv, rfl⟩ := retO_inv hs
  obtain ⟨s, n, rfl, rfl⟩ := strU8_inv hp
  dsimp only at hv
  have key : v = .int .i64 (Lib.indexByte s.data.toList n.toNat.toUInt8) := by
    rcases idxL_eq (UInt8.ofNat n.toNat) s.data.toList 0 with ⟨h1, h2⟩ | ⟨j, h1, h2⟩
    · rw [h2] at hv
      have hv' : some (goInt (-1)) = some v := hv
      cases hv'
      show goInt (-1) = .int .i64 (Lib.indexByte s.data.toList (UInt8.ofNat n.toNat))
      rw [h1]; rfl
    · rw [h2] at hv
      have hv' : mkInt .i64 (.ofNat (0 + j)) = some v := hv
      rw [mkInt_eq] at hv'
      cases hv'
      show _ = Value.int .i64 (Lib.indexByte s.data.toList (UInt8.ofNat n.toNat))
      rw [h1, Nat.zero_add]; rfl
  subst key
  refine ⟨rfl, rfl, fun ρ args' hA w => ?_⟩
  rw [VL2_inv hA]
  exact Lib.run_indexByteString s n w

noncomputable def strStr (args : List Value) : Option (List UInt8 × List UInt8) := bnd (two args) fun p => bnd (strOf p.1) fun s => bnd (strOf p.2) fun q => some (s, q)
noncomputable def sCompare (args : List Value) (H : Heap) : Res := bnd (strStr args) fun p => some (ifB (same p.1 p.2) (.int .i64 0) (ifB (less p.1 p.2) (.int .i64 (-1)) (.int .i64 1)), H)

omit [Sg] in
theorem cmp_same : ∀ (x y : List UInt8), Lib.compareBytes x y = ifB (same x y) 0 (ifB (less x y) (-1) 1)
  | [], [] => rfl
  | [], _ :: _ => rfl
  | _ :: _, [] => rfl
  | a :: x, b :: y => by
    have e1 : same (a :: x) (b :: y) = ifB (Nat.beq a.toNat b.toNat) (same x y) false := rfl
    have e2 : less (a :: x) (b :: y) = ifB (Nat.beq a.toNat b.toNat) (less x y) (Nat.ble (Nat.succ a.toNat) b.toNat) := rfl
    have e0 : Lib.compareBytes (a :: x) (b :: y) = if a < b then -1 else if b < a then 1 else Lib.compareBytes x y := rfl
    have hlt : ∀ p q : UInt8, p < q ↔ p.toNat < q.toNat := fun p q => Iff.rfl
    rw [e0, e1, e2]
    cases h : Nat.beq a.toNat b.toNat with
    | true =>
      have := Nat.eq_of_beq_eq_true h
      rw [ifB_true, ifB_true, if_neg (by rw [hlt]; omega), if_neg (by rw [hlt]; omega), cmp_same x y]
    | false =>
      have hne := Nat.ne_of_beq_eq_false h
      rw [ifB_false, ifB_false, ifB_false]
      cases h2 : Nat.ble (Nat.succ a.toNat) b.toNat with
      | true =>
        have := Nat.le_of_ble_eq_true h2
        rw [if_pos (by rw [hlt]; omega), ifB_true]
      | false =>
        have : ¬ Nat.succ a.toNat ≤ b.toNat := fun hh => by rw [Nat.ble_eq_true_of_le hh] at h2; cases h2
        rw [if_neg (by rw [hlt]; omega), if_pos (by rw [hlt]; omega), ifB_false]

theorem compare_ok {P : Program} {f : FuncId} (hx : Ext P f Extern.BytealgCompare.compare) : SpecOk P f sCompare := by
  refine .plain hx fun args H v H' hs => ?_
  unfold sCompare at hs
  rw [bnd_eq] at hs
  obtain ⟨p, hp, hs⟩ := hs
  cases hs
  unfold strStr at hp
  simp only [bnd_eq] at hp
  obtain ⟨⟨x, y⟩, h1, s, hs, q, hq, e⟩ := hp
  cases e
  dsimp only at hs hq
  have : args = [x, y] := by
    match args, h1 with
    | [a, b], h1 => cases h1; rfl
  subst this
  cases x <;> first | (cases hs; done) | skip
  cases hs
  cases y <;> first | (cases hq; done) | skip
  cases hq
  rename_i s q
  have key : (ifB (same s.data.toList q.data.toList) (Value.int .i64 0) (ifB (less s.data.toList q.data.toList) (.int .i64 (-1)) (.int .i64 1))) = .int .i64 (Lib.compareBytes s.data.toList q.data.toList) := by
    rw [cmp_same]
    cases same s.data.toList q.data.toList <;> cases less s.data.toList q.data.toList <;> rfl
  refine ⟨rfl, by rw [key]; rfl, fun ρ args' hA w => ?_⟩
  cases hA with
  | cons h1 t => cases t with
    | cons h2 t =>
      cases t
      rw [h1.string_inv, h2.string_inv, key]
      exact Lib.run_compareString s q w
/-- internal/abi.NoEscape: what came in. -/
noncomputable def sSame (args : List Value) (H : Heap) : Res := bnd (one args) fun v => some (v, H)

theorem same_ok {P : Program} {f : FuncId} (hx : Ext P f Extern.AbiNoEscape.same) : SpecOk P f sSame := by
  intro args H v H' hs ρ w args' hA hH
  unfold sSame at hs
  rw [bnd_eq] at hs
  obtain ⟨x, hx1, e⟩ := hs
  cases e
  have := one_inv hx1; subst this
  match args', hA with
  | [x'], .cons h1 .nil => exact .inl ⟨x', w, hx.run (Lib.run_noEscape w x'), ρ, h1, hH, .refl _ _ _ _⟩
end Go.Ev
