/- Maps; ranging over a string. -/
import Derived.Test.YtgfkoolajkccnaaGreatDoorEvOps9
/-! Maps; ranging over a string. -/
namespace Go.Ev
open Go.RowKit

theorem keySame_ok {ρ : Map} {kind : TypeDesc} {k k' e e' : Value} {b : Bool} (h : keySameF kind k e = some b) (hk : V ρ k k') (he : V ρ e e') :
    Instr.sameNow kind k' e' = some b ∧ (b = true → k' = e') ∧ Instr.sameBits 10000 k' k' = true := by
  unfold keySameF at h
  split at h
  · rename_i kk x kk' y
    rw [chk_eq, eqI_eq] at h
    obtain ⟨h1, h2⟩ := h
    have := kn_eq h1; subst this
    cases h2
    rw [hk.int_inv, he.int_inv]
    refine ⟨by simp [Instr.sameNow], fun hb => by rw [beq_iff_eq] at hb; rw [hb], ?_⟩
    show Instr.sameBits (9999 + 1) _ _ = true
    simp [Instr.sameBits]
  · cases h
    rw [hk.string_inv, he.string_inv]
    rename_i x y
    have hxy : (x == y) = same x.data.toList y.data.toList := by rw [same_eq, beq_toListBytes, toList_data, toList_data]
    refine ⟨by simp [Instr.sameNow, hxy], fun hb => ?_, ?_⟩
    · rw [same_eq, beq_iff_eq] at hb
      have : x = y := by
        obtain ⟨⟨x⟩⟩ := x
        obtain ⟨⟨y⟩⟩ := y
        simp at hb; subst hb; rfl
      rw [this]
    · show Instr.sameBits (9999 + 1) _ _ = true
      simp [Instr.sameBits, beq_toListBytes]
  · rename_i x y
    cases h
    rw [hk.bool_inv, he.bool_inv]
    refine ⟨?_, fun hb => ?_, ?_⟩
    · cases x <;> cases y <;> rfl
    · revert hb; cases x <;> cases y <;> simp
    · show Instr.sameBits (9999 + 1) _ _ = true
      simp [Instr.sameBits]
  · cases h

theorem findKey_ok {ρ : Map} {kind : TypeDesc} {k k' : Value} (hk : V ρ k k') {es es' : List MapEntry} {i : Nat} {r : Option (Nat × MapEntry)} (h : findKey kind k es i = some r) (hE : EL ρ es es') :
    (r = none → Instr.findNow kind k' es' i = some none) ∧
    (∀ j e, r = some (j, e) → ∃ e', Instr.findNow kind k' es' i = some (some (j, e'.val)) ∧ V ρ e.val e'.val ∧ e'.born = e.born ∧ k' = e'.key ∧ i ≤ j ∧ es[j - i]? = some e ∧ es'[j - i]? = some e' ∧ Instr.sameBits 10000 k' k' = true) := by
  induction hE generalizing i r with
  | nil =>
    have e : some none = some r := h
    cases e
    exact ⟨fun _ => rfl, fun _ _ h => by cases h⟩
  | cons hkk hv ht ih =>
    rename_i kk kk' v v' n es es'
    have h' : bnd (keySameF kind k kk) (fun b => ifB b (some (some (i, ⟨kk, v, n⟩))) (findKey kind k es (Nat.succ i))) = some r := h
    rw [bnd_eq] at h'
    obtain ⟨b, hb, h'⟩ := h'
    obtain ⟨h1, h2, h3⟩ := keySame_ok hb hk hkk
    cases b with
    | true =>
      rw [ifB_true] at h'
      cases h'
      refine ⟨fun h => (by cases h), fun j e he => ?_⟩
      cases he
      exact ⟨⟨kk', v', n⟩, by simp [Instr.findNow, h1], hv, rfl, h2 rfl, Nat.le_refl _, by simp, by simp, h3⟩
    | false =>
      rw [ifB_false] at h'
      obtain ⟨g1, g2⟩ := ih h'
      refine ⟨fun hr => by simpa [Instr.findNow, h1] using g1 hr, fun j e he => ?_⟩
      obtain ⟨e', a1, a2, a3, a4, a5, a6, a7, a8⟩ := g2 j e he
      have hj : j - i = (j - (i + 1)) + 1 := by omega
      exact ⟨e', by simpa [Instr.findNow, h1] using a1, a2, a3, a4, by omega, by rw [hj]; simpa using a6, by rw [hj]; simpa using a7, a8⟩

theorem EL.length {ρ : Map} {l l' : List MapEntry} (h : EL ρ l l') : l.length = l'.length := by
  induction h with
  | nil => rfl
  | cons _ _ _ ih => simp [ih]
theorem EL.append {ρ : Map} {l l' m m' : List MapEntry} (h : EL ρ l l') (k : EL ρ m m') : EL ρ (l ++ m) (l' ++ m') := by
  induction h with
  | nil => exact k
  | cons hk hv _ ih => exact .cons hk hv ih
theorem EL.set {ρ : Map} {v v' k' : Value} (hv : V ρ v v') {l l' : List MapEntry} (h : EL ρ l l') : ∀ {i : Nat} {e' : MapEntry}, l'[i]? = some e' → k' = e'.key → EL ρ (setVal v l i) (l'.modify i fun e => { e with key := k', val := v' }) := by
  induction h with
  | nil => intro i e' h; simp at h
  | cons hk hv' ht ih =>
    intro i e' he hke
    cases i with
    | zero => simp at he; subst he hke; exact .cons hk hv ht
    | succ i => exact .cons hk hv' (ih (by simpa using he) hke)
theorem EL.erase {ρ : Map} {l l' : List MapEntry} (h : EL ρ l l') : ∀ (i : Nat), EL ρ (eraseL l i) (l'.eraseIdx i) := by
  induction h with
  | nil => intro i; exact .nil
  | cons hk hv' ht ih =>
    intro i
    cases i with
    | zero => exact ht
    | succ i => exact .cons hk hv' (ih i)
theorem EL.born {ρ : Map} {v v' : Value} (hv : V ρ v v') {b : Int} {l l' : List MapEntry} (h : EL ρ l l') : ∀ {r : List MapEntry}, setBorn v b l = some r → ∃ i, l'.findIdx? (fun e => (e.born : Int) == b) = some i ∧ EL ρ r (l'.modify i fun e => { e with val := v' }) := by
  induction h with
  | nil => intro r h; cases h
  | cons hk hv' ht ih =>
    rename_i k k' u u' n l l'
    intro r h
    have h' : ifB (eqI (.ofNat n) b) (some (⟨k, v, n⟩ :: l)) (bnd (setBorn v b l) fun q => some (⟨k, u, n⟩ :: q)) = some r := h
    rw [eqI_eq, ifB_eq] at h'
    split at h'
    · rename_i hb
      cases h'
      exact ⟨0, by have hb' : ((n : Int) == b) = true := hb
                   simp [List.findIdx?_cons, hb'], .cons hk hv ht⟩
    · rename_i hb
      rw [bnd_eq] at h'
      obtain ⟨q, hq, e⟩ := h'
      cases e
      obtain ⟨i, hi, hE⟩ := ih hq
      refine ⟨i + 1, ?_, .cons hk hv' hE⟩
      have hb' : ¬ ((n : Int) == b) = true := hb
      simp [List.findIdx?_cons, hb', hi]

theorem isKey_check' {P : Program} {w : World} {t : TypeId} {d : TypeDesc} (hd : P.underlying t = some d) (hk : isKey d = true) (b : Bool) (v : Value) (n : Nat) : (Instr.checkKey b (n + 1) t v).run P w = .ok () w := by
  simp only [Instr.checkKey, Sem.run_bind, run_underlying hd, Result.andThen_ok]
  cases d with
  | int k => rfl
  | string => rfl
  | bool => rfl
  | _ => simp [isKey] at hk
theorem isKey_check {P : Program} {w : World} {t : TypeId} {d : TypeDesc} (hd : P.underlying t = some d) (hk : isKey d = true) (b : Bool) (v : Value) : (Instr.checkKey b 10000 t v).run P w = .ok () w :=
  isKey_check' hd hk b v 9999

theorem run_getMap {P : Program} {w : World} {r : Nat} {es : Array MapEntry} {clock : Nat} (hb : w.heap[r]? = some (.map es clock)) : (getObj r).run P w = .ok (.map es clock) w := by
  simp [getObj, Sem.run, hb]

theorem run_setMap {P : Program} {w : World} {r : Nat} {es : Array MapEntry} {clock : Nat} (o : Obj) (hb : w.heap[r]? = some (.map es clock)) : (setObj r o).run P w = .ok () { w with heap := w.heap.setIfInBounds r o } := by
  simp [setObj, Sem.run, hb]

theorem set_same {α : Type} (A : Array α) (i : Nat) (x : α) (h : A[i]? = some x) : A.setIfInBounds i x = A := by
  apply Array.ext_getElem?
  intro j
  rw [Array.getElem?_setIfInBounds]
  split
  · rename_i e; subst e
    split
    · exact h.symm
    · rename_i hlt
      rw [Array.getElem?_eq_none (by omega)]
  · rfl

section
variable {P : Program} {S : Nat → Prop} {ρ : Map} {H : Heap} {w : World} {o : Oper} {a : Act}
variable {env : Env} (hE : EnvOk P env)
variable {call : Call} {id : Nat} {tm : Tm} {v : Value} {H' : Heap}
variable (hH : HR P ρ H w) (hid : ρ id = none) (hlt : id < H.next) (hS : S id) (hT : TR ρ tm a.tmps)

theorem key_inv {t : TypeId} {d : TypeDesc} (h : env.key t = some d) : env.und t = some d ∧ isKey d = true := by
  unfold Env.key at h
  simp only [bnd_eq, chk_eq] at h
  obtain ⟨d', hd, hk, e⟩ := h
  cases e
  exact ⟨hd, hk⟩

theorem mapRef_inv {m : Value} {r : Option Nat} (h : mapRef m = some r) : m = .map r := by
  cases m with
  | map x => simp [mapRef] at h; rw [h]
  | _ => simp [mapRef] at h

include hH in
theorem mapAt_ok {r : Nat} {e : Emb} {es : List MapEntry × Nat} (h : mapAt H r = some es) (he : ρ r = some e) : H.get r = some (.map es.1 es.2) ∧ ∃ es' : Array MapEntry, w.heap[e.B]? = some (.map es' es.2) ∧ EL ρ es.1 es'.toList := by
  unfold mapAt at h
  rw [bnd_eq] at h
  obtain ⟨x, hx, h⟩ := h
  cases x with
  | map l c =>
    simp [mapOf] at h
    subst h
    have hb := hH.blk _ _ _ hx he
    generalize hg : w.heap[e.B]? = g at hb
    cases hb with
    | map hEL => exact ⟨hx, _, rfl, hEL⟩
  | _ => simp [mapOf] at h

theorem run_find {t : TypeId} {d : TypeDesc} (hd : P.underlying t = some d) {k : Value} {es : List MapEntry} {r : Option (Nat × Value)} (h : Instr.findNow d k es 0 = some r) : (Instr.findKey t k es).run P w = .ok r w := by
  simp [Instr.findKey, run_underlying hd, h]

include hH in
/-- A map that turns. -/
theorem map_turn {r : Nat} {e : Emb} {es : List MapEntry × Nat} {es' : Array MapEntry} (hx : H.get r = some (.map es.1 es.2)) (he : ρ r = some e) (hw : w.heap[e.B]? = some (.map es' es.2)) {l : List MapEntry} {l' : Array MapEntry} {c : Nat} (hEL : EL ρ l l'.toList) :
    (setObj e.B (.map l' c)).run P w = .ok () { w with heap := w.heap.setIfInBounds e.B (.map l' c) } ∧ HR P ρ (H.set r (.map l c)) { w with heap := w.heap.setIfInBounds e.B (.map l' c) } ∧
      Step S ρ H w ρ (H.set r (.map l c)) { w with heap := w.heap.setIfInBounds e.B (.map l' c) } := by
  refine ⟨run_setMap _ hw, ?_⟩
  have hB : e.B < w.heap.size := by
    rcases Nat.lt_or_ge e.B w.heap.size with h | h
    · exact h
    · rw [Array.getElem?_eq_none h] at hw; cases hw
  exact hH.turn hx he rfl rfl (w' := { w with heap := w.heap.setIfInBounds e.B (.map l' c) }) rfl rfl rfl (by simp) (by
    show BR P ρ e _ (w.heap.setIfInBounds e.B (.map l' c))[e.B]?
    rw [Array.getElem?_setIfInBounds]
    simp only [if_true, hB]
    exact .map hEL) (fun k hk => by
    show (w.heap.setIfInBounds e.B (.map l' c))[k]? = _
    rw [Array.getElem?_setIfInBounds, if_neg (fun h => hk h.symm)]) S

omit hE in
theorem lookup_run {t kt et : TypeId} {kind : TypeDesc} (hd : P.underlying t = some (.map kt et)) (hkd : P.underlying kt = some kind) (hkk : isKey kind = true) {mv k : Value} {ok : Bool} {es' : Array MapEntry}
    (hget : (mv = .map none ∧ es' = #[]) ∨ ∃ r c, mv = .map (some r) ∧ w.heap[r]? = some (.map es' c)) {r : Option (Nat × Value)} (hf : Instr.findNow kind k es'.toList 0 = some r) :
    (Instr.lookup t mv k ok).run P w = match r with | some (_, v) => .ok (if ok then .tuple #[v, .bool true] else v) w | none => ((zeroValue et).run P w).andThen fun z w => .ok (if ok then .tuple #[z, .bool false] else z) w := by
  rcases hget with ⟨rfl, rfl⟩ | ⟨r0, c, rfl, hw⟩
  · simp only [Instr.lookup, Sem.run_bind, run_underlying hd, Result.andThen_ok, Sem.run_pure, isKey_check hkd hkk, run_find hkd hf]
    cases r <;> simp
  · simp only [Instr.lookup, Sem.run_bind, run_underlying hd, Result.andThen_ok, Sem.run_pure, run_getMap hw, isKey_check hkd hkk, run_find hkd hf]
    cases r <;> simp

include hE hH hT in
theorem ok_lookup {t : TypeId} {m k : Operand} {ok : Bool} (ho : o.op = .lookup t m k ok) (h : oLookup t m k ok env call id tm H = some (v, H')) : Does P o a w (Post P S ρ H w v H') := by
  unfold oLookup retO lookup mapView at h
  simp only [bnd_eq] at h
  obtain ⟨mv, hm, kv, hk, q, ⟨p, hp, kind, hkind, es, ⟨r, hr, hes⟩, f, hf, hq⟩, e0⟩ := h
  cases e0
  have hd := map_inv hp
  obtain ⟨hku, hkk⟩ := key_inv hkind
  have hkd := hE.und _ _ hku
  have hVm := eval_ok hT hm
  have hVk := eval_ok hT hk
  have := mapRef_inv hr; subst this
  have fin : ∀ (es' : Array MapEntry), ((a.eval m = .map none ∧ es' = #[]) ∨ ∃ r c, a.eval m = .map (some r) ∧ w.heap[r]? = some (.map es' c)) → EL ρ es.1 es'.toList → Does P o a w (Post P S ρ H w v H) := by
    intro es' hget hEL
    obtain ⟨g1, g2⟩ := findKey_ok hVk hf hEL
    cases f with
    | none =>
      have hq' : bnd (env.zero p.2) (fun z => some (withOk ok z false)) = some v := hq
      rw [bnd_eq] at hq'
      obtain ⟨z, hz, e⟩ := hq'
      cases e
      have hzV : V ρ z z := by
        unfold Env.zero at hz
        rw [bnd_eq] at hz
        obtain ⟨i, hi, hz⟩ := hz
        exact (hE.zero _ i z hi hz).1 ρ
      refine does_pure hH (v' := withOk ok z false) ?_ ?_
      · simp only [execOp, ho]
        refine run_v ?_
        rw [lookup_run (hE.und _ _ hd) hkd hkk hget (g1 rfl)]
        simp only [run_zero hE hz, Result.andThen_ok, withOk, ifB_eq]
      · unfold withOk
        cases ok
        · exact hzV
        · exact .tuple (.cons hzV (.cons (.bool _) .nil))
    | some f =>
      obtain ⟨j, e⟩ := f
      have hq' : some (withOk ok e.val true) = some v := hq
      cases hq'
      obtain ⟨e', a1, a2, _, _, _, _, _, _⟩ := g2 j e rfl
      refine does_pure hH (v' := withOk ok e'.val true) ?_ ?_
      · simp only [execOp, ho]
        refine run_v ?_
        rw [lookup_run (hE.und _ _ hd) hkd hkk hget a1]
        simp only [withOk, ifB_eq]
      · unfold withOk
        cases ok
        · exact a2
        · exact .tuple (.cons a2 (.cons (.bool _) .nil))
  cases r with
  | none =>
    have e : some ([], 0) = some es := hes
    cases e
    refine fin #[] (.inl ⟨?_, rfl⟩) .nil
    generalize hg : a.eval m = g at hVm
    cases hVm
    rfl
  | some r =>
    have hes' : mapAt H r = some es := hes
    generalize hg : a.eval m = g at hVm
    cases hVm with
    | map he =>
      obtain ⟨_, es', hw, hEL⟩ := mapAt_ok hH hes' he
      exact fin es' (.inr ⟨_, _, hg, hw⟩) hEL

include hE hH hT in
theorem ok_update {t : TypeId} {m k x : Operand} (ho : o.op = .mapUpdate t m k x ∨ o.op = .insert t m k x) (h : oUpdate t m k x env call id tm H = some (v, H')) : Does P o a w (Post P S ρ H w v H') := by
  unfold oUpdate mapUpdate at h
  simp only [bnd_eq] at h
  obtain ⟨mv, hm, kv, hk, xv, hx, H1, ⟨p, hp, kind, hkind, r0, hr0, r, hr, es, hes, f, hf, hq⟩, e0⟩ := h
  cases e0
  have hd := map_inv hp
  obtain ⟨hku, hkk⟩ := key_inv hkind
  have hkd := hE.und _ _ hku
  have hVm := eval_ok hT hm
  have hVk := eval_ok hT hk
  have hVx := eval_ok hT hx
  have := mapRef_inv hr0; subst this
  subst hr
  generalize hg : a.eval m = g at hVm
  cases hVm with
  | map he =>
    rename_i e
    obtain ⟨hblk, es', hw, hEL⟩ := mapAt_ok hH hes he
    obtain ⟨g1, g2⟩ := findKey_ok hVk hf hEL
    have hsk : ∀ {w' : World}, (Instr.mapUpdate t (.map (some e.B)) (a.eval k) (a.eval x)).run P w = .ok () w' → (execOp a.eval o).run P w = .ok .skip w' := by
      intro w' hrun
      rcases ho with ho | ho <;> (simp only [execOp, ho, hg]; exact run_u hrun)
    cases f with
    | none =>
      have hq' : some (H.set r (.map (appL es.1 [⟨kv, xv, es.2⟩]) (Nat.succ es.2))) = some H' := hq
      cases hq'
      have hEL' : EL ρ (appL es.1 [⟨kv, xv, es.2⟩]) (es'.push ⟨a.eval k, a.eval x, es.2⟩).toList := by
        rw [appL_eq, Array.toList_push]
        exact hEL.append (.cons hVk hVx .nil)
      obtain ⟨h1, h2, h3⟩ := map_turn (S := S) hH hblk he hw (c := Nat.succ es.2) hEL'
      refine does_skip (hsk ?_) ⟨ρ, undef_V, h2, h3⟩
      simp only [Instr.mapUpdate, Sem.run_bind, run_und hE hd, Result.andThen_ok, run_getMap hw, isKey_check hkd hkk, run_find hkd (g1 rfl)]
      exact h1
    | some f =>
      obtain ⟨j, en⟩ := f
      have hq' : some (H.set r (.map (setVal xv es.1 j) es.2)) = some H' := hq
      cases hq'
      obtain ⟨e', a1, a2, a3, a4, a5, a6, a7, a8⟩ := g2 j en rfl
      rw [Nat.sub_zero] at a7
      have hEL' : EL ρ (setVal xv es.1 j) (es'.modify j fun e => { e with key := a.eval k, val := a.eval x }).toList := by
        rw [Array.toList_modify]
        exact hEL.set hVx a7 a4
      obtain ⟨h1, h2, h3⟩ := map_turn (S := S) hH hblk he hw (c := es.2) hEL'
      refine does_skip (hsk ?_) ⟨ρ, undef_V, h2, h3⟩
      have a7' : es'[j]? = some e' := by simpa using a7
      have hst : (Instr.keyThatStays (((es'[j]?).map (·.key)).getD (a.eval k)) (a.eval k)).run P w = .ok (a.eval k) w := by
        rw [a7']
        simp only [Option.map_some, Option.getD_some, ← a4]
        unfold Instr.keyThatStays
        rw [if_pos a8]
        rfl
      simp only [Instr.mapUpdate, Sem.run_bind, run_und hE hd, Result.andThen_ok, run_getMap hw, isKey_check hkd hkk, run_find hkd a1, hst]
      exact h1

include hE hH hT in
theorem ok_entry {t : TypeId} {m k : Operand} (ho : o.op = .mapEntry t m k) (h : oEntry t m k env call id tm H = some (v, H')) : Does P o a w (Post P S ρ H w v H') := by
  unfold oEntry mapEntry at h
  simp only [bnd_eq] at h
  obtain ⟨mv, hm, kv, hk, p, hp, kind, hkind, r0, hr0, r, hr, es, hes, f, hf, hq⟩ := h
  have hd := map_inv hp
  obtain ⟨hku, hkk⟩ := key_inv hkind
  have hkd := hE.und _ _ hku
  have hVm := eval_ok hT hm
  have hVk := eval_ok hT hk
  have := mapRef_inv hr0; subst this
  subst hr
  generalize hg : a.eval m = g at hVm
  cases hVm with
  | map he =>
    rename_i e
    obtain ⟨hblk, es', hw, hEL⟩ := mapAt_ok hH hes he
    obtain ⟨g1, g2⟩ := findKey_ok hVk hf hEL
    cases f with
    | none =>
      have hq' : bnd (env.zero p.2) (fun z => some (Value.tuple #[z, goInt es.2], H.set r (.map (appL es.1 [⟨kv, z, es.2⟩]) (Nat.succ es.2)))) = some (v, H') := hq
      rw [bnd_eq] at hq'
      obtain ⟨z, hz, e'⟩ := hq'
      cases e'
      have hzV : V ρ z z := by
        unfold Env.zero at hz
        rw [bnd_eq] at hz
        obtain ⟨i, hi, hz⟩ := hz
        exact (hE.zero _ i z hi hz).1 ρ
      have hEL' : EL ρ (appL es.1 [⟨kv, z, es.2⟩]) (es'.push ⟨a.eval k, z, es.2⟩).toList := by
        rw [appL_eq, Array.toList_push]
        exact hEL.append (.cons hVk hzV .nil)
      obtain ⟨h1, h2, h3⟩ := map_turn (S := S) hH hblk he hw (c := Nat.succ es.2) hEL'
      refine does_val (v := .tuple #[z, goInt es.2]) ?_ ⟨ρ, .tuple (.cons hzV (.cons (.int _ _) .nil)), h2, h3⟩
      simp only [execOp, ho, hg]
      refine run_v ?_
      simp only [Instr.mapEntry, Sem.run_bind, run_und hE hd, Result.andThen_ok, run_getMap hw, isKey_check hkd hkk, run_find hkd (g1 rfl), run_zero hE hz]
      simp only [Nat.succ_eq_add_one] at h1
      rw [h1]
      rfl
    | some f =>
      obtain ⟨j, en⟩ := f
      have hq' : some (Value.tuple #[en.val, goInt en.born], H) = some (v, H') := hq
      cases hq'
      obtain ⟨e', a1, a2, a3, a4, a5, a6, a7, a8⟩ := g2 j en rfl
      rw [Nat.sub_zero] at a7
      have a7' : es'[j]? = some e' := by simpa using a7
      have hst : (Instr.keyThatStays e'.key (a.eval k)).run P w = .ok (a.eval k) w := by
        rw [← a4]
        unfold Instr.keyThatStays
        rw [if_pos a8]
        rfl
      have hmod : (es'.modify j fun e => { e with key := a.eval k }) = es' := by
        apply Array.ext_getElem?
        intro i
        rw [Array.getElem?_modify]
        split
        · rename_i hi; subst hi
          rw [a7', a4]; rfl
        · rfl
      have hset : w.heap.setIfInBounds e.B (.map es' es.2) = w.heap := set_same _ _ _ hw
      refine does_pure hH (v' := .tuple #[e'.val, goInt e'.born]) ?_ (.tuple (.cons a2 (.cons (by rw [a3]; exact .int _ _) .nil)))
      simp only [execOp, ho, hg]
      refine run_v ?_
      simp only [Instr.mapEntry, Sem.run_bind, run_und hE hd, Result.andThen_ok, run_getMap hw, isKey_check hkd hkk, run_find hkd a1, a7', Option.map_some, Option.getD_some, hst, hmod, run_setMap _ hw, hset]
      rfl

include hH hT in
theorem ok_entryStore {t : TypeId} {m s x : Operand} (ho : o.op = .entryStore t m s x) (h : oEntryStore t m s x env call id tm H = some (v, H')) : Does P o a w (Post P S ρ H w v H') := by
  unfold oEntryStore entryStore at h
  simp only [bnd_eq] at h
  obtain ⟨mv, hm, sv, hs, xv, hx, H1, ⟨r0, hr0, r, hr, b, hb, es, hes, l, hl, hq⟩, e0⟩ := h
  cases e0; cases hq
  have hVm := eval_ok hT hm
  have hVx := eval_ok hT hx
  obtain ⟨kk, rfl⟩ := intOf_eq hb
  have hVs := (eval_ok hT hs).int_inv
  have := mapRef_inv hr0; subst this
  subst hr
  generalize hg : a.eval m = g at hVm
  cases hVm with
  | map he =>
    rename_i e
    obtain ⟨hblk, es', hw, hEL⟩ := mapAt_ok hH hes he
    obtain ⟨i, hi, hEL2⟩ := hEL.born hVx hl
    have hEL' : EL ρ l (es'.modify i fun e => { e with val := a.eval x }).toList := by rw [Array.toList_modify]; exact hEL2
    obtain ⟨h1, h2, h3⟩ := map_turn (S := S) hH hblk he hw (c := es.2) hEL'
    refine does_skip ?_ ⟨ρ, undef_V, h2, h3⟩
    simp only [execOp, ho, hg, hVs]
    refine run_u ?_
    have hi' : es'.findIdx? (fun e => (e.born : Int) == b) = some i := by cases es'; simpa using hi
    simp only [Instr.entryStore, Sem.run_bind, Result.andThen_ok, run_getMap hw, asInt, asIntOf, Sem.run_pure, hi']
    exact h1
end
end Go.Ev
