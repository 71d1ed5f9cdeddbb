/- Operators (the operation), conversions, literals, fields and elements. -/
import Derived.Test.YtgfkoolajkccnaaGreatDoorEvOps3
/-! Operators (the operation), conversions, literals, fields and elements. -/
namespace Go.Ev
open Go.RowKit

def pairOf0 : Value → Value → Pair
  | .int k x, .int k' y => .ints k x k' y
  | .string x, .string y => .strs x.data.toList y.data.toList
  | _, _ => .other
theorem pairOf_eq (v w : Value) : pairOf v w = pairOf0 v w := by cases v <;> cases w <;> rfl
def byteOf0 : Value → Option UInt8
  | .int .u8 n => some (UInt8.ofNat n.toNat)
  | _ => none
theorem byteOf_eq (v : Value) : byteOf v = byteOf0 v := by
  cases v with
  | int k n => cases k <;> rfl
  | _ => rfl


theorem vEql_inv {env : Env} {t : TypeId} {x y v : Value} (h : vEql env t x y = some v) : ∃ b, equalIn env 20 t x y = some b ∧ v = .bool b := by
  unfold vEql at h
  rw [bnd_eq] at h
  obtain ⟨b, hb, e⟩ := h
  rw [mkBool_eq] at e
  exact ⟨b, hb, (Option.some.inj e).symm⟩
theorem vNeq_inv {env : Env} {t : TypeId} {x y v : Value} (h : vNeq env t x y = some v) : ∃ b, equalIn env 20 t x y = some b ∧ v = .bool (!b) := by
  unfold vNeq at h
  rw [bnd_eq] at h
  obtain ⟨b, hb, e⟩ := h
  rw [mkBool_eq] at e
  exact ⟨b, hb, (Option.some.inj e).symm⟩

/-- The shapes of two values that are held against each other. -/
inductive EqShape : Value → Value → Prop
  | bools (a b : Bool) : EqShape (.bool a) (.bool b)
  | ptrs (a b : Option Addr) : EqShape (.pointer a) (.pointer b)
  | slices (a b : Option Addr) (n c n' c' : Nat) : EqShape (.slice a n c) (.slice b n' c')
  | maps (a b : Option Nat) : EqShape (.map a) (.map b)
  | nilIface (t : TypeId) (v : Value) : EqShape .nilIface (.iface t v)
  | ifaceNil (t : TypeId) (v : Value) : EqShape (.iface t v) .nilIface
  | nilNil : EqShape .nilFunc .nilFunc
  | nilFunc (f : Fn) (a b : Array Value) : EqShape .nilFunc (.func f a b)
  | funcNil (f : Fn) (a b : Array Value) : EqShape (.func f a b) .nilFunc
  | aggs (a b : Array Value) : EqShape (.agg a) (.agg b)

theorem eqShape_of {env : Env} {n : Nat} {t : TypeId} {x y : Value} {b : Bool} (h : equalIn env (n + 1) t x y = some b) (hp : pairOf x y = .other) :
    EqShape x y ∧ ((∃ a c, x = .agg a ∧ y = .agg c) → env.eqok t = true) := by
  have h' : bnd (env.und t) (fun d => eqOf env (equalIn env n) t d x y) = some b := h
  rw [bnd_eq] at h'
  obtain ⟨d, hd, h'⟩ := h'
  unfold eqOf at h'
  split at h'
  case h_16 => rw [chk_eq] at h'; exact ⟨.aggs _ _, fun _ => h'.1⟩
  case h_17 => cases h'
  case h_2 => simp [pairOf, pairI] at hp
  case h_3 => simp [pairOf, pairS'] at hp
  all_goals (refine ⟨?_, fun ⟨_, _, h1, h2⟩ => by first | cases h1 | cases h2⟩; constructor)

theorem intOp_kind {op : BinOp} {k k' : IntKind} {x y : Int} {v : Value} (h : intOp op k x k' y = some v) : (∃ k n, v = .int k n) ∨ (∃ b, v = .bool b) := by
  have hs : ∀ (f : IntKind → Int → Int → Option Value), intFn op = .same f → f k x y = some v := by
    intro f hf
    unfold intOp at h
    rw [hf] at h
    have h' : chk (Nat.beq (kn k) (kn k')) (f k x y) = some v := h
    rw [chk_eq] at h'
    exact h'.2
  have hsh : ∀ (f : IntKind → Int → Int → Option Value), intFn op = .shift f → f k x y = some v := by
    intro f hf
    unfold intOp at h
    rw [hf] at h
    exact h
  have hw : ∀ n, wInt k n = some v → (∃ k n, v = .int k n) ∨ (∃ b, v = .bool b) := fun n e => by rw [wInt_eq] at e; cases e; exact .inl ⟨_, _, rfl⟩
  have hm : ∀ n, mkInt k n = some v → (∃ k n, v = .int k n) ∨ (∃ b, v = .bool b) := fun n e => by rw [mkInt_eq] at e; cases e; exact .inl ⟨_, _, rfl⟩
  have hb : ∀ n, mkBool n = some v → (∃ k n, v = .int k n) ∨ (∃ b, v = .bool b) := fun n e => by rw [mkBool_eq] at e; cases e; exact .inr ⟨_, rfl⟩
  cases op with
  | add => exact hw _ (hs iAdd rfl)
  | sub => exact hw _ (hs iSub rfl)
  | mul => exact hw _ (hs iMul rfl)
  | quo => have e := hs iQuo rfl; simp only [iQuo, ifB_eq] at e; split at e; · cases e
           · exact hw _ e
  | rem => have e := hs iRem rfl; simp only [iRem, ifB_eq] at e; split at e; · cases e
           · exact hm _ e
  | and => exact hm _ (hs iAnd rfl)
  | or => exact hm _ (hs iOr rfl)
  | xor => exact hm _ (hs iXor rfl)
  | andNot => have e : none = some v := hs iNo rfl; cases e
  | eql => exact hb _ (hs iEql rfl)
  | neq => exact hb _ (hs iNeq rfl)
  | lss => exact hb _ (hs iLss rfl)
  | leq => exact hb _ (hs iLeq rfl)
  | gtr => exact hb _ (hs iGtr rfl)
  | geq => exact hb _ (hs iGeq rfl)
  | shl => cases y with
    | ofNat n => exact hw _ (hsh iShl rfl)
    | negSucc n => have e : none = some v := hsh iShl rfl; cases e
  | shr => cases y with
    | ofNat n => exact hm _ (hsh iShr rfl)
    | negSucc n => have e : none = some v := hsh iShr rfl; cases e

section
variable {P : Program} {S : Nat → Prop} {ρ : Map} {H : Heap} {w : World} {o : Oper} {a : Act}
variable {env : Env} (hE : EnvOk P env)
include hE

theorem eqRun_ok {op : BinOp} (hop : op = .eql ∨ op = .neq) {t : TypeId} {x y x' y' : Value} {b : Bool} (h : equalIn env 20 t x y = some b) (hp : pairOf x y = .other) (hx : V ρ x x') (hy : V ρ y y') (ox oy : Operand) :
    (do eqGuard op t ox oy x' y'; Go.binOp op t x' y' : Sem Value).run P w = .ok (.bool (if op = .eql then b else !b)) w := by
  obtain ⟨hsh, hagg⟩ := eqShape_of h hp
  have hrun := equalIn_ok hE (w := w) 20 t x y x' y' b h hx hy Op.maxDepth (by decide)
  have hb : ∀ z z' : Value, EqShape z z' → ∀ u u', V ρ z u → V ρ z' u' → Go.binOp .eql t u u' = (do pure (.bool (← Op.equal t u u'))) ∧ Go.binOp .neq t u u' = (do pure (.bool (!(← Op.equal t u u')))) := by
    intro z z' hz u u' hu hu'
    cases hz <;> cases hu <;> cases hu' <;> exact ⟨rfl, rfl⟩
  obtain ⟨h1, h2⟩ := hb x y hsh x' y' hx hy
  have hg : (eqGuard op t ox oy x' y').run P w = .ok () w := by
    cases hsh with
    | aggs p q =>
      have := (hE.eqok t (hagg ⟨_, _, rfl, rfl⟩)).1
      cases hx; cases hy
      rcases hop with rfl | rfl <;> simp [eqGuard, this]
    | bools => cases hx; rw [eqGuard_at_bool]; rfl
    | ptrs => cases hx <;> (rw [eqGuard_at_pointer]; rfl)
    | slices => cases hx <;> (rw [eqGuard_at_slice]; rfl)
    | maps => cases hx <;> (rw [eqGuard_at_map]; rfl)
    | nilIface => cases hx; cases hy; rw [eqGuard_nil_iface]; rfl
    | ifaceNil => cases hx; rw [eqGuard_at_iface]; rfl
    | nilNil => cases hx; rw [eqGuard_at_nilFunc]; rfl
    | nilFunc => cases hx; rw [eqGuard_at_nilFunc]; rfl
    | funcNil => cases hx; rw [eqGuard_at_func]; rfl
  rw [Sem.run_bind, hg, Result.andThen_ok]
  rcases hop with rfl | rfl
  · rw [h1]; simp [Op.equal, hrun]
  · rw [h2]; simp [Op.equal, hrun]

variable {call : Call} {id : Nat} {tm : Tm} {v : Value} {H' : Heap}
variable (hH : HR P ρ H w) (hT : TR ρ tm a.tmps)
include hH hT

theorem ok_bin {op : BinOp} {t t' : TypeId} {x y : Operand} (ho : o.op = .binOp op t x y t') (h : oBin op t x y t' env call id tm H = some (v, H')) : Does P o a w (Post P S ρ H w v H') := by
  unfold oBin retO at h
  simp only [bnd_eq] at h
  obtain ⟨u, hu, u2, hu2, q, hq, e⟩ := h
  cases e
  have hV := eval_ok hT hu
  have hV2 := eval_ok hT hu2
  unfold binOp at hq
  have pure_of : ∀ {q' : Value}, (do eqGuard op t x y (a.eval x) (a.eval y); Go.binOp op t (a.eval x) (a.eval y) : Sem Value).run P w = .ok q' w → V ρ v q' → Does P o a w (Post P S ρ H w v H) := by
    intro q' hrun hqV
    refine does_pure hH (v' := q') ?_ hqV
    simp only [execOp, ho]
    exact run_v hrun
  generalize hpo : pairOf u u2 = pr at hq
  have scalar : ∀ q, ((∃ k n, q = Value.int k n) ∨ (∃ b, q = Value.bool b) ∨ (∃ s, q = Value.string s)) → V ρ q q := by
    rintro q (⟨k, n, rfl⟩ | ⟨b, rfl⟩ | ⟨s, rfl⟩)
    · exact .int k n
    · exact .bool b
    · exact .string s
  cases pr with
  | ints k p k' p' =>
    have hq' : intOp op k p k' p' = some v := hq
    have : u = .int k p ∧ u2 = .int k' p' := by
      rw [pairOf_eq] at hpo; unfold pairOf0 at hpo
      split at hpo <;> first | (cases hpo; exact ⟨rfl, rfl⟩) | cases hpo
    obtain ⟨rfl, rfl⟩ := this
    rw [hV.int_inv, hV2.int_inv] at pure_of
    refine pure_of (q' := v) ?_ (scalar v ?_)
    · rw [eqGuard_at_int]
      simpa using intOp_ok hq'
    · rcases intOp_kind hq' with h | h
      · exact .inl h
      · exact .inr (.inl h)
  | strs p p' =>
    have hq' : strFn op p p' = some v := hq
    have : ∃ s s', u = .string s ∧ u2 = .string s' ∧ p = s.data.toList ∧ p' = s'.data.toList := by
      rw [pairOf_eq] at hpo; unfold pairOf0 at hpo
      split at hpo <;> first | (cases hpo; exact ⟨_, _, rfl, rfl, rfl, rfl⟩) | cases hpo
    obtain ⟨s, s', rfl, rfl, rfl, rfl⟩ := this
    rw [hV.string_inv, hV2.string_inv] at pure_of
    refine pure_of (q' := v) ?_ (scalar v ?_)
    · rw [eqGuard_at_string]
      simpa using strOp_ok hq'
    · cases op <;> simp only [strFn] at hq'
      all_goals first
        | (unfold sAdd at hq'; rw [chk_eq] at hq'; obtain ⟨_, e⟩ := hq'; cases e; exact .inr (.inr ⟨_, rfl⟩))
        | (simp only [sEql, sNeq, sLss, sLeq, sGtr, sGeq, mkBool_eq, Option.some.injEq] at hq'; subst hq'; exact .inr (.inl ⟨_, rfl⟩))
        | cases hq'
  | other =>
    have hq' : valFn op env t u u2 = some v := hq
    cases op with
    | eql =>
      obtain ⟨b, hb, rfl⟩ := vEql_inv hq'
      exact pure_of (eqRun_ok hE (.inl rfl) hb hpo hV hV2 x y) (.bool b)
    | neq =>
      obtain ⟨b, hb, rfl⟩ := vNeq_inv hq'
      exact pure_of (eqRun_ok hE (.inr rfl) hb hpo hV hV2 x y) (.bool _)
    | _ => cases hq'
end

/-! ### Conversions -/
theorem asBytes_inv {ρ : Map} : ∀ {l l' : List Value} {bs : List UInt8}, asBytes l = some bs → VL ρ l l' → ∃ ns : List Int, l' = ns.map (Value.int .u8) ∧ bs = ns.map fun n => UInt8.ofNat n.toNat
  | [], _, bs, h, .nil => by
    have e : some [] = some bs := h
    cases e; exact ⟨[], rfl, rfl⟩
  | x :: l, x' :: l', bs, h, .cons hx ht => by
    have h' : bnd (byteOf x) (fun b => bnd (asBytes l) fun bs => some (b :: bs)) = some bs := h
    simp only [bnd_eq] at h'
    obtain ⟨b, hb, r, hr, e⟩ := h'
    cases e
    obtain ⟨ns, rfl, rfl⟩ := asBytes_inv hr ht
    rw [byteOf_eq] at hb; unfold byteOf0 at hb
    split at hb
    · cases hb; rw [hx.int_inv]; exact ⟨_ :: ns, rfl, rfl⟩
    · cases hb

theorem modify_push {α : Type} (A : Array α) (x : α) (f : α → α) : (A.push x).modify A.size f = A.push (f x) := by
  apply Array.ext_getElem?
  intro i
  rw [Array.getElem?_modify, Array.getElem?_push, Array.getElem?_push]
  by_cases h : A.size = i
  · subst h; simp
  · have h' : ¬ i = A.size := fun k => h k.symm
    simp [h, h']

theorem foldl_push (ns : List Int) : ∀ (s : ByteArray), ns.foldl (fun r n => r.push (UInt8.ofNat n.toNat)) s = ⟨⟨s.data.toList ++ ns.map fun n => UInt8.ofNat n.toNat⟩⟩ := by
  induction ns with
  | nil => intro s; simp
  | cons n ns ih =>
    intro s
    rw [List.foldl_cons, ih]
    congr 2
    simp [ByteArray.push]

section
variable {P : Program} {S : Nat → Prop} {ρ : Map} {H : Heap} {w : World} {o : Oper} {a : Act}
variable {env : Env} (hE : EnvOk P env)
variable {call : Call} {id : Nat} {tm : Tm} {v : Value} {H' : Heap}
variable (hH : HR P ρ H w) (hid : ρ id = none) (hlt : id < H.next) (hS : S id) (hT : TR ρ tm a.tmps)

theorem VL.bytes : ∀ (s : List UInt8), VL ρ (s.map byteVal) (s.map byteVal)
  | [] => .nil
  | _ :: s => .cons (.int _ _) (VL.bytes s)
theorem bytes_one (s : List UInt8) : ∀ x ∈ s.map byteVal, x.oneCell' = true := by
  intro x hx
  obtain ⟨b, _, rfl⟩ := List.mem_map.1 hx
  rfl

theorem isU8_eq {d : TypeDesc} (h : isU8 d = true) : d = .int .u8 := by
  unfold isU8 at h
  split at h
  · rfl
  · cases h

theorem slice_inv' {d : TypeDesc} {e : TypeId} (h : asSlice d = some e) : d = .slice e := by
  cases d with
  | slice x => simp [asSlice] at h; rw [h]
  | _ => simp [asSlice] at h

theorem liesAt_row {e : TypeId} {count off n : Nat} (h0 : P.cellsOf e ≠ 0) (hm : off % P.cellsOf e = 0) (hn : off / P.cellsOf e + n ≤ count) : liesAt P P.depth e count off e n = true := by
  have hd : P.depth = (2 * (P.types.size + Made.depth) + 1) + 1 := rfl
  rw [hd]
  simp only [liesAt, Bool.or_eq_true]
  left
  rw [hd]
  simp [rowAt, h0, hm, hn, sameLayout]

include hE in
theorem size_inv {t : TypeId} {n : Nat} (h : env.size t = some n) : ∃ i, P.info? t = some i ∧ i.size = n := by
  unfold Env.size at h
  rw [bnd_eq] at h
  obtain ⟨i, hi, e⟩ := h
  cases e
  exact ⟨i, hE.info _ _ hi, rfl⟩

include hE hH hid hlt hS hT in
theorem ok_convert {s d : TypeId} {x : Operand} (ho : o.op = .convert s d x) (h : oConvert s d x env call id tm H = some (v, H')) : Does P o a w (Post P S ρ H w v H') := by
  unfold oConvert convert at h
  simp only [bnd_eq] at h
  obtain ⟨u, hu, sd, hsd, dd, hdd, h⟩ := h
  have hV := eval_ok hT hu
  have hus := fun w => run_und hE hsd w
  have hud := fun w => run_und hE hdd w
  unfold convTo at h
  split at h
  · -- an integer
    rename_i k k' n
    unfold retO at h
    rw [wInt_eq, bnd_some] at h
    cases h
    refine does_pure hH (v' := .int k (k.wrap n)) ?_ (.int _ _)
    simp only [execOp, ho, hV.int_inv]
    refine run_v ?_
    simp only [Go.convert, Sem.run_bind, hus, hud, Result.andThen_ok]
    rfl
  · rename_i q
    cases h
    refine does_pure hH (v' := .string q) ?_ (.string _)
    simp only [execOp, ho, hV.string_inv]
    refine run_v ?_
    simp only [Go.convert, Sem.run_bind, hus, hud, Result.andThen_ok]
    rfl
  · rename_i k n
    cases h
    refine does_pure hH (v' := .string (Utf8.encode n)) ?_ (.string _)
    simp only [execOp, ho, hV.int_inv]
    refine run_v ?_
    simp only [Go.convert, Sem.run_bind, hus, hud, Result.andThen_ok]
    rfl
  · rename_i e q
    unfold toBytes at h
    simp only [bnd_eq, chk_eq, Bool.and_eq_true, fN_eq] at h
    obtain ⟨ed, hed, i, hi, ⟨hu8, hsz⟩, e'⟩ := h
    have := isU8_eq hu8; subst this
    have hsz' : i.size = 1 := Nat.eq_of_beq_eq_true hsz
    simp only [Option.some.injEq, Prod.mk.injEq] at e'
    obtain ⟨rfl, rfl⟩ := e'
    have hue := fun w => run_und hE hed w
    -- what the model does: a row of the bytes, and a capacity out of the tape
    let cap := Question.cut (.appendCap q.size 0 e) (w.tape w.drawn (.appendCap q.size 0 e))
    have hcap : q.size ≤ cap := by simp only [cap, Question.cut]; omega
    let C : Array Value := q.data.map byteVal ++ Array.replicate (cap - q.size) (.int .u8 0)
    have hqs : q.data.size = q.size := rfl
    have hCs : C.size = cap := by simp [C]; omega
    let W : World := ({ w with drawn := w.drawn + 1 } : World).alloc (.cells C e (cap, cap + 1))
    have hrun : (Go.convert s d (.string q)).run P w = .ok (.slice (some ⟨w.heap.size, 0, none⟩) q.size cap) W := by
      simp only [Go.convert, Sem.run_bind, hus, hud, hue, Result.andThen_ok, Conv.stringToBytes, run_choose, Question.forced, Bool.false_eq_true, if_false, newRow, run_newObj, Sem.run_pure, markStringish, run_shape]
      have hsh : (({ w with drawn := w.drawn + 1, heap := w.heap.push (.cells C e) } : World).shape? w.heap.size) = some (e, C.size) := by simp [World.shape?]
      have e1 : (q.data.map fun b => Value.int .u8 (b.toNat : Int)) ++ Array.replicate (Question.cut (.appendCap q.size 0 e) (w.tape w.drawn (.appendCap q.size 0 e)) - q.size) (Value.int .u8 0) = C := rfl
      simp only [e1, hsh, run_freeze, Result.andThen_ok]
      congr 1
      simp only [W, World.alloc, World.freeze, hCs]
      rw [modify_push]
      simp
    obtain ⟨hH', hSt⟩ := hH.row (S := S) hid hlt hS (cs := q.data.toList.map byteVal) (cs' := q.data.toList.map byteVal) (C := C) (elem := e) (fr := (cap, cap + 1)) (hE.info e i hi) (VL.bytes _) (bytes_one _)
      (by intro j hj; rw [hCs] at hj; omega) (by simp [C]) (w' := W) rfl rfl rfl (by simp [W]) (heap_alloc_new _ _) (fun k hk => Below.heap_alloc _ _ _ hk)
    refine does_val (v := .slice (some ⟨w.heap.size, 0, none⟩) q.size cap) (w' := W) ?_ ⟨ins ρ id ⟨w.heap.size, 0, (q.data.toList.map byteVal).length, C.size, i.size⟩, ?_, ?_, ?_⟩
    · simp only [execOp, ho, hV.string_inv]
      exact run_v hrun
    · have := V.sliceU (ρ := ins ρ id ⟨w.heap.size, 0, (q.data.toList.map byteVal).length, C.size, i.size⟩) (b := id) (o := 0) (n := q.size) (c := cap) (ins_same _ _ _) hcap (by simp [hsz', hCs])
      simpa [lenL_eq, hqs] using this
    · simpa [mapL_eq] using hH'
    · simpa [mapL_eq] using hSt
  · rename_i q n c
    simp only [bnd_eq] at h
    obtain ⟨e, he, h⟩ := h
    have := slice_inv' he; subst this
    unfold ofBytes at h
    simp only [bnd_eq, chk_eq] at h
    obtain ⟨ed, hed, hu8, h⟩ := h
    have := isU8_eq hu8; subst this
    have hue := fun w => run_und hE hed w
    have conv : ∀ (q' : Option Addr) (n' c' : Nat), a.eval x = .slice q' n' c' → ∀ {r : Value}, (Conv.bytesToString (.slice q' n' c')).run P w = .ok r w → V ρ v r → H' = H → Does P o a w (Post P S ρ H w v H') := by
      intro q' n' c' hq' r hr hVr hHH
      subst hHH
      refine does_pure hH (v' := r) ?_ hVr
      simp only [execOp, ho, hq']
      refine run_v ?_
      simp only [Go.convert, Sem.run_bind, hus, hud, hue, Result.andThen_ok]
      exact hr
    cases q with
    | none =>
      have h' : some (str [], H) = some (v, H') := h
      simp only [Option.some.injEq, Prod.mk.injEq] at h'
      obtain ⟨rfl, rfl⟩ := h'
      generalize hg : a.eval x = g at hV
      cases hV with
      | nilSlice => exact conv none 0 0 hg (r := .string .empty) rfl (.string _) rfl
    | some q =>
      have h' : bnd (cellsAt H q n) (fun l => bnd (asBytes l) fun l => some (str l, H)) = some (v, H') := h
      simp only [bnd_eq] at h'
      obtain ⟨l, hl, bs, hbs, e'⟩ := h'
      simp only [Option.some.injEq, Prod.mk.injEq] at e'
      obtain ⟨rfl, rfl⟩ := e'
      generalize hg : a.eval x = g at hV
      have fin : ∀ (q' : Addr) (c' : Nat), AR ρ q q' → g = .slice (some q') n c' → Does P o a w (Post P S ρ H w (str bs) H) := by
        intro q' c' hAR hg'
        obtain ⟨l', hVL, h1, hlen, hc⟩ := hH.load hAR hl
        obtain ⟨ns, rfl, rfl⟩ := asBytes_inv hbs hVL
        have hld := run_loadCells_of (P := P) hlen hc
        have hr := run_bytesToString w q' n c' ns (by simpa using hld)
        rw [foldl_push] at hr
        refine conv (some q') n c' (hg.trans hg') hr ?_ rfl
        exact .string _
      cases hV with
      | slice h0 hn hc => exact fin _ _ ⟨_, h0, rfl, rfl⟩ rfl
      | sliceU h0 hn hc => exact fin _ _ ⟨_, h0, rfl, rfl⟩ rfl
      | empty h0 hs =>
        -- no cells are read
        have : l = [] := by
          unfold cellsAt at hl
          simp only [chk_eq, bnd_eq] at hl
          obtain ⟨_, _, _, _, _, hl⟩ := hl
          rw [takeN_eq] at hl
          simpa using hl.2
        subst this
        have e0 : some [] = some bs := hbs
        cases e0
        rename_i a'
        refine conv (some a') 0 0 hg (r := .string ⟨⟨[]⟩⟩) ?_ (.string _) rfl
        exact run_bytesToString (P := P) w a' 0 0 [] rfl
  · rename_i q
    simp only [bnd_eq] at h
    obtain ⟨t, ht, h⟩ := h
    have hsp : sd = .pointer t := by
      cases sd <;> first | (cases ht; done) | (cases ht; rfl)
    subst hsp
    cases q with
    | none => cases h
    | some q =>
      have h' : bnd (env.size t) (fun n => chk (!(Nat.beq n 0) && noSpot q) (bnd (H.get q.block) fun b => bnd (cellsOf b) fun c => chk (Nat.ble (Nat.succ q.off) (lenL c.1)) (some (.pointer (some q), H)))) = some (v, H') := h
      simp only [bnd_eq, chk_eq, Bool.and_eq_true] at h'
      obtain ⟨n, hn, ⟨hn0, _⟩, b, hb, c, hc, hlt, e'⟩ := h'
      cases e'
      obtain ⟨q', hq', hAR⟩ := hV.ptrInv
      obtain ⟨e, he, _, rfl⟩ := (show AR ρ q q' from hAR)
      obtain ⟨i, hi, hin⟩ := size_inv hE hn
      rw [cellsOf_eq] at hc
      subst hc
      have hbr := hH.blk _ _ _ hb he
      generalize hg : w.heap[e.B]? = g at hbr
      cases hbr with
      | cells hi' hk' hss hr hCs hf hv h1 hmodb =>
        rename_i C fr j
        have hlt' := Nat.le_of_ble_eq_true hlt
        rw [lenL_eq] at hlt'
        refine does_pure hH (v' := .pointer (some ⟨e.B, e.base + q.off, none⟩)) ?_ hAR.val
        simp only [execOp, ho, hq']
        refine run_v (Lib.run_to_unsafe w ⟨e.B, e.base + q.off, none⟩ (hE.und _ _ hsd) (hE.und _ _ hdd) hi (by rw [hin]; rintro rfl; simp at hn0) (e := c.2.1) (cells := C.size) (by simp [World.shape?, hg]) (by show e.base + q.off < C.size; omega))
  · rename_i u q
    rw [chk_eq] at h
    obtain ⟨hun, h⟩ := h
    have hsp : sd = .unsafePointer := by
      cases sd <;> first | (cases hun; done) | rfl
    subst hsp
    cases q with
    | none => cases h
    | some q =>
      have h' : bnd (env.size u) (fun n => chk (!(Nat.beq n 0) && noSpot q && Nat.beq (Nat.mod q.off n) 0) (bnd (H.get q.block) fun b => bnd (cellsOf b) fun c => chk (Nat.beq c.2.1 u && Nat.ble (Nat.add q.off n) (lenL c.1)) (some (.pointer (some q), H)))) = some (v, H') := h
      simp only [bnd_eq, chk_eq, Bool.and_eq_true] at h'
      obtain ⟨n, hn, ⟨⟨hn0, _⟩, hmod⟩, b, hb, c, hc, ⟨hcu, hle⟩, e'⟩ := h'
      cases e'
      obtain ⟨q', hq', hAR⟩ := hV.ptrInv
      obtain ⟨e, he, _, rfl⟩ := (show AR ρ q q' from hAR)
      obtain ⟨i, hi, hin⟩ := size_inv hE hn
      rw [cellsOf_eq] at hc
      subst hc
      have hbr := hH.blk _ _ _ hb he
      generalize hg : w.heap[e.B]? = g at hbr
      cases hbr with
      | cells hi' hk' hss hr hCs hf hv h1 hmodb =>
        rename_i C fr j
        have hle' := Nat.le_of_ble_eq_true hle
        rw [lenL_eq] at hle'
        have hmod' : q.off % n = 0 := Nat.eq_of_beq_eq_true hmod
        have hcu' : c.2.1 = u := Nat.eq_of_beq_eq_true hcu
        have hke : e.k = n := by
          rw [hcu', hi] at hi'
          cases hi'
          rw [← hk', hin]
        have hnp : n ≠ 0 := by rintro rfl; simp at hn0
        have hcell : P.cellsOf u = n := by simp [Program.cellsOf, hi, hin]
        have hdvd : (e.base + q.off) % n = 0 := by rw [hke] at hmodb; rw [Nat.add_mod, hmodb, hmod', Nat.zero_add, Nat.zero_mod]
        refine does_pure hH (v' := .pointer (some ⟨e.B, e.base + q.off, none⟩)) ?_ hAR.val
        simp only [execOp, ho, hq']
        refine run_v (Lib.run_from_unsafe w ⟨e.B, e.base + q.off, none⟩ (hE.und _ _ hsd) (hE.und _ _ hdd) hi (e := c.2.1) (cells := C.size) (by simp [World.shape?, hg]) ?_)
        rw [hcu']
        refine liesAt_row (by rw [hcell]; exact hnp) (by rw [hcell]; exact hdvd) ?_
        rw [hcell]
        show (e.base + q.off) / n + 1 ≤ C.size / n
        rw [← Nat.add_div_right _ (Nat.pos_of_ne_zero hnp)]
        exact Nat.div_le_div_right (by have : q.off + n ≤ c.1.length := hle'; omega)
  · cases h
end
end Go.Ev
