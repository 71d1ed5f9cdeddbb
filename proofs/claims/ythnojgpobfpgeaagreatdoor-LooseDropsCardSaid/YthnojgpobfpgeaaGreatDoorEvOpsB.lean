/- Ranging over a string; built-in functions; calls. -/
import Derived.Test.YthnojgpobfpgeaaGreatDoorEvOps
import Derived.Laws.IdiomRangeMap
namespace Go.Ev
open Go.RowKit
variable [Sg]
omit [Sg] in
theorem decode_drop (s : ByteArray) (i : Nat) : Utf8.decode s i = Utf8.decode ⟨⟨s.data.toList.drop i⟩⟩ 0 := by
 have hg : ∀ k, s.get! (i + k) = (⟨⟨s.data.toList.drop i⟩⟩ : ByteArray).get! (0 + k) := by
  intro k
  rw [Nat.zero_add]
  show s.data[i + k]! = (⟨s.data.toList.drop i⟩ : Array UInt8)[k]!
  simp [Array.getElem!_eq_getD, Array.getD_eq_getD_getElem?]
 have hs : ∀ k, (decide (i + k < s.size)) = decide (0 + k < (⟨⟨s.data.toList.drop i⟩⟩ : ByteArray).size) := by
  intro k
  have e1 : s.size = s.data.toList.length := by simp
  have e2 : (⟨⟨s.data.toList.drop i⟩⟩ : ByteArray).size = s.data.toList.length - i := by
   show (⟨s.data.toList.drop i⟩ : Array UInt8).size = _
   simp
  rw [e1, e2]
  simp only [decide_eq_decide]
  omega
 have hg0 := hg 0
 simp only [Nat.add_zero] at hg0
 unfold Utf8.decode
 simp only [hg, hs, Nat.add_zero, hg0]
section
variable {P : Program} {S : Nat -> Prop} {ρ : Map} {H : Heap} {w : World} {o : Oper} {a : Act}
variable {env : Env} (hE : EnvOk P env)
variable {call : Call} {id : Nat} {tm : Tm} {v : Value} {H' : Heap}
variable (hH : HR P ρ H w) (hid : ρ id = none) (hlt : id < H.next) (hS : S id) (hT : TR ρ tm a.tmps)
include hE hH hid hlt hS hT in
theorem ok_range {t : TypeId} {x : Operand} (ho : o.op = .range t x) (h : oRange t x env call id tm H = some (v, H')) : Does P o a w (Post P S ρ H w v H') := by
 unfold oRange at h
 simp only [bnd_eq] at h
 obtain ⟨d, hd, u, hu, h⟩ := h
 unfold rangeOf at h
 split at h
 ·
  simp only [bnd_eq, fN_eq] at h
  obtain ⟨s, hs, e⟩ := h
  simp only [Option.some.injEq, Prod.mk.injEq] at e
  obtain ⟨rfl, rfl⟩ := e
  have hus : ∃ q, u = .string q /\ s = q.data.toList := by
   cases u with
   | string q => simp [strOf] at hs; exact ⟨q, rfl, hs.symm⟩
   | _ => simp [strOf] at hs
  obtain ⟨q, rfl, rfl⟩ := hus
  have hV := (eval_ok hT hu).string_inv
  obtain ⟨hH', hSt⟩ := hH.fresh (S := S) hid hlt (x := .iter q.data.toList 0) (e := ⟨w.heap.size, 0, 0, 0, 0⟩) (w' := w.alloc (.stringIter q 0)) hS (Nat.le_refl _) rfl rfl rfl (by simp) (by
   show BR P _ _ _ (w.alloc (.stringIter q 0)).heap[w.heap.size]?
   rw [heap_alloc_new]; exact .iter rfl rfl) (fun k hk => Below.heap_alloc _ _ _ hk)
  refine does_val (v := .pointer (some ⟨w.heap.size, 0, none⟩)) ?_ ⟨_, .ptr (ins_same _ _ _), hH', hSt⟩
  simp only [execOp, ho, hV]
  refine run_v ?_
  simp only [Instr.range, Sem.run_bind, run_und hE hd, Result.andThen_ok, Sem.run_pure, run_newObj]
  rfl
 ·
  rename_i kt et
  simp only [bnd_eq, fN_eq] at h
  obtain ⟨r, hr, h⟩ := h
  have := mapRef_inv hr; subst this
  have hV := eval_ok hT hu
  cases r with
  | none =>
   have h' : some (mkPtr id, H.set id (.mit none 0 [] 0)) = some (v, H') := h
   cases h'
   generalize hg : a.eval x = g at hV
   cases hV
   obtain ⟨hH', hSt⟩ := hH.fresh (S := S) hid hlt (x := .mit none 0 [] 0) (e := ⟨w.heap.size, 0, 0, 0, 0⟩) (w' := w.alloc (.mapIter none 0 #[] 0)) hS (Nat.le_refl _) rfl rfl rfl (by simp) (by
    show BR P _ _ _ (w.alloc (.mapIter none 0 #[] 0)).heap[w.heap.size]?
    rw [heap_alloc_new]; exact .mitNil rfl) (fun k hk => Below.heap_alloc _ _ _ hk)
   refine does_val (v := .pointer (some ⟨w.heap.size, 0, none⟩)) ?_ ⟨_, .ptr (ins_same _ _ _), hH', hSt⟩
   simp only [execOp, ho, hg]
   exact run_v (run_range_nilMap w t kt et (hE.und _ _ hd))
  | some m =>
   have h' : bnd (mapAt H m) (fun es => some (mkPtr id, H.set id (.mit (some m) es.2 [] es.2))) = some (v, H') := h
   rw [bnd_eq] at h'
   obtain ⟨es, hes, e⟩ := h'
   cases e
   generalize hg : a.eval x = g at hV
   cases hV with
   | map he =>
    rename_i em
    obtain ⟨_, es', hw, _⟩ := mapAt_ok hH hes he
    have hne : m ≠ id := by rintro rfl; rw [hid] at he; cases he
    obtain ⟨hH', hSt⟩ := hH.fresh (S := S) hid hlt (x := .mit (some m) es.2 [] es.2) (e := ⟨w.heap.size, 0, 0, 0, 0⟩) (w' := w.alloc (.mapIter (some em.B) es.2 #[] es.2)) hS (Nat.le_refl _) rfl rfl rfl (by simp) (by
     show BR P _ _ _ (w.alloc (.mapIter (some em.B) es.2 #[] es.2)).heap[w.heap.size]?
     rw [heap_alloc_new]; exact .mit rfl (by unfold ins; rw [if_neg hne]; exact he)) (fun k hk => Below.heap_alloc _ _ _ hk)
    refine does_val (v := .pointer (some ⟨w.heap.size, 0, none⟩)) ?_ ⟨_, .ptr (ins_same _ _ _), hH', hSt⟩
    simp only [execOp, ho, hg]
    exact run_v (run_range_map w t kt et em.B es' es.2 (hE.und _ _ hd) hw)
 ·
  cases h
omit [Sg] in
theorem hasN_eq (n : Nat) : ∀ l : List Nat, hasN n l = (⟨l⟩ : Array Nat).contains n
 | [] => by simp [hasN]
 | a :: l => by
  show ifB (Nat.beq a n) true (hasN n l) = _
  have ih := hasN_eq n l
  simp only [List.contains_toArray] at ih ⊢
  rw [ih, List.contains_cons]
  cases h : Nat.beq a n with
  | true => rw [ifB_true, Nat.eq_of_beq_eq_true h]; simp
  | false =>
   have : n ≠ a := fun e => by subst e; rw [Nat.beq_refl] at h; cases h
   rw [ifB_false]; simp [this]
theorem leftL_eq (seen : List Nat) : ∀ {l l' : List MapEntry}, EL ρ l l' -> EL ρ (leftL seen l) (l'.filter fun e => !(⟨seen⟩ : Array Nat).contains e.born)
 | _, _, .nil => .nil
 | _, _, .cons (n := n) (k := k) (v := v) (l := l) hk hv ht => by
  have ih := leftL_eq seen ht
  show EL ρ (ifB (hasN n seen) (leftL seen l) (⟨k, v, n⟩ :: leftL seen l)) _
  rw [List.filter_cons, hasN_eq]
  cases (⟨seen⟩ : Array Nat).contains n with
  | true => exact ih
  | false => exact .cons hk hv ih
theorem allNew_eq (last : Nat) : ∀ {l l' : List MapEntry}, EL ρ l l' -> allNew last l = l'.all fun e => decide (e.born >= last)
 | _, _, .nil => rfl
 | _, _, .cons (n := n) (l := l) hk hv ht => by
  show ifB (Nat.ble last n) (allNew last l) false = _
  rw [List.all_cons, allNew_eq last ht]
  cases h : Nat.ble last n with
  | true => have := Nat.le_of_ble_eq_true h; rw [ifB_true]; simp [this]
  | false =>
   have : ¬ last <= n := fun e => by rw [Nat.ble_eq_true_of_le e] at h; cases h
   rw [ifB_false]; simp [this]
omit [Sg] in
theorem nilB_eq {α : Type} (l : List α) : nilB l = l.isEmpty := by cases l <;> rfl
theorem EL.isEmpty {l l' : List MapEntry} (h : EL ρ l l') : l.isEmpty = l'.isEmpty := by cases h <;> rfl
theorem findBorn_eq (n : Nat) {x : MapEntry} : ∀ {l l' : List MapEntry}, EL ρ l l' -> findBorn n l = some x -> ∃ x', l'.find? (·.born == n) = some x' /\ V ρ x.key x'.key /\ V ρ x.val x'.val
 | _, _, .nil, h => by cases h
 | _, _, .cons (n := b) (k := k) (v := v) (l := l) hk hv ht, h => by
  have h' : ifB (Nat.beq b n) (some ⟨k, v, b⟩) (findBorn n l) = some x := h
  rw [List.find?_cons]
  cases hb : Nat.beq b n with
  | true =>
   rw [hb, ifB_true] at h'
   cases h'
   have := Nat.eq_of_beq_eq_true hb; subst this
   refine ⟨⟨_, _, b⟩, ?_, hk, hv⟩
   simp only [beq_self_eq_true]
  | false =>
   rw [hb, ifB_false] at h'
   have : (b == n) = false := by
    cases hbn : b == n with
    | false => rfl
    | true => rw [beq_iff_eq] at hbn; subst hbn; rw [Nat.beq_refl] at hb; cases hb
   simp only [this]
   exact findBorn_eq n ht h'
omit [Sg] in
theorem lastN_eq {n : Nat} : ∀ {l : List Nat}, lastN l = some n -> (⟨l⟩ : Array Nat).back? = some n
 | [], h => by cases h
 | a :: l, h => by
  have h' : ifB (nilB l) (some a) (lastN l) = some n := h
  rw [nilB_eq] at h'
  cases l with
  | nil => cases h'; simp
  | cons b l =>
   have := lastN_eq (l := b :: l) h'
   simpa using this
omit [Sg] in
theorem run_setIter {r : Nat} {s : ByteArray} {p : Nat} (x : Obj) (hb : w.heap[r]? = some (.stringIter s p)) : (setObj r x).run P w = .ok () { w with heap := w.heap.setIfInBounds r x } := by
 simp [setObj, Sem.run, hb]
omit [Sg] in
theorem run_setMapIter {r : Nat} {a : Option Nat} {b c : Nat} {s : Array Nat} (x : Obj) (hb : w.heap[r]? = some (.mapIter a b s c)) : (setObj r x).run P w = .ok () { w with heap := w.heap.setIfInBounds r x } := by
 simp [setObj, Sem.run, hb]
include hH hT in
theorem ok_nextMap {x : Operand} {u : Value} {p : Addr} {blk : Blk} (ho : o.op = .next x false) (hu : eval tm x = some u) (hp : addrOf u = some p) (hoff : Nat.beq p.off 0 = true) (hblk : H.get p.block = some blk)
  (h : ifB false (bnd (iterOf blk) fun q => nextStr H p.block q.1 q.2) (nextMap H p.block blk) = some (v, H')) : Does P o a w (Post P S ρ H w v H') := by
 rw [ifB_false] at h
 rw [addrOf_eq] at hp
 subst hp
 obtain ⟨p', hp', e, he, hspot, rfl⟩ := (eval_ok hT hu).ptrInv
 have hoff' := Nat.eq_of_beq_eq_true hoff
 have hbr := hH.blk _ _ _ hblk he
 generalize hg : w.heap[e.B]? = g at hbr
 have hB : ∀ o, g = some o -> e.B < w.heap.size := by
  intro o ho
  rcases Nat.lt_or_ge e.B w.heap.size with h | h
  ·
   exact h
  ·
   rw [Array.getElem?_eq_none h] at hg; subst hg; cases ho
 unfold nextMap at h
 split at h
 ·
  rename_i m since seen last
  cases hbr with
  | mitNil hb0 =>
   have h' : some (Value.tuple #[.bool false], H) = some (v, H') := h
   cases h'
   have haddr : (⟨e.B, e.base + p.off, none⟩ : Addr) = ⟨e.B, 0, none⟩ := by rw [hb0, hoff']
   rw [haddr] at hp'
   have hget : (getObj e.B).run P w = .ok (.mapIter none since ⟨seen⟩ last) w := by simp [getObj, Sem.run, hg]
   refine does_pure hH (v' := .tuple #[.bool false]) ?_ (.tuple (.cons (.bool _) .nil))
   simp only [execOp, ho, hp']
   refine run_v ?_
   simp only [Instr.next, Sem.run_bind, hget, Result.andThen_ok, Sem.run_pure]
  | mit hb0 hm =>
   rename_i m em
   have h' : bnd (mapAt H m) (fun es => nextIn H p.block m since seen last es.1 es.2) = some (v, H') := h
   rw [bnd_eq] at h'
   obtain ⟨es, hes, h'⟩ := h'
   obtain ⟨hmb, es', hw, hEL⟩ := mapAt_ok hH hes hm
   have haddr : (⟨e.B, e.base + p.off, none⟩ : Addr) = ⟨e.B, 0, none⟩ := by rw [hb0, hoff']
   rw [haddr] at hp'
   have hget : (getObj e.B).run P w = .ok (.mapIter (some em.B) since ⟨seen⟩ last) w := by simp [getObj, Sem.run, hg]
   have hget2 : (getObj em.B).run P w = .ok (.map es' es.2) w := by simp [getObj, Sem.run, hw]
   unfold nextIn at h'
   rw [chk_eq] at h'
   obtain ⟨htest, h'⟩ := h'
   have htest' : (!(⟨seen⟩ : Array Nat).isEmpty && !es'.isEmpty && es'.all (fun e => decide (e.born >= last))) = false := by
    have e1 : nilB seen = (⟨seen⟩ : Array Nat).isEmpty := by rw [nilB_eq]; simp
    have e2 : nilB es.1 = es'.isEmpty := by rw [nilB_eq, hEL.isEmpty]; simp
    have e3 : allNew last es.1 = es'.all (fun e => decide (e.born >= last)) := by rw [allNew_eq last hEL]; simp
    rw [e1, e2, e3] at htest
    revert htest
    cases (⟨seen⟩ : Array Nat).isEmpty <;> cases es'.isEmpty <;> cases es'.all (fun e => decide (e.born >= last)) <;> simp
   have hleft := leftL_eq seen hEL
   have hfilt : (es'.filter fun e => !(⟨seen⟩ : Array Nat).contains e.born).toList = es'.toList.filter fun e => !(⟨seen⟩ : Array Nat).contains e.born := by simp
   generalize hL : es'.filter (fun e => !(⟨seen⟩ : Array Nat).contains e.born) = L at hfilt
   rw [<- hfilt] at hleft
   generalize hA : leftL seen es.1 = A at hleft h'
   cases A with
   | nil =>
    have h2 : some (Value.tuple #[.bool false], H) = some (v, H') := h'
    cases h2
    have : L = #[] := by
     generalize hq : L.toList = q at hleft
     cases hleft
     simpa using hq
    subst this
    refine does_pure hH (v' := .tuple #[.bool false]) ?_ (.tuple (.cons (.bool _) .nil))
    simp only [execOp, ho, hp']
    refine run_v ?_
    simp only [Instr.next, Sem.run_bind, hget, hget2, Result.andThen_ok, htest', Bool.false_eq_true, if_false, hL]
    simp [choose, Sem.run, Question.forced]
   | cons x A =>
    have h2 : chk (nilB A && Nat.ble (Nat.succ x.born) since) (some (Value.tuple #[.bool true, x.key, x.val], H.set p.block (.mit (some m) since (appL seen [x.born]) es.2))) = some (v, H') := h'
    rw [chk_eq, Bool.and_eq_true] at h2
    obtain ⟨⟨hnil, hlt⟩, h2⟩ := h2
    cases h2
    rw [nilB_eq, List.isEmpty_iff] at hnil
    subst hnil
    have hlt' := Nat.le_of_ble_eq_true hlt
    have hx : ∃ x', L = #[x'] /\ V ρ x.key x'.key /\ V ρ x.val x'.val /\ x'.born = x.born := by
     generalize hq : L.toList = q at hleft
     cases hleft with
     | cons hk hv ht =>
      cases ht
      refine ⟨⟨_, _, _⟩, ?_, hk, hv, rfl⟩
      apply Array.toList_inj.1
      rw [hq]
    obtain ⟨x', rfl, hk, hv, hborn⟩ := hx
    have hb' : x'.born < since := by rw [hborn]; exact hlt'
    have hnb : ¬ x'.born >= since := by omega
    have hseen : (⟨appL seen [x.born]⟩ : Array Nat) = (⟨seen⟩ : Array Nat).push x'.born := by rw [hborn, appL_eq]; simp
    obtain ⟨h3, h4⟩ := hH.turn hblk he (x' := .mit (some m) since (appL seen [x.born]) es.2) rfl rfl (w' := { w with heap := w.heap.setIfInBounds e.B (.mapIter (some em.B) since ((⟨seen⟩ : Array Nat).push x'.born) es.2) }) rfl rfl rfl (by simp) (by
     show BR P ρ e _ (w.heap.setIfInBounds e.B _)[e.B]?
     rw [Array.getElem?_setIfInBounds]
     simp only [if_true, hB _ rfl]
     rw [<- hseen]
     exact .mit hb0 hm) (fun k hk => by
     show (w.heap.setIfInBounds e.B _)[k]? = _
     rw [Array.getElem?_setIfInBounds, if_neg (fun h => hk h.symm)]) S
    refine does_val (v := .tuple #[.bool true, x'.key, x'.val]) ?_ ⟨ρ, .tuple (.cons (.bool _) (.cons hk (.cons hv .nil))), h3, h4⟩
    simp only [execOp, ho, hp']
    refine run_v ?_
    have e1 : (#[x'] : Array MapEntry).filter (fun e => decide (e.born < since)) = #[x'] := by simp [hb']
    have e2 : (#[x'] : Array MapEntry).filter (fun e => decide (e.born >= since)) = #[] := by simp [hb']
    simp only [Instr.next, Sem.run_bind, hget, hget2, Result.andThen_ok, htest', Bool.false_eq_true, if_false, hL, e1, e2]
    have hch : (choose (Question.mapNext ((if (#[x'] : Array MapEntry).isEmpty = true then #[none] else #[]) ++ Array.map some (#[x'] ++ #[]) : Array (Option MapEntry)).size)).run P w = .ok 0 w := by
     simp [choose, Sem.run, Question.forced]
    simp only [hch, Result.andThen_ok]
    simp [run_setMapIter _ hg]
 ·
  cases h
include hH hT in
theorem ok_mapEntry {x : Operand} (ho : o.op = .entry x) (h : oMapEntry x env call id tm H = some (v, H')) : Does P o a w (Post P S ρ H w v H') := by
 unfold oMapEntry at h
 simp only [bnd_eq, chk_eq] at h
 obtain ⟨u, hu, p, hp, hoff, blk, hblk, h⟩ := h
 rw [addrOf_eq] at hp
 subst hp
 obtain ⟨p', hp', e, he, hspot, rfl⟩ := (eval_ok hT hu).ptrInv
 have hoff' := Nat.eq_of_beq_eq_true hoff
 have hbr := hH.blk _ _ _ hblk he
 generalize hg : w.heap[e.B]? = g at hbr
 unfold entryOf at h
 split at h
 ·
  rename_i m since seen last
  simp only [bnd_eq, chk_eq] at h
  obtain ⟨n, hn, es, hes, hcl, y, hy, e'⟩ := h
  cases e'
  cases hbr with
  | mit hb0 hm =>
   rename_i em
   obtain ⟨hmb, es', hw, hEL⟩ := mapAt_ok hH hes hm
   have haddr : (⟨e.B, e.base + p.off, none⟩ : Addr) = ⟨e.B, 0, none⟩ := by rw [hb0, hoff']
   rw [haddr] at hp'
   have hget : (getObj e.B).run P w = .ok (.mapIter (some em.B) since ⟨seen⟩ last) w := by simp [getObj, Sem.run, hg]
   have hget2 : (getObj em.B).run P w = .ok (.map es' es.2) w := by simp [getObj, Sem.run, hw]
   obtain ⟨y', hy', hk, hv⟩ := findBorn_eq n hEL hy
   have hcl' := Nat.eq_of_beq_eq_true hcl
   have hback := lastN_eq hn
   have hfind : es'.find? (fun e => e.born == n) = some y' := by rw [<- Array.find?_toList]; exact hy'
   refine does_pure hH (v' := .tuple #[y'.key, y'.val]) ?_ (.tuple (.cons hk (.cons hv .nil)))
   simp only [execOp, ho, hp']
   refine run_v ?_
   simp only [Instr.entry, Sem.run_bind, hget, Result.andThen_ok, hback, hget2, hcl', bne_self_eq_false, Bool.false_eq_true, if_false, hfind, Sem.run_pure]
 ·
  cases h
include hH hT in
theorem ok_next {x : Operand} {b : Bool} (ho : o.op = .next x b) (h : oNext x b env call id tm H = some (v, H')) : Does P o a w (Post P S ρ H w v H') := by
 unfold oNext at h
 simp only [bnd_eq, chk_eq] at h
 obtain ⟨u, hu, p, hp, hoff, blk, hblk, h⟩ := h
 cases b with
 | false => exact ok_nextMap hH hT ho hu hp hoff hblk h
 | true =>
 rw [ifB_true, bnd_eq] at h
 obtain ⟨⟨s, pos⟩, hit, h⟩ := h
 rw [addrOf_eq] at hp
 subst hp
 obtain ⟨p', hp', e, he, hspot, rfl⟩ := (eval_ok hT hu).ptrInv
 have hoff' := Nat.eq_of_beq_eq_true hoff
 have hb : blk = .iter s pos := by
  cases blk with
  | iter s' p' => simp [iterOf] at hit; obtain ⟨rfl, rfl⟩ := hit; rfl
  | _ => simp [iterOf] at hit
 subst hb
 have hbr := hH.blk _ _ _ hblk he
 generalize hg : w.heap[e.B]? = g at hbr
 cases hbr with
 | iter hb0 hdrop =>
  rename_i s'
  have hget : (getObj e.B).run P w = .ok (.stringIter s' pos) w := by simp [getObj, Sem.run, hg]
  have haddr : (⟨e.B, e.base + p.off, none⟩ : Addr) = ⟨e.B, 0, none⟩ := by rw [hb0, hoff']
  rw [haddr] at hp'
  have hsz : s'.size = s'.data.toList.length := by simp
  dsimp only at h
  cases s with
  | nil =>
   have h' : some (Value.tuple #[.bool false], H) = some (v, H') := h
   cases h'
   have hge : ¬ pos < s'.size := by
    have := List.drop_eq_nil_iff.1 hdrop
    omega
   refine does_pure hH (v' := .tuple #[.bool false]) ?_ (.tuple (.cons (.bool _) .nil))
   simp only [execOp, ho, hp']
   refine run_v ?_
   simp only [Instr.next, Sem.run_bind, hget, Result.andThen_ok, hge, if_false, Sem.run_pure]
  | cons c s =>
   have hlt' : pos < s'.size := by
    rcases Nat.lt_or_ge pos s'.size with h | h
    ·
     exact h
    ·
     rw [List.drop_eq_nil_of_le (by omega)] at hdrop; cases hdrop
   have h' : (fun d : Nat × Nat => fN d.1 fun c' => fN d.2 fun w' => fN pos fun pos => some (Value.tuple #[.bool true, goInt pos, .int .i32 (.ofNat c')], H.set p.block (.iter (dropL w' (c :: s)) (Nat.add pos w')))) (Utf8.decode ⟨⟨c :: s⟩⟩ 0) = some (v, H') := h
   simp only [fN_eq, Option.some.injEq, Prod.mk.injEq, dropL_eq] at h'
   obtain ⟨rfl, rfl⟩ := h'
   have hdec : Utf8.decode s' pos = Utf8.decode ⟨⟨c :: s⟩⟩ 0 := by rw [decode_drop, hdrop]
   have hB : e.B < w.heap.size := by
    rcases Nat.lt_or_ge e.B w.heap.size with h | h
    ·
     exact h
    ·
     rw [Array.getElem?_eq_none h] at hg; cases hg
   generalize hdd : Utf8.decode ⟨⟨c :: s⟩⟩ 0 = d at hdec
   obtain ⟨cc, wd⟩ := d
   obtain ⟨h2, h3⟩ := hH.turn hblk he (x' := .iter ((c :: s).drop wd) (pos + wd)) rfl rfl (w' := { w with heap := w.heap.setIfInBounds e.B (.stringIter s' (pos + wd)) }) rfl rfl rfl (by simp) (by
    show BR P ρ e _ (w.heap.setIfInBounds e.B (.stringIter s' (pos + wd)))[e.B]?
    rw [Array.getElem?_setIfInBounds]
    simp only [if_true, hB]
    exact .iter hb0 (by rw [<- hdrop, List.drop_drop])) (fun k hk => by
    show (w.heap.setIfInBounds e.B (.stringIter s' (pos + wd)))[k]? = _
    rw [Array.getElem?_setIfInBounds, if_neg (fun h => hk h.symm)]) S
   refine does_val (v := .tuple #[.bool true, goInt pos, .int .i32 cc]) ?_ ⟨ρ, .tuple (.cons (.bool _) (.cons (.int _ _) (.cons (.int _ _) .nil))), h2, h3⟩
   simp only [execOp, ho, hp']
   refine run_v ?_
   simp only [Instr.next, Sem.run_bind, hget, Result.andThen_ok, hlt', if_true, hdec, run_setIter _ hg, Sem.run_pure]
include hE in
omit hE in
theorem mapView_ok {mv mv' : Value} {es : List MapEntry × Nat} (hH : HR P ρ H w) (h : mapView H mv = some es) (hV : V ρ mv mv') :
  (mv' = .map none /\ es.1 = []) \/ ∃ r, ∃ es' : Array MapEntry, ∃ c, mv' = .map (some r) /\ w.heap[r]? = some (.map es' c) /\ EL ρ es.1 es'.toList := by
 unfold mapView at h
 rw [bnd_eq] at h
 obtain ⟨r, hr, h⟩ := h
 have := mapRef_inv hr; subst this
 cases r with
 | none => have e : some ([], 0) = some es := h; cases e; cases hV; exact .inl ⟨rfl, rfl⟩
 | some r =>
  have h' : mapAt H r = some es := h
  cases hV with
  | map he =>
   obtain ⟨_, es', hw, hEL⟩ := mapAt_ok hH h' he
   exact .inr ⟨_, es', _, rfl, hw, hEL⟩
include hE hH in
theorem len_ok {t : TypeId} {d : TypeDesc} {x x' q : Value} {ts : Array TypeId} {ty : TypeId} (hts : ts[0]? = some t) (hd : env.und t = some d) (hx : V ρ x x') (h : lenOf env H d x = some q) :
  ∃ q', (Builtin.len_ ts ty #[x']).run P w = .ok q' w /\ V ρ q q' := by
 have hu := fun w => run_und hE hd w
 have ha : (#[x'] : Array Value)[0]? = some x' := rfl
 unfold lenOf at h
 split at h
 ·
  rw [mkInt_eq] at h; cases h
  rename_i s
  rw [hx.string_inv]
  refine ⟨_, ?_, .int _ _⟩
  have : (lenL s.data.toList) = s.size := by rw [lenL_eq]; simp
  rw [this]
  simp [Builtin.len_, hts, hu]
  rfl
 ·
  rename_i i
  obtain ⟨s, rfl, hv⟩ := hE.symLen i q h ρ x' hx
  exact ⟨_, by simp [Builtin.len_, hts, hu]; rfl, hv⟩
 ·
  cases h
  exact ⟨_, by simp [Builtin.len_, hts, hu]; rfl, .int _ _⟩
 ·
  rw [mkInt_eq] at h; cases h
  rename_i b n c
  refine ⟨_, ?_, .int _ _⟩
  cases hx <;> (simp [Builtin.len_, hts, hu]; try rfl)
 ·
  rw [bnd_eq] at h
  obtain ⟨es, hes, h⟩ := h
  rw [mkInt_eq, lenL_eq] at h; cases h
  refine ⟨_, ?_, .int _ _⟩
  rcases mapView_ok hH hes hx with ⟨rfl, h0⟩ | ⟨r, es', c, rfl, hw, hEL⟩
  ·
   rw [h0]; simp [Builtin.len_, hts, hu]; rfl
  ·
   have := hEL.length
   simp [Builtin.len_, hts, hu, run_getMap hw, this]
   rfl
 ·
  cases h
theorem minMax_ok {isMax : Bool} {k : IntKind} : ∀ {l l' : List Value} {x : Int} {q : Value}, minMaxFrom isMax k l x = some q -> VL ρ l l' -> ∀ w : World, (l'.foldlM (if isMax then Builtin.max2 else Builtin.min2) (.int k x)).run P w = .ok q w /\ V ρ q q
 | [], _, x, q, h, .nil, w => by
  have e : some (Value.int k x) = some q := h
  cases e; exact ⟨rfl, .int _ _⟩
 | y :: l, _, x, q, h, .cons hy ht, w => by
  have h' : bnd (intOf' y) (fun y => minMaxFrom isMax k l (ifB isMax (ifB (ltI x y) y x) (ifB (ltI y x) y x))) = some q := h
  rw [bnd_eq] at h'
  obtain ⟨n, hn, h'⟩ := h'
  obtain ⟨k', rfl⟩ := intOf_eq hn
  rw [hy.int_inv]
  obtain ⟨h1, h2⟩ := minMax_ok h' ht w
  refine ⟨?_, h2⟩
  rw [List.foldlM_cons, Sem.run_bind]
  cases isMax
  ·
   simp only [ifB_eq, ltI_eq, decide_eq_true_eq] at h1 ⊢
   simp only [Bool.false_eq_true, if_false, Builtin.min2, Sem.run_pure, Result.andThen_ok] at h1 ⊢
   exact h1
  ·
   simp only [ifB_eq, ltI_eq, decide_eq_true_eq] at h1 ⊢
   simp only [if_true, Builtin.max2, Sem.run_pure, Result.andThen_ok] at h1 ⊢
   exact h1
def BOk (P : Program) (S : Nat -> Prop) (ρ : Map) (H : Heap) (w : World) (v : Value) (H' : Heap) (m : Sem Next) : Prop := ∃ v' w', m.run P w = .ok (.value v') w' /\ Post P S ρ H w v H' v' w'
theorem BOk.pure (hH : HR P ρ H w) {m : Sem Next} {v' : Value} (h : m.run P w = .ok (.value v') w) (hv : V ρ v v') : BOk P S ρ H w v H m := ⟨v', w, h, ρ, hv, hH, .refl _ _ _ _⟩
omit [Sg] in
theorem two_inv {l : List Value} {p : Value × Value} (h : two l = some p) : l = [p.1, p.2] := by
 unfold two at h
 split at h
 ·
  cases h; rfl
 ·
  cases h
omit [Sg] in
theorem one_inv {l : List Value} {p : Value} (h : one l = some p) : l = [p] := by
 unfold one at h
 split at h
 ·
  cases h; rfl
 ·
  cases h
omit [Sg] in
theorem twoT_inv {l : List TypeId} {p : TypeId × TypeId} (h : twoT l = some p) : l = [p.1, p.2] := by
 unfold twoT at h
 split at h
 ·
  cases h; rfl
 ·
  cases h
omit [Sg] in
theorem headT_inv {l : Array TypeId} {t : TypeId} (h : headT l.toList = some t) : l[0]? = some t := by
 obtain ⟨l⟩ := l
 cases l with
 | nil => cases h
 | cons x l => simpa [headT] using h
omit [Sg] in
theorem run_loadBytes' (P : Program) (w : World) : ∀ (ns : List Int) (a : Addr) (acc : ByteArray), (∀ j v, (ns.map (Value.int .u8))[j]? = some v -> w.cell? (a.add j) = some v) ->
  (loadBytes a acc ns.length).run P w = .ok ⟨⟨acc.data.toList ++ ns.map fun n => UInt8.ofNat n.toNat⟩⟩ w
 | [], a, acc, _ => by
  have : (⟨⟨acc.data.toList ++ []⟩⟩ : ByteArray) = acc := by
   apply ByteArray.ext
   simp
  simp [loadBytes]
 | x :: l, a, acc, h => by
  have h0 : w.cell? a = some (.int .u8 x) := by
   have := h 0 _ rfl
   simpa [Addr.add] using this
  have ih := run_loadBytes' P w l (a.add 1) (acc.push x.toNat.toUInt8) (fun j v hj => by
   have := h (j + 1) v (by simpa using hj)
   have e : (a.add 1).add j = a.add (j + 1) := by
    unfold Addr.add
    by_cases hj : j = 0
    ·
     subst hj; simp
    ·
     simp [hj]; omega
   rw [e]; exact this)
  simp only [List.length_cons, loadBytes, Sem.run_bind, run_load, h0, Result.andThen]
  rw [ih]
  congr 1
  apply ByteArray.ext
  simp [ByteArray.push]
omit hE in
include hH in
theorem data_ok {ts : Array TypeId} {ty : TypeId} {consts : Array Bool} {x x' : Value} (hx : V ρ x x') (h : dataOf H x = some (v, H')) : BOk P S ρ H w v H' (Go.builtin .unsafeSliceData ts ty consts ⟨[x']⟩) := by
 unfold dataOf at h
 split at h
 ·
  cases h
  cases hx
  exact .pure hH (v' := .pointer none) (run_v (Lib.run_unsafeSliceData_nil w ts ty _ _)) .nilPtr
 ·
  rename_i a n c
  rw [chk_eq] at h
  obtain ⟨hc, e⟩ := h
  cases e
  cases hx with
  | slice h0 hn hcU =>
   refine .pure hH (run_v (Lib.run_unsafeSliceData_row w ts ty _ _ _ ?_)) (.ptr h0)
   rintro rfl
   have h2 : (ifB (isU 0) (!(Nat.beq n 0)) (!(Nat.beq 0 0))) = false := rfl
   rw [h2] at hc; cases hc
  | sliceU h0 hn hcU =>
   rename_i c
   refine .pure hH (run_v (Lib.run_unsafeSliceData_row w ts ty _ _ _ ?_)) (.ptr h0)
   rintro rfl
   have : n = 0 := by omega
   subst this
   simp [isU] at hc
  | empty h0 hs0 => simp [isU] at hc
 ·
  cases h
include hE hH in
theorem seal_ok {t it : TypeId} {ty : TypeId} {k : Nat} {a a' : Addr} (ha : AR ρ a a') (hk0 : k ≠ 0) (h : sealAt env H t k a = some (v, H')) :
  ∃ v' w', (Builtin.unsafeString_ #[t, it] ty #[.pointer (some a'), .int .i64 k]).run P w = .ok v' w' /\ Post P S ρ H w v H' v' w' := by
 unfold sealAt at h
 simp only [bnd_eq, chk_eq, Bool.and_eq_true, noSpot_eq] at h
 obtain ⟨d, hd, e, he, s, hs, b, hb, c, hc, ⟨⟨⟨⟨hs1, hce⟩, hro⟩, hsp⟩, hk⟩, l, hl, bs, hbs, e'⟩ := h
 cases e'
 have hdp : d = .pointer e := by
  cases d <;> first | (cases he; done) | (cases he; rfl)
 subst hdp
 obtain ⟨i, hi, his⟩ := size_inv hE hs
 have hs1' := Nat.eq_of_beq_eq_true hs1
 have hce' := Nat.eq_of_beq_eq_true hce
 have hk' := Nat.le_of_ble_eq_true hk
 have hcell : P.cellsOf e = 1 := by simp [Program.cellsOf, hi, his, hs1']
 obtain ⟨c1, c2, c3⟩ := c
 dsimp only at hro hce' hl hc ⊢
 subst hce'
 rw [cellsOf_eq] at hc
 dsimp only at hc
 subst hc
 have hload : ∃ l', VL ρ l l' /\ (∀ v ∈ l', v.oneCell' = true) /\ l'.length = k /\ ∀ j v, l'[j]? = some v -> w.cell? (a'.add j) = some v := by
  refine hH.load ha (n := k) ?_
  unfold cellsAt
  rw [chk_eq]
  refine ⟨by rw [noSpot_eq]; exact hsp, ?_⟩
  rw [bnd_eq]
  refine ⟨_, hb, ?_⟩
  rw [bnd_eq]
  exact ⟨(c1, c2, c3), rfl, hl⟩
 obtain ⟨l', hVL, _, hlen, hcells⟩ := hload
 obtain ⟨ns, rfl, rfl⟩ := asBytes_inv hbs hVL
 rw [List.length_map] at hlen
 subst hlen
 obtain ⟨em, hem, _, rfl⟩ := ha
 have hbr := hH.blk _ _ _ hb hem
 generalize hg : w.heap[em.B]? = g at hbr
 cases hbr with
 | cells hi' hk1 hss hr hCs hf hv h1 hmodb =>
  rename_i C fr j
  have hlb := run_loadBytes' P w ns ⟨em.B, em.base + a.off, none⟩ .empty hcells
  have hsh : w.shape? em.B = some (c2, C.size) := by simp [World.shape?, hg]
  rw [takeN_eq, dropL_eq, List.length_drop] at hl
  have hvl := hVL.length
  simp only [List.length_map] at hvl
  have hll : ns.length <= c1.length - a.off := hl.1
  have hlies : liesAt P P.depth c2 (C.size / P.cellsOf c2) (em.base + a.off) c2 ns.length = true := by
   refine liesAt_row (by rw [hcell]; decide) (by rw [hcell]; exact Nat.mod_one _) ?_
   rw [hcell, Nat.div_one, Nat.div_one, hCs]
   omega
  have hmax : IntKind.i64.max = 9223372036854775807 := rfl
  have hneg : ¬ (ns.length : Int) < 0 := by omega
  have h63' : ¬ (9223372036854775807 : Int) < (ns.length : Int) := by omega
  obtain ⟨m1, m2, m3, hdef⟩ : ∃ (m1 m2 : Sem Unit) (m3 : Sem Value), Builtin.unsafeString_ #[t, it] ty #[.pointer (some ⟨em.B, em.base + a.off, none⟩), .int .i64 ns.length] =
   (do
    let n <- asInt (.int .i64 ns.length)
    if n < 0 then m1
    if n > IntKind.i64.max then m2
    if n = 0 then pure (.string .empty)
    else if <- variablesAt ⟨em.B, em.base + a.off, none⟩ (<- elemOf t) n.toNat then do
     let s <- loadBytes ⟨em.B, em.base + a.off, none⟩ .empty n.toNat
     freeze ⟨em.B, em.base + a.off, none⟩ n.toNat
     pure (.string s)
    else m3) := ⟨_, _, _, rfl⟩
  have hrun : (Builtin.unsafeString_ #[t, it] ty #[.pointer (some ⟨em.B, em.base + a.off, none⟩), .int .i64 ns.length]).run P w = .ok (.string ⟨⟨ns.map fun n => UInt8.ofNat n.toNat⟩⟩) (w.freeze ⟨em.B, em.base + a.off, none⟩ ns.length) := by
   rw [hdef]
   simp [asInt, asIntOf, hmax, h63', hneg, hk0, variablesAt, hsh, elemOf, run_underlying (hE.und _ _ hd), hlies, hlb]
  have hfr : ∃ fr', (w.freeze ⟨em.B, em.base + a.off, none⟩ ns.length).heap[em.B]? = some (.cells C c2 fr') := by
   unfold World.freeze
   rw [if_neg hk0]
   simp only [Array.getElem?_modify, if_true, hg, Option.map_some]
   exact ⟨_, rfl⟩
  obtain ⟨fr', hfr⟩ := hfr
  have hoth : ∀ k, k ≠ em.B -> (w.freeze ⟨em.B, em.base + a.off, none⟩ ns.length).heap[k]? = w.heap[k]? := by
   intro k hkB
   unfold World.freeze
   rw [if_neg hk0]
   simp only [Array.getElem?_modify]
   rw [if_neg (fun h => hkB h.symm)]
  have hsz : (w.freeze ⟨em.B, em.base + a.off, none⟩ ns.length).heap.size = w.heap.size := by
   unfold World.freeze
   rw [if_neg hk0]
   simp
  have hot : (w.freeze ⟨em.B, em.base + a.off, none⟩ ns.length).os = w.os /\ (w.freeze ⟨em.B, em.base + a.off, none⟩ ns.length).tape = w.tape /\ (w.freeze ⟨em.B, em.base + a.off, none⟩ ns.length).output = w.output := by
   unfold World.freeze
   rw [if_neg hk0]
   exact ⟨rfl, rfl, rfl⟩
  obtain ⟨hH2, hSt⟩ := hH.turn' (x' := .cells c1 c2 .fz) hb hem (show isW c3 = true from hro) hot.1 hot.2.1 hot.2.2 hsz (by rw [hfr]; exact .cells hi' hk1 hss hr hCs (fun h => by cases h) hv h1 hmodb) hoth S
  exact ⟨_, _, hrun, ρ, .string _, hH2, hSt⟩
include hE hH hid hlt hS in
theorem builtin_ok {b : Builtin} {ts : Array TypeId} {ty : TypeId} {consts : Array Bool} {args args' : List Value} (hA : VL ρ args args') (h : builtinFn b env H id ts.toList args = some (v, H')) :
  BOk P S ρ H w v H' (Go.builtin b ts ty consts ⟨args'⟩) := by
 cases b with
 | append =>
  have h' : bAppend env H id ts.toList args = some (v, H') := h
  unfold bAppend at h'
  simp only [bnd_eq] at h'
  obtain ⟨t, ht, p, hp, h'⟩ := h'
  have := two_inv hp; subst this
  have hts := twoT_inv ht
  have hts' : ts = #[t.1, t.2] := by cases ts; simp at hts; rw [hts]
  subst hts'
  match args', hA with
  | [_, _], .cons h1 (.cons h2 .nil) =>
   obtain ⟨v', w', hrun, hP⟩ := append_ok (ty := ty) hE hH hid hlt hS h1 h2 h'
   exact ⟨v', w', run_v hrun, hP⟩
 | copy =>
  have h' : bCopy env H id ts.toList args = some (v, H') := h
  unfold bCopy at h'
  simp only [bnd_eq] at h'
  obtain ⟨t, ht, p, hp, h'⟩ := h'
  have := two_inv hp; subst this
  have hts := twoT_inv ht
  have hts' : ts = #[t.1, t.2] := by cases ts; simp at hts; rw [hts]
  subst hts'
  match args', hA with
  | [_, _], .cons h1 (.cons h2 .nil) =>
   obtain ⟨v', w', hrun, hP⟩ := copy_ok (t2 := t.2) (ty := ty) (S := S) hE hH h1 h2 h'
   exact ⟨v', w', run_v hrun, hP⟩
 | len =>
  have h' : bLen env H id ts.toList args = some (v, H') := h
  unfold bLen retO at h'
  simp only [bnd_eq] at h'
  obtain ⟨t, ht, d, hd, x, hx, q, hq, e⟩ := h'
  cases e
  have := one_inv hx; subst this
  match args', hA with
  | [_], .cons h1 .nil =>
   obtain ⟨q', h2, h3⟩ := len_ok (ty := ty) hE hH (headT_inv ht) hd h1 hq
   exact .pure hH (run_v h2) h3
 | cap =>
  have h' : bCap env H id ts.toList args = some (v, H') := h
  unfold bCap at h'
  simp only [bnd_eq, chk_eq] at h'
  obtain ⟨t, ht, e, he, x, hx, p, hp, hc, e'⟩ := h'
  cases e'
  have := one_inv hx; subst this
  have hd := slice_inv he
  match args', hA with
  | [x'], .cons h1 .nil =>
   have hsp : x = .slice p.1 p.2.1 p.2.2 := by
    cases x with
    | slice b n c => simp [sliceParts] at hp; rw [<- hp]
    | _ => simp [sliceParts] at hp
   subst hsp
   have : ∃ b', x' = .slice b' p.2.1 p.2.2 := by
    generalize hq : p.2.2 = c at *
    generalize p.2.1 = n at *
    generalize p.1 = b at *
    cases h1 with
    | nilSlice => exact ⟨_, rfl⟩
    | slice h0 hn hc' => exact ⟨_, rfl⟩
    | sliceU h0 hn hc' => simp [isU] at hc
    | empty h0 hs => simp [isU] at hc
   obtain ⟨b', rfl⟩ := this
   refine .pure hH (v' := goInt p.2.2) (run_v ?_) (.int _ _)
   simp [Builtin.cap_, headT_inv ht, run_und hE hd]
 | delete =>
  have h' : bDelete env H id ts.toList args = some (v, H') := h
  unfold bDelete mapDelete at h'
  simp only [bnd_eq] at h'
  obtain ⟨t, ht, p, hp, H1, ⟨mt, hmt, kind, hkind, r0, hr0, h'⟩, e⟩ := h'
  cases e
  have := two_inv hp; subst this
  have hd := map_inv hmt
  obtain ⟨hku, hkk⟩ := key_inv hkind
  have hkd := hE.und _ _ hku
  have := mapRef_inv hr0
  obtain ⟨p1, p2⟩ := p
  dsimp only at this h' hA; subst this
  match args', hA with
  | [m', k'], .cons h1 (.cons h2 .nil) =>
   have ht0 := headT_inv ht
   cases r0 with
   | none =>
    have e : some H = some H' := h'
    cases e
    cases h1
    refine .pure hH (v' := noResult) (run_v ?_) (.tuple .nil)
    simp [Builtin.delete_, ht0, run_und hE hd, isKey_check hkd hkk]
    rfl
   | some r =>
    have h2' : bnd (mapAt H r) (fun es => bnd (findKey env.symKey kind p2 es.1 0) fun f => Option.rec (motive := fun _ => Option Heap) (some H) (fun f => some (H.set r (.map (eraseL es.1 f.1) es.2))) f) = some H' := h'
    simp only [bnd_eq] at h2'
    obtain ⟨es, hes, f, hf, hq⟩ := h2'
    cases h1 with
    | map he =>
     obtain ⟨hblk, es', hw, hEL⟩ := mapAt_ok hH hes he
     obtain ⟨g1, g2⟩ := findKey_ok hE.symKey h2 hf hEL
     cases f with
     | none =>
      have e : some H = some H' := hq
      cases e
      refine .pure hH (v' := noResult) (run_v ?_) (.tuple .nil)
      simp [Builtin.delete_, ht0, run_und hE hd, run_getMap hw, isKey_check hkd hkk, run_find hkd (g1 rfl), run_setMap _ hw, set_same _ _ _ hw]
      rfl
     | some f =>
      obtain ⟨j, en⟩ := f
      have e : some (H.set r (.map (eraseL es.1 j) es.2)) = some H' := hq
      cases e
      obtain ⟨e', a1, _⟩ := g2 j en rfl
      have hEL' : EL ρ (eraseL es.1 j) (es'.eraseIdxIfInBounds j).toList := by
       have : (es'.eraseIdxIfInBounds j).toList = es'.toList.eraseIdx j := by simp
       rw [this]; exact hEL.erase j
      obtain ⟨h3, h4, h5⟩ := map_turn (S := S) hH hblk he hw (c := es.2) hEL'
      refine ⟨noResult, _, run_v ?_, ρ, .tuple .nil, h4, h5⟩
      simp [Builtin.delete_, ht0, run_und hE hd, run_getMap hw, isKey_check hkd hkk, run_find hkd a1, h3]
      rfl
 | min =>
  have h' : bMin env H id ts.toList args = some (v, H') := h
  unfold bMin retO minMax at h'
  simp only [bnd_eq] at h'
  obtain ⟨q, ⟨hd, hhd, hq⟩, e⟩ := h'
  cases e
  have : args = .int hd.1 hd.2.1 :: hd.2.2 := by
   unfold headInt at hhd
   split at hhd
   ·
    cases hhd; rfl
   ·
    cases hhd
  subst this
  match args', hA with
  | x' :: l', .cons h1 h2 =>
   rw [h1.int_inv]
   obtain ⟨h3, h4⟩ := minMax_ok (P := P) hq h2 w
   refine .pure hH (run_v ?_) h4
   simpa [Builtin.min_] using h3
 | max =>
  have h' : bMax env H id ts.toList args = some (v, H') := h
  unfold bMax retO minMax at h'
  simp only [bnd_eq] at h'
  obtain ⟨q, ⟨hd, hhd, hq⟩, e⟩ := h'
  cases e
  have : args = .int hd.1 hd.2.1 :: hd.2.2 := by
   unfold headInt at hhd
   split at hhd
   ·
    cases hhd; rfl
   ·
    cases hhd
  subst this
  match args', hA with
  | x' :: l', .cons h1 h2 =>
   rw [h1.int_inv]
   obtain ⟨h3, h4⟩ := minMax_ok (P := P) hq h2 w
   refine .pure hH (run_v ?_) h4
   simpa [Builtin.max_] using h3
 | clear =>
  have h' : bClear env H id ts.toList args = some (v, H') := h
  unfold bClear at h'
  simp only [bnd_eq] at h'
  obtain ⟨t, ht, d, hd, x, hx, h'⟩ := h'
  have := one_inv hx; subst this
  have ht0 := headT_inv ht
  match args', hA with
  | [x'], .cons h1 .nil =>
   unfold clearOf at h'
   split at h'
   ·
    cases h'
    cases h1
    refine .pure hH (v' := noResult) (run_v ?_) (.tuple .nil)
    simp [Builtin.clear_, ht0, run_und hE hd]
    rfl
   ·
    rename_i e p n c
    simp only [bnd_eq] at h'
    obtain ⟨z, hz, zs, hzs, H1, hst, e'⟩ := h'
    cases e'
    obtain ⟨hzc, hzV, hz1, hzsz⟩ := zero_cells (ρ := ρ) hE hz hzs
    have hzeros : (Builtin.zeroCells z.cells n).toList = repL zs n := by rw [hzc]; exact congrArg Array.toList (zeros_eq zs n)
    have fin : ∀ (p' : Addr) (c' : Nat), AR ρ p p' -> x' = .slice (some p') n c' -> n ≠ 0 -> BOk P S ρ H w noResult H' (Go.builtin .clear ts ty consts ⟨[x']⟩) := by
     intro p' c' hAR hx' hn0
     subst hx'
     obtain ⟨w', hrun, hH', hSt⟩ := hH.store hAR hst (hzV.rep n) (repL_one hz1 n) S
     refine ⟨noResult, w', run_v ?_, ρ, .tuple .nil, hH', hSt⟩
     obtain ⟨m, rfl⟩ : ∃ m, n = m + 1 := ⟨n - 1, by omega⟩
     simp only [Builtin.clear_, ht0, List.getElem?_toArray, List.getElem?_cons_zero, Sem.run_bind, run_und hE hd, Result.andThen_ok, run_zero hE hz, hzeros, hrun, Sem.run_pure]
     rfl
    have none0 : n = 0 -> ∀ (p' : Addr) (c' : Nat), x' = .slice (some p') n c' -> (∃ e, ρ p.block = some e) -> BOk P S ρ H w noResult H' (Go.builtin .clear ts ty consts ⟨[x']⟩) := by
     intro hn0 p' c' hx' hρ
     subst hn0 hx'
     obtain ⟨em, hem⟩ := hρ
     have hst' : storeAt H p [] = some H' := hst
     have hsp : p.spot = none := by
      unfold storeAt at hst'
      rw [chk_eq] at hst'
      exact noSpot_eq.1 hst'.1
     obtain ⟨w', hrun, hH', hSt⟩ := hH.store (a' := ⟨em.B, em.base + p.off, none⟩) ⟨em, hem, hsp, rfl⟩ hst' .nil (by simp) S
     have e0 : Result.ok () w = Result.ok () w' := hrun
     cases e0
     refine ⟨noResult, w, run_v ?_, ρ, .tuple .nil, hH', hSt⟩
     simp [Builtin.clear_, ht0, run_und hE hd]
     rfl
    cases h1 with
    | slice h0 hn hc =>
     by_cases hn0 : n = 0
     ·
      exact none0 hn0 _ _ rfl ⟨_, h0⟩
     ·
      exact fin _ _ ⟨_, h0, rfl, rfl⟩ rfl hn0
    | sliceU h0 hn hc =>
     by_cases hn0 : n = 0
     ·
      exact none0 hn0 _ _ rfl ⟨_, h0⟩
     ·
      exact fin _ _ ⟨_, h0, rfl, rfl⟩ rfl hn0
    | empty h0 hs0 => exact none0 rfl _ _ rfl ⟨_, h0⟩
   ·
    rename_i kt et r
    simp only [bnd_eq] at h'
    obtain ⟨es, hes, e'⟩ := h'
    cases e'
    cases h1 with
    | map he =>
     obtain ⟨hblk, es', hw, hEL⟩ := mapAt_ok hH hes he
     obtain ⟨h3, h4, h5⟩ := map_turn (S := S) hH hblk he hw (l := []) (l' := #[]) (c := es.2) .nil
     refine ⟨noResult, _, run_v ?_, ρ, .tuple .nil, h4, h5⟩
     simp [Builtin.clear_, ht0, run_und hE hd, run_getMap hw, h3]
     rfl
   ·
    cases h'
 | unsafeSliceData =>
  have h' : bSliceData env H id ts.toList args = some (v, H') := h
  unfold bSliceData at h'
  rw [bnd_eq] at h'
  obtain ⟨x, hx, h'⟩ := h'
  have := one_inv hx; subst this
  match args', hA with
  | [x'], .cons h1 .nil => exact data_ok hH h1 h'
 | unsafeString =>
  have h' : bString env H id ts.toList args = some (v, H') := h
  unfold bString at h'
  simp only [bnd_eq] at h'
  obtain ⟨t, ht, p, hp, q, hq, n, hn, h'⟩ := h'
  have := two_inv hp; subst this
  have hts := twoT_inv ht
  have hts' : ts = #[t.1, t.2] := by cases ts; simp at hts; rw [hts]
  subst hts'
  obtain ⟨p1, p2⟩ := p
  dsimp only at hq hn hA
  have hp1 : p1 = .pointer q := by
   cases p1 <;> first | (cases hq; done) | (cases hq; rfl)
  subst hp1
  match args', hA with
  | [x1, x2], .cons h1 (.cons h2 .nil) =>
   have hq' : ∃ q', x1 = .pointer q' /\ (q = none -> q' = none) /\ ∀ a, q = some a -> ∃ a', q' = some a' /\ AR ρ a a' := by
    cases q with
    | none => cases h1; exact ⟨none, rfl, fun _ => rfl, fun _ h => by cases h⟩
    | some a =>
     obtain ⟨a', e, hAR⟩ := h1.ptrInv
     exact ⟨some a', e, (fun h => by cases h), (fun b hb => by cases hb; exact ⟨a', rfl, hAR⟩)⟩
   obtain ⟨q', rfl, _, hq2⟩ := hq'
   have hi : ∃ ki, p2 = .int ki n := by
    cases p2 <;> first | (cases hn; done) | (cases hn; exact ⟨_, rfl⟩)
   obtain ⟨ki, rfl⟩ := hi
   have hx2 := h2.int_inv
   subst hx2
   cases n with
   | negSucc n => cases h'
   | ofNat k =>
    have hgo : ∀ r : Sem Value, (Builtin.unsafeString_ #[t.1, t.2] ty #[.pointer q', .int ki k]) = r -> True := fun _ _ => trivial
    have hk : Builtin.unsafeString_ #[t.1, t.2] ty #[.pointer q', .int ki k] = Builtin.unsafeString_ #[t.1, t.2] ty #[.pointer q', .int .i64 k] := rfl
    cases k with
    | zero =>
     cases h'
     refine .pure hH (v' := .string .empty) (run_v ?_) (.string _)
     show (Builtin.unsafeString_ #[t.1, t.2] ty #[.pointer q', .int ki (0 : Nat)]).run P w = _
     rw [hk]
     exact Lib.run_unsafeString_none w t.1 t.2 ty q'
    | succ k =>
     cases q with
     | none => cases h'
     | some a =>
      obtain ⟨a', rfl, hAR⟩ := hq2 a rfl
      obtain ⟨v', w', hrun, hP⟩ := seal_ok (it := t.2) (ty := ty) hE hH hAR (Nat.succ_ne_zero k) h'
      refine ⟨v', w', run_v ?_, hP⟩
      show (Builtin.unsafeString_ #[t.1, t.2] ty #[.pointer (some a'), .int ki (k + 1 : Nat)]).run P w = _
      rw [hk]
      exact hrun
 | _ => cases h
end
end Go.Ev
