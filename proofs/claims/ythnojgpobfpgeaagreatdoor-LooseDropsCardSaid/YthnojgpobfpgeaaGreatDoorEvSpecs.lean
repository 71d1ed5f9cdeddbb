/- Contracts out of tables: a function that looks at plain values alone is run once for each. -/
import Derived.Test.YthnojgpobfpgeaaGreatDoorEvEnv
import Derived.Laws.IdiomRangeMap
namespace Go.Ev
open Go.RowKit
variable [Sg]
noncomputable def flat (v : Value) : Bool :=
 match v with
 | .agg cs => allPlain cs.toList
 | .tuple cs => allPlain cs.toList
 | v => plain v
theorem plain_inv {ρ : Map} {v v' : Value} (hp : plain v = true) (h : V ρ v v') : v' = v := by
 cases h <;> first | rfl | (cases hp; done)
theorem allPlain_inv {ρ : Map} : ∀ {l l' : List Value}, allPlain l = true -> VL ρ l l' -> l' = l
 | [], _, _, .nil => rfl
 | x :: l, x' :: l', h, .cons hx ht => by
  have h' : ifB (plain x) (allPlain l) false = true := h
  cases hp : plain x with
  | false => rw [hp, ifB_false] at h'; cases h'
  | true =>
   rw [hp, ifB_true] at h'
   rw [plain_inv hp hx, allPlain_inv h' ht]
theorem flat_inv {ρ : Map} {v v' : Value} (hf : flat v = true) (h : V ρ v v') : v' = v := by
 cases v with
 | agg cs =>
  cases h with
  | agg ha _ => rw [allPlain_inv hf ha]
 | tuple cs =>
  cases h with
  | tuple ha => rw [allPlain_inv hf ha]
 | _ => exact plain_inv hf h
theorem flat_V {ρ : Map} {v : Value} (hf : flat v = true) : V ρ v v := by
 cases v with
 | agg cs => exact .agg (allPlain_V (ρ := ρ) (l := cs.toList) hf).1 (allPlain_V (ρ := ρ) (l := cs.toList) hf).2
 | tuple cs => exact .tuple (allPlain_V (ρ := ρ) (l := cs.toList) hf).1
 | _ => exact .plain hf
section
variable {P : Program}
theorem frame_post {ρ0 ρ : Map} {H0 H H1 : Heap} {w : World} {v : Value} (hH : HR P ρ H w) (hw : ∀ B, ¬ Wr ρ0 H0 B) (hf : flat v = true) {S0 S : Nat -> Prop} {v' : Value} {w' : World}
  (h : Post P S0 ρ0 H0 w v H1 v' w') : Post P S ρ H w v H v' w' := by
 obtain ⟨ρ', hV, hR, hS⟩ := h
 have hb : ∀ B, B < w.heap.size -> w'.heap[B]? = w.heap[B]? := fun B hB => hS.keep B hB (hw B)
 refine ⟨ρ, ?_, ⟨fun b x e h1 h2 => ?_, hH.inj, hH.dom, hH.lim, hH.top⟩, ⟨fun _ => .inl rfl, hS.os, hS.tape, hS.output, hS.size, fun B hB _ => hb B hB, fun _ _ h => h, Nat.le_refl _, fun _ _ h => h, fun _ _ _ => rfl, fun _ h _ => h⟩⟩
 ·
  rw [flat_inv hf hV]; exact flat_V hf
 ·
  have h3 := hH.blk b x e h1 h2
  rw [hb]
  ·
   exact h3
  ·
   rcases Nat.lt_or_ge e.B w.heap.size with h | h
   ·
    exact h
   ·
    rw [Array.getElem?_eq_none h] at h3; cases h3
omit [Sg] in
theorem no_Wr {H : Heap} (B : Nat) : ¬ Wr (fun _ => none) H B := fun ⟨_, _, _, _, h, _⟩ => by cases h
end
end Go.Ev
namespace Go.Proofs
theorem next_tape {P : Program} {w w' : World} {v : Value} {ty : TypeId} {r bm since c0 : Nat} {seen : Array Nat} {es : Array MapEntry} {clock : Nat} (hr : w.heap[r]? = some (.mapIter (some bm) since seen c0)) (hb : w.heap[bm]? = some (.map es clock))
  (h : (Instr.next (.pointer (some ⟨r, 0, none⟩)) false ty).run P w = .ok v w') : w'.tape = w.tape := by
 have hset : ∀ (x : Obj) (w1 : World), w1.heap = w.heap -> (setObj r x).run P w1 = .ok () { w1 with heap := w1.heap.setIfInBounds r x } := fun x w1 e => by
  simp only [setObj, Sem.run, e, hr]
 simp only [Instr.next, getObj, Sem.run_bind, Sem.run, hr, hb, Result.andThen] at h
 split at h
 ·
  cases h
 ·
  have hc : ∀ q, ∃ n w1, (choose q).run P w = .ok n w1 /\ w1.heap = w.heap /\ w1.tape = w.tape := by
   intro q
   unfold choose Sem.run
   split
   ·
    exact ⟨_, _, rfl, rfl, rfl⟩
   ·
    exact ⟨_, _, rfl, rfl, rfl⟩
  generalize hq : (Question.mapNext _) = q at h
  obtain ⟨n, w1, h1, h2, h3⟩ := hc q
  rw [Sem.run_bind, h1] at h
  dsimp only [Result.andThen] at h
  split at h
  ·
   simp only [Sem.run_bind, hset _ _ h2, Result.andThen, Sem.run_pure] at h
   cases h; exact h3
  ·
   cases h; exact h3
  ·
   cases h
end Go.Proofs
namespace Go.Ev
open Go.RowKit
variable [Sg]
def Enters (P : Program) (f : FuncId) : Prop := ∀ args w, (callFunc f args).run P w = .ok (.enter f args) w
omit [Sg] in
theorem below_alike {w w1 : World} {o : Obj} (h : w1.Alike w) (ht : w1.tape = w.tape) : Below w.heap.size w (w1.alloc o) :=
 ⟨h.2.1, ht, h.2.2, by show _ <= (w1.heap.push o).size; rw [Array.size_push, h.1]; omega, fun k hk => (Below.heap_alloc w1 o k (by rw [h.1]; exact hk)).trans (by rw [h.1])⟩
theorem below_post {P : Program} {ρ : Map} {H : Heap} {w w' : World} {v : Value} {S : Nat -> Prop} (hH : HR P ρ H w) (hv : plain v = true) (hB : Below w.heap.size w w') : Post P S ρ H w v H v w' :=
 frame_post (ρ0 := fun _ => none) (H0 := Heap.empty) (S0 := fun _ => True) hH (fun B => no_Wr B) (by cases v <;> first | exact hv | (cases hv; done)) ⟨fun _ => none, .plain hv,
  ⟨fun b x e _ h => (by cases h), fun _ _ _ _ _ _ _ _ h => (by cases h), fun _ _ h => (by cases h), by show 0 <= _; omega, fun b _ => Heap.get_empty b⟩,
  ⟨fun _ => .inl rfl, hB.os, hB.tape, hB.output, hB.size, fun B hB' _ => hB.block B hB', fun B _ h => h, Nat.le_refl _, fun B _ h => h, fun _ _ _ => rfl, fun _ h _ => h⟩⟩
omit [Sg] in
theorem spec_calls {P : Program} {f : FuncId} (he : Enters P f) {args : Array Value} {w : World} {R : Value -> World -> Prop} (h : Calls P f args w fun e w' => ∃ v, e = .returned v /\ R v w') : Invokes P f args w R :=
 .inr ⟨he args w, h⟩
theorem HR.bump {P : Program} {ρ : Map} {H H1 : Heap} {w : World} {n : Nat} (hH : HR P ρ H w) (h : bump H n = some H1) (S : Nat -> Prop) : HR P ρ H1 w /\ Step S ρ H w ρ H1 w := by
 obtain ⟨b1, b2, b3⟩ := bump_inv h
 have hget : ∀ b, H1.get b = H.get b := fun b => by unfold Heap.get; rw [b1]
 refine ⟨⟨fun b x e h1 h2 => hH.blk b x e (by rw [<- hget]; exact h1) h2, fun b1 b2 x1 x2 e1 e2 g1 g2 => hH.inj b1 b2 x1 x2 e1 e2 (by rw [<- hget]; exact g1) (by rw [<- hget]; exact g2), fun b e hb => by rw [b2]; have := hH.dom b e hb; omega, b3, fun b hb => by rw [hget]; exact hH.top b (by omega)⟩,
  ⟨fun _ => .inl rfl, rfl, rfl, rfl, Nat.le_refl _, fun _ _ _ => rfl, fun B _ ⟨b, x, e, g1, g2⟩ => ⟨b, x, e, by rw [<- hget]; exact g1, g2⟩, by omega, fun B _ ⟨b, x, e, g1, g2⟩ => ⟨b, x, e, by rw [<- hget]; exact g1, g2⟩, fun b _ _ => hget b, fun b hb _ => by rw [hget]; exact hb⟩⟩
def cloneArg : Value -> Option (TypeId × Nat)
 | .iface t (.map (some r)) => some (t, r)
 | _ => none
noncomputable def sClone (args : List Value) (H : Heap) : Res := bnd (one args) fun x => bnd (cloneArg x) fun p => bnd (mapAt H p.2) fun es => bnd (bump H 1) fun H1 => fN H.next fun id => some (.iface p.1 (.map (some id)), H1.set id (.map es.1 es.2))
theorem clone_ok {P : Program} {f : FuncId} (hx : Ext P f Extern.MapsClone.clone) : SpecOk P f sClone := by
 intro args H v H' hs ρ w args' hA hH
 unfold sClone at hs
 simp only [bnd_eq, fN_eq] at hs
 obtain ⟨x, hx1, p, hp, es, hes, H1, hb, e⟩ := hs
 cases e
 have := one_inv hx1; subst this
 have hxp : x = .iface p.1 (.map (some p.2)) := by
  unfold cloneArg at hp
  split at hp
  ·
   cases hp; rfl
  ·
   cases hp
 subst hxp
 have hH1 := HR.bump hH hb (fun b => H.next <= b)
 have hid : ρ H.next = none := by
  cases h : ρ H.next with
  | none => rfl
  | some e => exact absurd (hH.dom _ _ h) (Nat.lt_irrefl _)
 have hlt : H.next < H1.next := by rw [(bump_inv hb).2.1]; omega
 match args', hA with
 | [_], .cons (.iface _ (.map hm)) .nil =>
  rename_i em
  obtain ⟨_, es', hwm, hEL⟩ := mapAt_ok hH hes hm
  obtain ⟨hH', hSt⟩ := hH1.1.fresh (S := fun b => H.next <= b) hid hlt (x := .map es.1 es.2) (e := ⟨w.heap.size, 0, 0, 0, 0⟩) (w' := w.alloc (.map es' es.2)) (Nat.le_refl _) (Nat.le_refl _) rfl rfl rfl (by simp) (by
   show BR P _ _ _ (w.alloc _).heap[w.heap.size]?
   rw [heap_alloc_new]
   exact .map (hEL.mono (by intro b e hb; unfold ins; rw [if_neg]; exact hb; rintro rfl; rw [hid] at hb; cases hb))) (fun k hk => Below.heap_alloc _ _ _ hk)
  refine .inl ⟨.iface p.1 (.map (some w.heap.size)), w.alloc (.map es' es.2), hx.run ?_, _, .iface _ (.map (e := ⟨w.heap.size, 0, 0, 0, 0⟩) (ins_same _ _ _)), hH', hH1.2.trans hSt⟩
  obtain ⟨msg, hdef⟩ : ∃ msg : Sem Value, Extern.MapsClone.clone #[.iface p.1 (.map (some em.B))] = (do
    let .map entries clock <- getObj em.B | msg
    pure (.iface p.1 (.map (some (<- newObj (.map entries clock)))))) := ⟨_, rfl⟩
  have hget : (getObj em.B).run P w = .ok (.map es' es.2) w := by simp [getObj, Sem.run, hwm]
  show (Extern.MapsClone.clone #[.iface p.1 (.map (some em.B))]).run P w = _
  rw [hdef]
  simp only [Sem.run_bind, hget, Result.andThen_ok, run_newObj, Sem.run_pure]
  rfl
noncomputable def ascB (clock : Nat) (l : List MapEntry) : Nat -> Bool :=
 List.rec (motive := fun _ => Nat -> Bool) (fun _ => true) (fun e _ ih lo => ifB (Nat.ble lo e.born && Nat.ble (Nat.succ e.born) clock) (ih (Nat.succ e.born)) false) l
theorem ascB_eq {ρ : Map} {clock : Nat} : ∀ {l l' : List MapEntry} {lo : Nat}, EL ρ l l' -> ascB clock l lo = true -> (∀ x ∈ l', lo <= x.born /\ x.born < clock) /\ (l'.map (·.born)).Nodup
 | _, _, _, .nil, _ => ⟨(fun _ h => by cases h), List.nodup_nil⟩
 | _, _, lo, .cons (n := n) (l := l) hk hv ht, h => by
  have h' : ifB (Nat.ble lo n && Nat.ble (Nat.succ n) clock) (ascB clock l (Nat.succ n)) false = true := h
  cases hb : (Nat.ble lo n && Nat.ble (Nat.succ n) clock) with
  | false => rw [hb] at h'; cases h'
  | true =>
   rw [hb, ifB_true] at h'
   rw [Bool.and_eq_true] at hb
   have h1 := Nat.le_of_ble_eq_true hb.1
   have h2 := Nat.le_of_ble_eq_true hb.2
   obtain ⟨i1, i2⟩ := ascB_eq ht h'
   refine ⟨fun x hx => ?_, ?_⟩
   ·
    rcases List.mem_cons.1 hx with rfl | hx
    ·
     exact ⟨h1, h2⟩
    ·
     have := i1 x hx; omega
   ·
    rw [List.map_cons]
    refine List.nodup_cons.2 ⟨fun hm => ?_, i2⟩
    obtain ⟨x, hx, e⟩ := List.mem_map.1 hm
    have := i1 x hx
    dsimp only at e; omega
def keyBytesOf : Value -> List UInt8
 | .string s => s.data.toList
 | _ => []
def natI64 : Value -> Option Nat
 | .int .i64 (.ofNat k) => some k
 | _ => none
noncomputable def strAt (cs : List Value) (i : Nat) : Option (List UInt8) := bnd (nthL i cs) strOf
noncomputable def sumLen (cs : List Value) (n : Nat) (l : List MapEntry) : Option Nat :=
 List.rec (motive := fun _ => Option Nat) (some 0) (fun e _ ih => bnd (natI64 e.val) fun k => chk (Nat.ble (Nat.succ k) n) (bnd (strAt cs (Nat.add (Nat.mul k 3) 1)) fun s => bnd ih fun t => some (Nat.add (lenL s) t))) l
def usedParts : List Value -> Option (Value × Option Addr × Nat)
 | [m, _, _, .slice a n _] => some (m, a, n)
 | _ => none
noncomputable def gOf (cs : List Value) (k : Nat) : ByteArray := ⟨⟨(strAt cs (k * 3 + 1)).getD []⟩⟩
def lenNode (g : Nat -> ByteArray) : Value -> Int
 | .int _ k => (g k.toNat).size
 | _ => 0
omit [Sg] in
theorem natI64_inv {v : Value} {k : Nat} (h : natI64 v = some k) : v = .int .i64 k := by
 unfold natI64 at h
 split at h
 ·
  cases h; rfl
 ·
  cases h
theorem sumLen_eq {ρ : Map} {cs : List Value} {n : Nat} : ∀ {l l' : List MapEntry} {s : Nat}, EL ρ l l' -> sumLen cs n l = some s ->
  (∀ x ∈ l', ∃ k : Nat, k < n /\ x.val = .int .i64 k /\ ∃ b, strAt cs (k * 3 + 1) = some b) /\ (l'.map fun x => lenNode (gOf cs) x.val).sum = (s : Int)
 | _, _, _, .nil, h => by cases h; exact ⟨(fun _ h => by cases h), rfl⟩
 | _, _, s, .cons (v := v) (k := key) (n := b) (l := l) hk hv ht, h => by
  have h' : bnd (natI64 v) (fun k => chk (Nat.ble (Nat.succ k) n) (bnd (strAt cs (Nat.add (Nat.mul k 3) 1)) fun s => bnd (sumLen cs n l) fun t => some (Nat.add (lenL s) t))) = some s := h
  simp only [bnd_eq, chk_eq] at h'
  obtain ⟨k, hk1, hlt, b, hb, t, ht1, e⟩ := h'
  cases e
  have := natI64_inv hk1; subst this
  have hb' : strAt cs (k * 3 + 1) = some b := hb
  obtain ⟨i1, i2⟩ := sumLen_eq ht ht1
  refine ⟨fun x hx => ?_, ?_⟩
  ·
   rcases List.mem_cons.1 hx with rfl | hx
   ·
    exact ⟨k, Nat.le_of_ble_eq_true hlt, hv.int_inv, b, hb'⟩
   ·
    exact i1 x hx
  ·
   rw [List.map_cons, List.sum_cons, i2]
   dsimp only
   rw [hv.int_inv]
   have : lenNode (gOf cs) (.int .i64 (k : Int)) = (b.length : Int) := by
    show (((gOf cs k).size : Nat) : Int) = _
    unfold gOf
    rw [hb']
    simp [ByteArray.size]
   rw [this, lenL_eq]
   simp
noncomputable def sOr (a b : List Value -> Heap -> Res) (args : List Value) (H : Heap) : Res := Option.rec (motive := fun _ => Res) (b args H) (fun r => some r) (a args H)
theorem SpecOk.or {P : Program} {f : FuncId} {a b : List Value -> Heap -> Res} (ha : SpecOk P f a) (hb : SpecOk P f b) : SpecOk P f (sOr a b) := by
 intro args H v H' h
 unfold sOr at h
 cases hr : a args H with
 | none => rw [hr] at h; exact hb args H v H' h
 | some r => rw [hr] at h; cases h; exact ha args H v H' hr
end Go.Ev
