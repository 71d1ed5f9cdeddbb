/- Contracts of functions that range over a map: from their walks. -/
import Derived.Test.YtildicgoadiodaaGreatDoorEvEnv
import Derived.Test.YtildicgoadiodaaGreatDoorTN
/-! Contracts of functions that range over a map: from their walks. -/
namespace Go.Ev
open Go.RowKit
variable [Sg]

def Enters (P : Program) (f : FuncId) : Prop := ∀ args w, (callFunc f args).run P w = .ok (.enter f args) w

omit [Sg] in
theorem below_alike {w w1 : World} {o : Obj} (h : w1.Alike w) (ht : w1.tape = w.tape) : Below w.heap.size w (w1.alloc o) :=
  ⟨h.2.1, ht, h.2.2, by show _ ≤ (w1.heap.push o).size; rw [Array.size_push, h.1]; omega, fun k hk => (Below.heap_alloc w1 o k (by rw [h.1]; exact hk)).trans (by rw [h.1])⟩

/-- Nothing that lay there has turned, and the answer is plain. -/
theorem below_post {P : Program} {ρ : Map} {H : Heap} {w w' : World} {v : Value} {S : Nat → Prop} (hH : HR P ρ H w) (hv : plain v = true) (hB : Below w.heap.size w w') : Post P S ρ H w v H v w' :=
  frame_post (ρ0 := fun _ => none) (H0 := Heap.empty) (S0 := fun _ => True) hH (fun B => no_Wr B) (by cases v <;> first | exact hv | (cases hv; done)) ⟨fun _ => none, .plain hv,
    ⟨fun b x e _ h => (by cases h), fun _ _ _ _ _ _ _ _ h => (by cases h), fun _ _ h => (by cases h), by show 0 ≤ _; omega, fun b _ => Heap.get_empty b⟩,
    ⟨fun _ => .inl rfl, hB.os, hB.tape, hB.output, hB.size, fun B hB' _ => hB.block B hB', fun B _ h => h, Nat.le_refl _, fun B _ h => h, fun _ _ _ => rfl, fun _ h _ => h⟩⟩

omit [Sg] in
theorem spec_calls {P : Program} {f : FuncId} (he : Enters P f) {args : Array Value} {w : World} {R : Value → World → Prop} (h : Calls P f args w fun e w' => ∃ v, e = .returned v ∧ R v w') : Invokes P f args w R :=
  .inr ⟨he args w, h⟩

theorem HR.bump {P : Program} {ρ : Map} {H H1 : Heap} {w : World} {n : Nat} (hH : HR P ρ H w) (h : bump H n = some H1) (S : Nat → Prop) : HR P ρ H1 w ∧ Step S ρ H w ρ H1 w := by
  obtain ⟨b1, b2, b3⟩ := bump_inv h
  have hget : ∀ b, H1.get b = H.get b := fun b => by unfold Heap.get; rw [b1]
  refine ⟨⟨fun b x e h1 h2 => hH.blk b x e (by rw [← hget]; exact h1) h2, fun b1 b2 x1 x2 e1 e2 g1 g2 => hH.inj b1 b2 x1 x2 e1 e2 (by rw [← hget]; exact g1) (by rw [← hget]; exact g2), fun b e hb => by rw [b2]; have := hH.dom b e hb; omega, b3, fun b hb => by rw [hget]; exact hH.top b (by omega)⟩,
    ⟨fun _ => .inl rfl, rfl, rfl, rfl, Nat.le_refl _, fun _ _ _ => rfl, fun B _ ⟨b, x, e, g1, g2⟩ => ⟨b, x, e, by rw [← hget]; exact g1, g2⟩, by omega, fun B _ ⟨b, x, e, g1, g2⟩ => ⟨b, x, e, by rw [← hget]; exact g1, g2⟩, fun b _ _ => hget b, fun b hb _ => by rw [hget]; exact hb⟩⟩

/-! ### maps.clone -/
def cloneArg : Value → Option (TypeId × Nat)
  | .iface t (.map (some r)) => some (t, r)
  | _ => none
noncomputable def sClone (args : List Value) (H : Heap) : Res := bnd (one args) fun x => bnd (cloneArg x) fun p => bnd (mapAt H p.2) fun es => bnd (bump H 1) fun H1 => fN H.next fun id => some (.iface p.1 (.map (some id)), H1.set id (.map es.1 es.2))

theorem clone_ok {P : Program} {f : FuncId} (hx : Ext P f Extern.MapsClone.clone) : SpecOk P f sClone := by
  intro args H v H' hs ρ w args' hA hH
  unfold sClone at hs
  simp only [bnd_eq, fN_eq] at hs
  obtain ⟨x, hx1, p, hp, es, hes, H1, hb, e⟩ := hs
  cases e
  have := one_inv hx1; subst this
  have hxp : x = .iface p.1 (.map (some p.2)) := by
    unfold cloneArg at hp
    split at hp
    · cases hp; rfl
    · cases hp
  subst hxp
  have hH1 := HR.bump hH hb (fun b => H.next ≤ b)
  have hid : ρ H.next = none := by
    cases h : ρ H.next with
    | none => rfl
    | some e => exact absurd (hH.dom _ _ h) (Nat.lt_irrefl _)
  have hlt : H.next < H1.next := by rw [(bump_inv hb).2.1]; omega
  match args', hA with
  | [_], .cons (.iface _ (.map hm)) .nil =>
    rename_i em
    obtain ⟨_, es', hwm, hEL⟩ := mapAt_ok hH hes hm
    obtain ⟨hH', hSt⟩ := hH1.1.fresh (S := fun b => H.next ≤ b) hid hlt (x := .map es.1 es.2) (e := ⟨w.heap.size, 0, 0, 0, 0⟩) (w' := w.alloc (.map es' es.2)) (Nat.le_refl _) (Nat.le_refl _) rfl rfl rfl (by simp) (by
      show BR P _ _ _ (w.alloc _).heap[w.heap.size]?
      rw [heap_alloc_new]
      exact .map (hEL.mono (by intro b e hb; unfold ins; rw [if_neg]; exact hb; rintro rfl; rw [hid] at hb; cases hb))) (fun k hk => Below.heap_alloc _ _ _ hk)
    refine .inl ⟨.iface p.1 (.map (some w.heap.size)), w.alloc (.map es' es.2), hx.run ?_, _, .iface _ (.map (e := ⟨w.heap.size, 0, 0, 0, 0⟩) (ins_same _ _ _)), hH', hH1.2.trans hSt⟩
    obtain ⟨msg, hdef⟩ : ∃ msg : Sem Value, Extern.MapsClone.clone #[.iface p.1 (.map (some em.B))] = (do
        let .map entries clock ← getObj em.B | msg
        pure (.iface p.1 (.map (some (← newObj (.map entries clock)))))) := ⟨_, rfl⟩
    have hget : (getObj em.B).run P w = .ok (.map es' es.2) w := by simp [getObj, Sem.run, hwm]
    show (Extern.MapsClone.clone #[.iface p.1 (.map (some em.B))]).run P w = _
    rw [hdef]
    simp only [Sem.run_bind, hget, Result.andThen_ok, run_newObj, Sem.run_pure]
    rfl

/-! ### Maps whose keys are strings -/
noncomputable def strKeysOf (l : List MapEntry) : Option (List (List UInt8)) :=
  List.rec (motive := fun _ => Option (List (List UInt8))) (some []) (fun e _ ih => bnd (strOf e.key) fun s => bnd ih fun r => some (s :: r)) l
noncomputable def memS (s : List UInt8) (l : List (List UInt8)) : Bool := List.rec (motive := fun _ => Bool) false (fun a _ ih => ifB (same s a) true ih) l
noncomputable def distinctS (l : List (List UInt8)) : Bool := List.rec (motive := fun _ => Bool) true (fun a t ih => ifB (memS a t) false ih) l
noncomputable def ascB (clock : Nat) (l : List MapEntry) : Nat → Bool :=
  List.rec (motive := fun _ => Nat → Bool) (fun _ => true) (fun e _ ih lo => ifB (Nat.ble lo e.born && Nat.ble (Nat.succ e.born) clock) (ih (Nat.succ e.born)) false) l

omit [Sg] in
theorem memS_eq (s : List UInt8) : ∀ l, memS s l = true ↔ s ∈ l
  | [] => by simp [memS]
  | a :: l => by
    show ifB (same s a) true (memS s l) = true ↔ _
    rw [same_eq, ifB_eq, List.mem_cons]
    split
    · rename_i h; simp [beq_iff_eq.1 h]
    · rename_i h
      rw [memS_eq s l]
      simp at h
      simp [h]

omit [Sg] in
theorem distinctS_eq : ∀ {l}, distinctS l = true → l.Nodup
  | [], _ => List.nodup_nil
  | a :: l, h => by
    have h' : ifB (memS a l) false (distinctS l) = true := h
    cases hm : memS a l with
    | true => rw [hm] at h'; cases h'
    | false =>
      rw [hm, ifB_false] at h'
      refine List.nodup_cons.2 ⟨fun hmem => ?_, distinctS_eq h'⟩
      rw [(memS_eq a l).2 hmem] at hm; cases hm

theorem ascB_eq {ρ : Map} {clock : Nat} : ∀ {l l' : List MapEntry} {lo : Nat}, EL ρ l l' → ascB clock l lo = true → (∀ x ∈ l', lo ≤ x.born ∧ x.born < clock) ∧ (l'.map (·.born)).Nodup
  | _, _, _, .nil, _ => ⟨(fun _ h => by cases h), List.nodup_nil⟩
  | _, _, lo, .cons (n := n) (l := l) hk hv ht, h => by
    have h' : ifB (Nat.ble lo n && Nat.ble (Nat.succ n) clock) (ascB clock l (Nat.succ n)) false = true := h
    cases hb : (Nat.ble lo n && Nat.ble (Nat.succ n) clock) with
    | false => rw [hb] at h'; cases h'
    | true =>
      rw [hb, ifB_true] at h'
      rw [Bool.and_eq_true] at hb
      have h1 := Nat.le_of_ble_eq_true hb.1
      have h2 := Nat.le_of_ble_eq_true hb.2
      obtain ⟨i1, i2⟩ := ascB_eq ht h'
      refine ⟨fun x hx => ?_, ?_⟩
      · rcases List.mem_cons.1 hx with rfl | hx
        · exact ⟨h1, h2⟩
        · have := i1 x hx; omega
      · rw [List.map_cons]
        refine List.nodup_cons.2 ⟨fun hm => ?_, i2⟩
        obtain ⟨x, hx, e⟩ := List.mem_map.1 hm
        have := i1 x hx
        dsimp only at e; omega

theorem strKeysOf_eq {ρ : Map} : ∀ {l l' : List MapEntry} {ks : List (List UInt8)}, EL ρ l l' → strKeysOf l = some ks → l'.map (·.key) = ks.map str
  | _, _, _, .nil, h => by cases h; rfl
  | _, _, ks, .cons (k := k) (n := n) (v := v) (l := l) hk hv ht, h => by
    have h' : bnd (strOf k) (fun s => bnd (strKeysOf l) fun r => some (s :: r)) = some ks := h
    simp only [bnd_eq] at h'
    obtain ⟨s, hs, r, hr, e⟩ := h'
    cases e
    have hk' : ∃ q, k = .string q ∧ s = q.data.toList := by
      cases k with
      | string q => simp [strOf] at hs; exact ⟨q, rfl, hs.symm⟩
      | _ => simp [strOf] at hs
    obtain ⟨q, rfl, rfl⟩ := hk'
    rw [List.map_cons, List.map_cons, strKeysOf_eq ht hr]
    congr 1
    exact hk.string_inv

omit [Sg] in
theorem str_inj {a b : List UInt8} (h : str a = str b) : a = b := by
  unfold str at h
  simpa using h

/-- What a map owes to its walk. -/
noncomputable def goodMap (es : List MapEntry) (clock : Nat) (ks : List (List UInt8)) : Bool := ascB clock es 0 && distinctS ks
theorem goodMap_ok {ρ : Map} {l : List MapEntry} {es' : Array MapEntry} {clock : Nat} {ks : List (List UInt8)} (hE : EL ρ l es'.toList) (hk : strKeysOf l = some ks) (h : goodMap l clock ks = true) : MapKept.Stamped es' clock := by
  unfold goodMap at h
  rw [Bool.and_eq_true] at h
  obtain ⟨h1, h2⟩ := ascB_eq hE h.1
  refine ⟨fun x hx => (h1 x hx).2, h2, ?_⟩
  rw [strKeysOf_eq hE hk]
  have := distinctS_eq h.2
  exact this.map str (fun a b hab h => hab (str_inj h))

/-! ### (names).kids -/
noncomputable def pfx (p : List UInt8) : List UInt8 → Bool :=
  List.rec (motive := fun _ => List UInt8 → Bool) (fun _ => true) (fun a _ ih s => List.rec (motive := fun _ => Bool) false (fun b t _ => ifB (Nat.beq a.toNat b.toNat) (ih t) false) s) p
omit [Sg] in
theorem pfx_eq : ∀ (p s : List UInt8), pfx p s = p.isPrefixOf s
  | [], s => by cases s <;> rfl
  | a :: p, [] => rfl
  | a :: p, b :: s => by
    show ifB (Nat.beq a.toNat b.toNat) (pfx p s) false = _
    rw [pfx_eq p s, beq_u8, List.isPrefixOf]
    cases a == b <;> rfl
noncomputable def anyPfx (p : List UInt8) (ks : List (List UInt8)) : Bool := List.rec (motive := fun _ => Bool) false (fun a _ ih => ifB (pfx p a) true ih) ks
omit [Sg] in
theorem anyPfx_eq (p : List UInt8) : ∀ ks, anyPfx p ks = ks.any fun k => Lib.hasPrefix k p
  | [] => rfl
  | a :: ks => by
    show ifB (pfx p a) true (anyPfx p ks) = _
    rw [pfx_eq, anyPfx_eq p ks, List.any_cons, ifB_eq]
    unfold Lib.hasPrefix
    cases p.isPrefixOf a <;> rfl
def keyBytesOf : Value → List UInt8
  | .string s => s.data.toList
  | _ => []
omit [Sg] in
theorem any_keys (f : List UInt8 → Bool) : ∀ {l : List MapEntry} {ks : List (List UInt8)}, l.map (·.key) = ks.map str → (l.any fun x => f (keyBytesOf x.key)) = ks.any f
  | [], [], _ => rfl
  | [], _ :: _, h => by cases h
  | _ :: _, [], h => by cases h
  | x :: l, k :: ks, h => by
    rw [List.map_cons, List.map_cons] at h
    obtain ⟨h1, h2⟩ := List.cons.inj h
    rw [List.any_cons, List.any_cons, any_keys f h2, h1]
    rfl

noncomputable def sKids (args : List Value) (H : Heap) : Res := bnd (two args) fun p => bnd (mapRef p.1) fun r => bnd r fun r => bnd (strOf p.2) fun s => bnd (mapAt H r) fun es => bnd (strKeysOf es.1) fun ks =>
  chk (goodMap es.1 es.2 ks && Nat.ble (lenL s) 1099511627776) (some (.bool (anyPfx (appL s [47]) ks), H))

theorem kids_ok {P : Program} {f : FuncId} (he : Enters P f)
    (hw : ∀ (bm : Nat) (es : Array MapEntry) (clock : Nat) (p : ByteArray) (_ : ¬ 9223372036854775807 < p.size + 1) (w : World) (_ : w.heap[bm]? = some (.map es clock)) (_ : MapKept.Stamped es clock) (_ : ∀ x ∈ es.toList, ∃ v, x.key = .string v),
      Calls P f #[.map (some bm), .string p] w fun e w' => e = .returned (.bool (es.toList.any fun x => Lib.hasPrefix (keyBytesOf x.key) (p ++ ⟨#[47]⟩ : ByteArray).data.toList)) ∧
        ∃ (w1 : World) (seen : Array Nat), (w1.Alike w ∧ w1.tape = w.tape) ∧ w' = w1.alloc (.mapIter (some bm) clock seen clock)) : SpecOk P f sKids := by
  intro args H v H' hs ρ w args' hA hH
  unfold sKids at hs
  simp only [bnd_eq, chk_eq, Bool.and_eq_true] at hs
  obtain ⟨⟨m, x⟩, hp, r0, hr0, r, hr, s, hss, es, hes, ks, hks, ⟨hg, hlen⟩, e⟩ := hs
  cases e
  have := two_inv hp; subst this
  subst hr
  dsimp only at hr0 hss hA
  have := mapRef_inv hr0; subst this
  have hx : ∃ q, x = .string q ∧ s = q.data.toList := by
    cases x with
    | string q => simp [strOf] at hss; exact ⟨q, rfl, hss.symm⟩
    | _ => simp [strOf] at hss
  obtain ⟨q, rfl, rfl⟩ := hx
  match args', hA with
  | [_, _], .cons (.map hm) (.cons h2 .nil) =>
    rw [h2.string_inv]
    rename_i em
    obtain ⟨_, es', hwm, hEL⟩ := mapAt_ok hH hes hm
    have hst := goodMap_ok hEL hks hg
    have hkeys := strKeysOf_eq hEL hks
    have hlen' := Nat.le_of_ble_eq_true hlen
    rw [lenL_eq] at hlen'
    have hqs : q.size = q.data.toList.length := by simp
    refine spec_calls he (Calls.mono (hw em.B es' es.2 q (by omega) w hwm hst fun y hy => ?_) ?_)
    · have : y.key ∈ es'.toList.map (·.key) := List.mem_map.2 ⟨y, hy, rfl⟩
      rw [hkeys] at this
      obtain ⟨k, _, e⟩ := List.mem_map.1 this
      exact ⟨⟨⟨k⟩⟩, e.symm⟩
    · rintro e w' ⟨rfl, w1, seen, ⟨hal, htp⟩, rfl⟩
      refine ⟨_, rfl, ?_⟩
      have hany : (es'.toList.any fun x => Lib.hasPrefix (keyBytesOf x.key) (q ++ ⟨#[47]⟩ : ByteArray).data.toList) = anyPfx (appL q.data.toList [47]) ks := by
        rw [anyPfx_eq, appL_eq]
        have hq : (q ++ ⟨#[47]⟩ : ByteArray).data.toList = q.data.toList ++ [47] := by simp [ByteArray.data_append]
        rw [hq]
        exact any_keys (fun k => Lib.hasPrefix k (q.data.toList ++ [47])) hkeys
      rw [hany]
      exact below_post hH rfl (below_alike hal htp)

/-! ### (FS).Used -/
def natI64 : Value → Option Nat
  | .int .i64 (.ofNat k) => some k
  | _ => none
noncomputable def strAt (cs : List Value) (i : Nat) : Option (List UInt8) := bnd (nthL i cs) strOf
noncomputable def sumLen (cs : List Value) (n : Nat) (l : List MapEntry) : Option Nat :=
  List.rec (motive := fun _ => Option Nat) (some 0) (fun e _ ih => bnd (natI64 e.val) fun k => chk (Nat.ble (Nat.succ k) n) (bnd (strAt cs (Nat.add (Nat.mul k 3) 1)) fun s => bnd ih fun t => some (Nat.add (lenL s) t))) l
def usedParts : List Value → Option (Value × Option Addr × Nat)
  | [m, _, _, .slice a n _] => some (m, a, n)
  | _ => none
noncomputable def sUsed (args : List Value) (H : Heap) : Res := bnd (one args) fun x => bnd (addrOf x) fun a => bnd (cellsAt H a 4) fun cs => bnd (usedParts cs) fun p => bnd (mapRef p.1) fun r => bnd r fun r => bnd p.2.1 fun nb =>
  bnd (mapAt H r) fun es => bnd (strKeysOf es.1) fun ks => bnd (cellsAt H nb (Nat.mul p.2.2 3)) fun nc => bnd (sumLen nc p.2.2 es.1) fun s => chk (goodMap es.1 es.2 ks && Nat.ble s 1099511627776 && Nat.ble 1 p.2.2) (some (goInt (.ofNat s), H))

noncomputable def gOf (cs : List Value) (k : Nat) : ByteArray := ⟨⟨(strAt cs (k * 3 + 1)).getD []⟩⟩
def lenNode (g : Nat → ByteArray) : Value → Int
  | .int _ k => (g k.toNat).size
  | _ => 0

omit [Sg] in
theorem natI64_inv {v : Value} {k : Nat} (h : natI64 v = some k) : v = .int .i64 k := by
  unfold natI64 at h
  split at h
  · cases h; rfl
  · cases h

theorem sumLen_eq {ρ : Map} {cs : List Value} {n : Nat} : ∀ {l l' : List MapEntry} {s : Nat}, EL ρ l l' → sumLen cs n l = some s →
    (∀ x ∈ l', ∃ k : Nat, k < n ∧ x.val = .int .i64 k ∧ ∃ b, strAt cs (k * 3 + 1) = some b) ∧ (l'.map fun x => lenNode (gOf cs) x.val).sum = (s : Int)
  | _, _, _, .nil, h => by cases h; exact ⟨(fun _ h => by cases h), rfl⟩
  | _, _, s, .cons (v := v) (k := key) (n := b) (l := l) hk hv ht, h => by
    have h' : bnd (natI64 v) (fun k => chk (Nat.ble (Nat.succ k) n) (bnd (strAt cs (Nat.add (Nat.mul k 3) 1)) fun s => bnd (sumLen cs n l) fun t => some (Nat.add (lenL s) t))) = some s := h
    simp only [bnd_eq, chk_eq] at h'
    obtain ⟨k, hk1, hlt, b, hb, t, ht1, e⟩ := h'
    cases e
    have := natI64_inv hk1; subst this
    have hb' : strAt cs (k * 3 + 1) = some b := hb
    obtain ⟨i1, i2⟩ := sumLen_eq ht ht1
    refine ⟨fun x hx => ?_, ?_⟩
    · rcases List.mem_cons.1 hx with rfl | hx
      · exact ⟨k, Nat.le_of_ble_eq_true hlt, hv.int_inv, b, hb'⟩
      · exact i1 x hx
    · rw [List.map_cons, List.sum_cons, i2]
      dsimp only
      rw [hv.int_inv]
      have : lenNode (gOf cs) (.int .i64 (k : Int)) = (b.length : Int) := by
        show (((gOf cs k).size : Nat) : Int) = _
        unfold gOf
        rw [hb']
        simp [ByteArray.size]
      rw [this, lenL_eq]
      simp

theorem used_ok {P : Program} {f : FuncId} (he : Enters P f)
    (hw : ∀ (bm : Nat) (es : Array MapEntry) (clock : Nat) (fb fo nb no n c : Nat) (g : Nat → ByteArray) (w : World) (_ : w.heap[bm]? = some (.map es clock)) (_ : MapKept.Stamped es clock)
      (_ : w.cell? ⟨fb, fo, none⟩ = some (.map (some bm))) (_ : w.cell? ⟨fb, fo + 3, none⟩ = some (.slice (some ⟨nb, no, none⟩) n c))
      (_ : ∀ x ∈ es.toList, ∃ k : Nat, k < n ∧ x.val = .int .i64 k) (_ : ∀ k : Nat, (∃ x ∈ es.toList, x.val = .int .i64 k) → w.cell? ⟨nb, no + k * 3 + 1, none⟩ = some (.string (g k))),
      Calls P f #[.pointer (some ⟨fb, fo, none⟩)] w fun e w' => (∀ s : Nat, s ≤ 1099511627776 → (es.toList.map fun x => lenNode g x.val).sum = (s : Int) → e = .returned (.int .i64 s)) ∧
        ∃ (w1 : World) (seen : Array Nat), (w1.Alike w ∧ w1.tape = w.tape) ∧ w' = w1.alloc (.mapIter (some bm) clock seen clock)) : SpecOk P f sUsed := by
  intro args H v H' hs ρ w args' hA hH
  unfold sUsed at hs
  simp only [bnd_eq, chk_eq, Bool.and_eq_true] at hs
  obtain ⟨x, hx, a, ha, cs, hcs, p, hp, r0, hr0, r, hr, nb, hnb, es, hes, ks, hks, nc, hnc, s, hsum, ⟨⟨hg, hlim⟩, hn1⟩, e⟩ := hs
  cases e
  have := one_inv hx; subst this
  subst hr
  have := mapRef_inv hr0
  rw [addrOf_eq] at ha; subst ha
  obtain ⟨m, nb', n⟩ := p
  dsimp only at this hnb hnc hsum hn1
  have hn1' := Nat.le_of_ble_eq_true hn1
  subst this hnb
  match args', hA with
  | [x'], .cons h1 .nil =>
    obtain ⟨a', rfl, hAR⟩ := h1.ptrInv
    obtain ⟨cs', hVL, _, _, hcell⟩ := hH.load hAR hcs
    have hparts : ∃ c1 c2 c, cs = [.map (some r), c1, c2, .slice (some nb) n c] := by
      unfold usedParts at hp
      split at hp
      · cases hp; exact ⟨_, _, _, rfl⟩
      · cases hp
    obtain ⟨c1, c2, c, rfl⟩ := hparts
    match cs', hVL with
    | [_, _, _, sl], .cons (.map hm) (.cons _ (.cons _ (.cons hsl .nil))) =>
      obtain ⟨_, es', hwm, hEL⟩ := mapAt_ok hH hes hm
      have hst := goodMap_ok hEL hks hg
      obtain ⟨hvals, hsumEq⟩ := sumLen_eq hEL hsum
      have hc0 := hcell 0 _ rfl
      have hc3 := hcell 3 _ rfl
      obtain ⟨ea, hea, _, rfl⟩ := hAR
      rw [add_mk] at hc0 hc3
      have hslp : ∃ nb' cc, AR ρ nb nb' ∧ sl = .slice (some nb') n cc := by
        cases hsl with
        | slice h0 hn hc => exact ⟨_, _, ⟨_, h0, rfl, rfl⟩, rfl⟩
        | sliceU h0 hn hc => exact ⟨_, _, ⟨_, h0, rfl, rfl⟩, rfl⟩
        | empty h0 hs0 => omega
      obtain ⟨nb', cc, hAR2, rfl⟩ := hslp
      obtain ⟨nc', hVL2, _, _, hcell2⟩ := hH.load hAR2 hnc
      obtain ⟨en, hen, _, rfl⟩ := hAR2
      refine spec_calls he (Calls.mono (hw _ es' es.2 ea.B (ea.base + a.off) en.B (en.base + nb.off) n cc (gOf nc) w hwm hst hc0 hc3 (fun x hx => ?_) ?_) ?_)
      · obtain ⟨k, h1, h2, _⟩ := hvals x hx
        exact ⟨k, h1, h2⟩
      · intro k ⟨x, hx, hxv⟩
        obtain ⟨k', _, h2, b, hb⟩ := hvals x hx
        rw [hxv] at h2
        have : k = k' := by
          have := Value.int.inj h2
          exact_mod_cast this.2
        subst this
        have hb' : bnd (nthL (k * 3 + 1) nc) strOf = some b := hb
        rw [bnd_eq] at hb'
        obtain ⟨y, hy, hyb⟩ := hb'
        rw [nthL_eq] at hy
        have hyq : ∃ q, y = .string q ∧ b = q.data.toList := by
          cases y with
          | string q => simp [strOf] at hyb; exact ⟨q, rfl, hyb.symm⟩
          | _ => simp [strOf] at hyb
        obtain ⟨q, rfl, rfl⟩ := hyq
        obtain ⟨y', hy', hV⟩ := hVL2.get hy
        rw [hV.string_inv] at hy'
        have := hcell2 _ _ hy'
        rw [add_mk] at this
        have hgk : gOf nc k = q := by
          unfold gOf; rw [hb]; rfl
        rw [hgk, Nat.add_assoc]
        exact this
      · rintro e w' ⟨he', w1, seen, ⟨hal, htp⟩, rfl⟩
        have hlim' := Nat.le_of_ble_eq_true hlim
        exact ⟨_, he' s hlim' hsumEq, below_post hH rfl (below_alike hal htp)⟩

/-! ### Either of two contracts -/
noncomputable def sOr (a b : List Value → Heap → Res) (args : List Value) (H : Heap) : Res := Option.rec (motive := fun _ => Res) (b args H) (fun r => some r) (a args H)
theorem SpecOk.or {P : Program} {f : FuncId} {a b : List Value → Heap → Res} (ha : SpecOk P f a) (hb : SpecOk P f b) : SpecOk P f (sOr a b) := by
  intro args H v H' h
  unfold sOr at h
  cases hr : a args H with
  | none => rw [hr] at h; exact hb args H v H' h
  | some r => rw [hr] at h; cases h; exact ha args H v H' hr

/-! ### delta.blocks, at a text of no whole block -/
noncomputable def sBlocks (args : List Value) (H : Heap) : Res := bnd (one args) fun x => bnd (strOf x) fun s => chk (Nat.ble (lenL s) 15) (bnd (bump H 1) fun H1 => fN H.next fun id => some (.map (some id), H1.set id (.map [] 0)))
theorem blocks_ok {P : Program} {f : FuncId} (he : Enters P f)
    (hw : ∀ (s : ByteArray) (_ : s.size < 16) (w : World), Calls P f #[.string s] w fun e w' => ∃ m, e = .returned (.map (some m)) ∧ w.heap.size ≤ m ∧ w'.heap[m]? = some (.map #[] 0) ∧ Below w.heap.size w w') : SpecOk P f sBlocks := by
  intro args H v H' hs ρ w args' hA hH
  unfold sBlocks at hs
  simp only [bnd_eq, chk_eq, fN_eq] at hs
  obtain ⟨x, hx, s, hss, hlen, H1, hb, e⟩ := hs
  cases e
  have := one_inv hx; subst this
  have hxs : ∃ q, x = .string q ∧ s = q.data.toList := by
    cases x with
    | string q => simp [strOf] at hss; exact ⟨q, rfl, hss.symm⟩
    | _ => simp [strOf] at hss
  obtain ⟨q, rfl, rfl⟩ := hxs
  have hlen' := Nat.le_of_ble_eq_true hlen
  rw [lenL_eq] at hlen'
  have hqs : q.size = q.data.toList.length := by simp
  have hH1 := HR.bump hH hb (fun b => H.next ≤ b)
  have hid : ρ H.next = none := by
    cases h : ρ H.next with
    | none => rfl
    | some e => exact absurd (hH.dom _ _ h) (Nat.lt_irrefl _)
  have hlt : H.next < H1.next := by rw [(bump_inv hb).2.1]; omega
  match args', hA with
  | [_], .cons h1 .nil =>
    rw [h1.string_inv]
    refine spec_calls he (Calls.mono (hw q (by omega) w) ?_)
    rintro e w' ⟨m, rfl, hm, hheap, hB⟩
    obtain ⟨hH', hSt⟩ := hH1.1.fresh (S := fun b => H.next ≤ b) hid hlt (x := .map [] 0) (e := ⟨m, 0, 0, 0, 0⟩) (w' := w') (Nat.le_refl _) hm hB.os hB.tape hB.output hB.size (by
      show BR P _ _ _ w'.heap[m]?
      rw [hheap]; exact .map .nil) (fun k hk => hB.block k hk)
    exact ⟨_, rfl, _, .map (e := ⟨m, 0, 0, 0, 0⟩) (ins_same _ _ _), hH', hH1.2.trans hSt⟩
end Go.Ev
