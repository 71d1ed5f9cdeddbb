/- Memory: what is read, written and made. -/
import Derived.Test.YthnojgpobfpgeaaDoorEvRel
/-! Memory: what is read, written and made. -/
namespace Go.Ev
open Go.RowKit
variable [Sg]

omit [Sg] in
theorem isRw_eq {a : Acc} (h : isRw a = true) : a = .rw := by cases a <;> first | rfl | (cases h; done)

/-- Entries of a map, and the model's. -/
inductive EL (ρ : Map) : List MapEntry → List MapEntry → Prop
 | nil : EL ρ [] []
 | cons {k k' v v' : Value} {n : Nat} {l l' : List MapEntry} (hk : V ρ k k') (hv : V ρ v v') (t : EL ρ l l') : EL ρ (⟨k, v, n⟩ :: l) (⟨k', v', n⟩ :: l')

theorem EL.mono {ρ ρ' : Map} (hρ : Le ρ ρ') {l l' : List MapEntry} (h : EL ρ l l') : EL ρ' l l' := by
 induction h with
 | nil => exact .nil
 | cons hk hv _ ih => exact .cons (hk.mono hρ) (hv.mono hρ) ih

noncomputable def wr : Blk → Bool
 | .cells _ _ ro => isW ro
 | .box _ => false
 | _ => true

def win (C : Array Value) (e : Emb) : List Value := (C.toList.drop e.base).take e.size

/-- An abstract block, and what lies in the model's. -/
inductive BR (P : Program) (ρ : Map) (e : Emb) : Blk → Option Obj → Prop
 | cells {cs : List Value} {C : Array Value} {elem : TypeId} {ro : Acc} {fr : Nat × Nat} {i : TypeInfo} (hi : P.info? elem = some i) (hk : i.size = e.k)
   (hs : cs.length = e.size) (hr : e.size ≤ e.room) (hC : C.size = e.base + e.room) (hf : ro = .rw → ∀ j, j < C.size → ¬ (fr.1 ≤ j ∧ j < fr.2))
   (hv : VL ρ cs (win C e)) (h1 : ∀ v ∈ win C e, v.oneCell' = true) (hb : e.base % e.k = 0) : BR P ρ e (.cells cs elem ro) (some (.cells C elem fr))
 | map {es : List MapEntry} {es' : Array MapEntry} {clock : Nat} (h : EL ρ es es'.toList) : BR P ρ e (.map es clock) (some (.map es' clock))
 | iter {s : List UInt8} {s' : ByteArray} {pos : Nat} (hb : e.base = 0) (h : s'.data.toList.drop pos = s) : BR P ρ e (.iter s pos) (some (.stringIter s' pos))
 | box {v v' : Value} {t : TypeId} {fr : Nat × Nat} (hb : e.base = 0) (h : V ρ v v') : BR P ρ e (.box v) (some (.cells #[v'] t fr))
 | mitNil {a c : Nat} {s : List Nat} (hb : e.base = 0) : BR P ρ e (.mit none a s c) (some (.mapIter none a ⟨s⟩ c))
 | mit {m : Nat} {em : Emb} {a c : Nat} {s : List Nat} (hb : e.base = 0) (h : ρ m = some em) : BR P ρ e (.mit (some m) a s c) (some (.mapIter (some em.B) a ⟨s⟩ c))

theorem BR.mono {P : Program} {ρ ρ' : Map} (hρ : Le ρ ρ') {e : Emb} {x : Blk} {o : Option Obj} (h : BR P ρ e x o) : BR P ρ' e x o := by
 cases h with
 | cells hi hk hs hr hC hf hv h1 hb => exact .cells hi hk hs hr hC hf (hv.mono hρ) h1 hb
 | map h => exact .map (h.mono hρ)
 | iter hb h => exact .iter hb h
 | box hb h => exact .box hb (h.mono hρ)
 | mitNil hb => exact .mitNil hb
 | mit hb h => exact .mit hb (hρ _ _ h)

/-- The abstract memory stands for the model's. -/
structure HR (P : Program) (ρ : Map) (H : Heap) (w : World) : Prop where
 blk : ∀ b x e, H.get b = some x → ρ b = some e → BR P ρ e x w.heap[e.B]?
 inj : ∀ b1 b2 x1 x2 e1 e2, H.get b1 = some x1 → H.get b2 = some x2 → ρ b1 = some e1 → ρ b2 = some e2 → wr x1 = true → e1.B = e2.B → b1 = b2
 dom : ∀ b e, ρ b = some e → b < H.next
 lim : H.next ≤ 2 ^ 64
 top : ∀ b, H.next ≤ b → H.get b = none

/-- The model's blocks that may be written. -/
def Wr (ρ : Map) (H : Heap) (B : Nat) : Prop := ∃ b x e, H.get b = some x ∧ ρ b = some e ∧ e.B = B ∧ wr x = true

/-- The model's blocks that stand for some block. -/
def Mp (ρ : Map) (H : Heap) (B : Nat) : Prop := ∃ b x e, H.get b = some x ∧ ρ b = some e ∧ e.B = B

omit [Sg] in
theorem Heap.get_set_ne {H : Heap} {b c : Nat} {x : Blk} (h : c ≠ b) : (H.set b x).get c = H.get c := by
 show (getF none 5 c).f ((putF (Option Blk) 5 b).f (some x) H.blks) = _
 rw [getF_putF, if_neg h]; rfl
omit [Sg] in
theorem Heap.get_del_ne {H : Heap} {b c : Nat} (h : c ≠ b) : (H.del b).get c = H.get c := by
 show (getF none 5 c).f ((putF (Option Blk) 5 b).f none H.blks) = _
 rw [getF_putF, if_neg h]; rfl

/-- What a piece of a run may turn. S: the numbers that new abstract blocks may have. -/
structure Step (S : Nat → Prop) (ρ : Map) (H : Heap) (w : World) (ρ' : Map) (H' : Heap) (w' : World) : Prop where
 ext : ∀ b, ρ' b = ρ b ∨ (ρ b = none ∧ S b)
 os : w'.os = w.os
 tape : w'.tape = w.tape
 output : w'.output = w.output
 size : w.heap.size ≤ w'.heap.size
 keep : ∀ B, B < w.heap.size → ¬ Wr ρ H B → w'.heap[B]? = w.heap[B]?
 wr : ∀ B, B < w.heap.size → Wr ρ' H' B → Wr ρ H B
 next : H.next ≤ H'.next
 mp : ∀ B, B < w.heap.size → Mp ρ' H' B → Mp ρ H B
 abs1 : ∀ b, ρ b = none → ¬ S b → H'.get b = H.get b
 abs2 : ∀ b, H.get b = none → ¬ S b → H'.get b = none

omit [Sg] in
theorem Step.le {S : Nat → Prop} {ρ ρ' : Map} {H H' : Heap} {w w' : World} (h : Step S ρ H w ρ' H' w') : Le ρ ρ' := fun b e hb => by
 rcases h.ext b with h | ⟨h, _⟩
 ·
  rw [h]; exact hb
 ·
  rw [h] at hb; cases hb

omit [Sg] in
theorem Step.refl (S : Nat → Prop) (ρ : Map) (H : Heap) (w : World) : Step S ρ H w ρ H w :=
 ⟨fun _ => .inl rfl, rfl, rfl, rfl, Nat.le_refl _, fun _ _ _ => rfl, fun _ _ h => h, Nat.le_refl _, fun _ _ h => h, fun _ _ _ => rfl, fun _ h _ => h⟩

omit [Sg] in
theorem Step.trans {S : Nat → Prop} {ρ ρ' ρ'' : Map} {H H' H'' : Heap} {w w' w'' : World} (h : Step S ρ H w ρ' H' w') (k : Step S ρ' H' w' ρ'' H'' w'') : Step S ρ H w ρ'' H'' w'' := by
 refine ⟨fun b => ?_, k.os.trans h.os, k.tape.trans h.tape, k.output.trans h.output, Nat.le_trans h.size k.size, fun B hB hn => ?_, fun B hB hw => ?_, Nat.le_trans h.next k.next, fun B hB hm => h.mp B hB (k.mp B (Nat.lt_of_lt_of_le hB h.size) hm), fun b hb hs => ?_, fun b hb hs => k.abs2 b (h.abs2 b hb hs) hs⟩
 ·
  rcases k.ext b with e | ⟨e, s⟩
  ·
   rcases h.ext b with e' | ⟨e', s'⟩
   ·
    exact .inl (e.trans e')
   ·
    exact .inr ⟨e', s'⟩
  ·
   rcases h.ext b with e' | ⟨e', s'⟩
   ·
    exact .inr ⟨by rw [← e', e], s⟩
   ·
    exact .inr ⟨e', s'⟩
 ·
  have h1 := h.keep B hB hn
  rw [← h1]
  exact k.keep B (Nat.lt_of_lt_of_le hB h.size) fun hw => hn (h.wr B hB hw)
 ·
  exact h.wr B hB (k.wr B (Nat.lt_of_lt_of_le hB h.size) hw)
 ·
  rw [← h.abs1 b hb hs]
  refine k.abs1 b ?_ hs
  rcases h.ext b with e | ⟨_, s⟩
  ·
   rw [e]; exact hb
  ·
   exact (hs s).elim

omit [Sg] in
theorem Step.weaken {S S' : Nat → Prop} (hS : ∀ b, S b → S' b) {ρ ρ' : Map} {H H' : Heap} {w w' : World} (h : Step S ρ H w ρ' H' w') : Step S' ρ H w ρ' H' w' :=
 ⟨fun b => (h.ext b).imp id fun ⟨a, s⟩ => ⟨a, hS b s⟩, h.os, h.tape, h.output, h.size, h.keep, h.wr, h.next, h.mp, fun b hb hs => h.abs1 b hb fun s => hs (hS b s), fun b hb hs => h.abs2 b hb fun s => hs (hS b s)⟩

omit [Sg] in
/-- Where nothing could be written, all that was there is as it was. -/
theorem Step.below {S : Nat → Prop} {ρ ρ' : Map} {H H' : Heap} {w w' : World} (h : Step S ρ H w ρ' H' w') (hn : ∀ B, B < w.heap.size → ¬ Wr ρ H B) : Below w.heap.size w w' :=
 ⟨h.os, h.tape, h.output, h.size, fun B hB => h.keep B hB (hn B hB)⟩

/-! ### Addresses -/
def AR (ρ : Map) (a a' : Addr) : Prop := ∃ e, ρ a.block = some e ∧ a.spot = none ∧ a' = ⟨e.B, e.base + a.off, none⟩

theorem V.ptrInv {ρ : Map} {a : Addr} {v' : Value} (h : V ρ (.pointer (some a)) v') : ∃ a', v' = .pointer (some a') ∧ AR ρ a a' := by
 cases h with
 | ptr h => exact ⟨_, rfl, _, h, rfl, rfl⟩

theorem AR.val {ρ : Map} {a a' : Addr} (h : AR ρ a a') : V ρ (.pointer (some a)) (.pointer (some a')) := by
 obtain ⟨b, o, s⟩ := a
 obtain ⟨e, he, hs, rfl⟩ := h
 simp at hs; subst hs
 exact .ptr he

omit [Sg] in
theorem AR.move {ρ : Map} {a a' : Addr} (h : AR ρ a a') (n : Nat) : AR ρ (moveBy a n) (a'.add n) := by
 obtain ⟨e, he, hs, rfl⟩ := h
 refine ⟨e, ?_, ?_, ?_⟩
 ·
  unfold moveBy; cases n.beq 0 <;> exact he
 ·
  unfold moveBy; cases n.beq 0 <;> first | exact hs | rfl
 ·
  unfold moveBy Addr.add
  cases n with
  | zero => rfl
  | succ n =>
   have : Nat.beq (n + 1) 0 = false := rfl
   simp [this, Nat.add_assoc]

omit [Sg] in
theorem noSpot_eq {a : Addr} : noSpot a = true ↔ a.spot = none := by
 unfold noSpot; cases a.spot <;> simp

omit [Sg] in
theorem cellsOf_eq {x : Blk} {c : List Value × TypeId × Acc} : cellsOf x = some c ↔ x = .cells c.1 c.2.1 c.2.2 := by
 cases x <;> simp [cellsOf, Prod.ext_iff, eq_comm]

omit [Sg] in
theorem cell?_of {w : World} {B : Nat} {C : Array Value} {t : TypeId} {fr : Nat × Nat} (h : w.heap[B]? = some (.cells C t fr)) (o : Nat) : w.cell? ⟨B, o, none⟩ = C[o]? := by
 simp [World.cell?, h]

omit [Sg] in
theorem add_mk (B o j : Nat) : (⟨B, o, none⟩ : Addr).add j = ⟨B, o + j, none⟩ := by
 unfold Addr.add; split <;> simp_all

section load
variable {P : Program} {ρ : Map} {H : Heap} {w : World}

omit [Sg] in
theorem win_get {C : Array Value} {e : Emb} {i : Nat} {v : Value} (h : (win C e)[i]? = some v) : C[e.base + i]? = some v := by
 unfold win at h
 rw [List.getElem?_take] at h
 split at h
 ·
  rw [List.getElem?_drop] at h; simpa using h
 ·
  cases h

theorem HR.load (hH : HR P ρ H w) {a a' : Addr} (ha : AR ρ a a') {n : Nat} {l : List Value} (h : cellsAt H a n = some l) :
  ∃ l', VL ρ l l' ∧ (∀ v ∈ l', v.oneCell' = true) ∧ l'.length = n ∧ (∀ j v, l'[j]? = some v → w.cell? (a'.add j) = some v) := by
 obtain ⟨e, he, hs, rfl⟩ := ha
 unfold cellsAt at h
 rw [chk_eq] at h
 obtain ⟨_, h⟩ := h
 rw [bnd_eq] at h
 obtain ⟨x, hx, h⟩ := h
 rw [bnd_eq] at h
 obtain ⟨c, hc, h⟩ := h
 rw [cellsOf_eq] at hc
 rw [takeN_eq, dropL_eq] at h
 obtain ⟨hn, rfl⟩ := h
 have hb := hH.blk _ _ _ hx he
 subst hc
 generalize hg : w.heap[e.B]? = g at hb
 cases hb with
 | cells hi hk hs' hr hC hf hv h1 hmodb =>
  have hlen := hv.length
  refine ⟨((win _ e).drop a.off).take n, (hv.drop _).take _, fun v hm => h1 v (List.mem_of_mem_drop (List.mem_of_mem_take hm)), ?_, fun j v hj => ?_⟩
  ·
   simp only [List.length_take, List.length_drop] at hn ⊢; omega
  ·
   rw [add_mk, cell?_of hg, Nat.add_assoc]
   rw [List.getElem?_take] at hj
   split at hj
   ·
    rw [List.getElem?_drop] at hj; exact win_get hj
   ·
    cases hj

omit [Sg] in
theorem run_loadCells_of {a' : Addr} {l' : List Value} {n : Nat} (hl : l'.length = n) (h : ∀ j v, l'[j]? = some v → w.cell? (a'.add j) = some v) :
  (loadCells a' n).run P w = .ok ⟨l'⟩ w := by
 subst hl
 exact run_loadCells_list w a' l' h
end load

/-! ### Writing -/
def putRow (C : Array Value) (o : Nat) (vs : List Value) : Array Value := ⟨C.toList.take o ++ (vs ++ C.toList.drop (o + vs.length))⟩

omit [Sg] in
theorem set_at : ∀ (l : List Value) (o : Nat) (v : Value), o < l.length → l.set o v = l.take o ++ (v :: l.drop (o + 1))
 | [], _, _, h => by simp at h
 | _ :: _, 0, _, _ => rfl
 | a :: l, o + 1, v, h => by
  have := set_at l o v (by simpa using h)
  simp [this]

omit [Sg] in
/-- The model's storeCells, at a row that may be written. -/
theorem run_storeCells_row (P : Program) (B : Nat) (t : TypeId) (fr : Nat × Nat) (o : Nat) : ∀ (vs : List Value) (i : Nat) (C : Array Value) (w : World), w.heap[B]? = some (.cells C t fr) →
  o + i + vs.length ≤ C.size → (∀ j, j < C.size → ¬ (fr.1 ≤ j ∧ j < fr.2)) → (∀ v ∈ vs, v.oneCell' = true) →
  ∃ w', (storeCells ⟨B, o, none⟩ vs i).run P w = .ok () w' ∧ w'.os = w.os ∧ w'.tape = w.tape ∧ w'.output = w.output ∧ w'.heap.size = w.heap.size ∧
   w'.heap[B]? = some (.cells (putRow C (o + i) vs) t fr) ∧ ∀ k, k ≠ B → w'.heap[k]? = w.heap[k]?
 | [], i, C, w, hg, _, _, _ => ⟨w, rfl, rfl, rfl, rfl, rfl, by rw [hg]; simp [putRow], fun _ _ => rfl⟩
 | v :: r, i, C, w, hg, hn, hf, h1 => by
  simp only [List.length_cons] at hn
  have hlt : o + i < C.size := by omega
  have hcell : w.cell? ⟨B, o + i, none⟩ = some C[o + i] := by rw [cell?_of hg]; simp [hlt]
  have hfz : w.frozen? ⟨B, o + i, none⟩ = false := by
   have := hf (o + i) hlt
   simp only [World.frozen?, hg]
   simp; omega
  have hst : (store ((⟨B, o, none⟩ : Addr).add i) v).run P w = .ok () (w.setCell ⟨B, o + i, none⟩ v) := by
   rw [add_mk, run_store P w _ v _ (h1 v (by simp)), hcell]
   simp [hfz]
  have hB : B < w.heap.size := by
   rcases Nat.lt_or_ge B w.heap.size with h | h
   ·
    exact h
   ·
    rw [Array.getElem?_eq_none h] at hg; cases hg
  have hg' : (w.setCell ⟨B, o + i, none⟩ v).heap[B]? = some (.cells (C.set (o + i) v hlt) t fr) := by
   simp only [World.setCell]
   rw [Array.getElem?_modify, if_pos rfl, hg]
   simp [Array.setIfInBounds, hlt]
  have ih := run_storeCells_row P B t fr o r (i + 1) (C.set (o + i) v hlt) (w.setCell ⟨B, o + i, none⟩ v) hg' (by simp; omega) (by simpa using hf) (fun x hx => h1 x (by simp [hx]))
  obtain ⟨w', hrun, h2, h3, h4, h5, h6, h7⟩ := ih
  refine ⟨w', by simp only [storeCells, Sem.run_bind, hst, Result.andThen_ok, hrun], h2, h3, h4, by rw [h5]; simp, ?_, fun k hk => by rw [h7 k hk, Below.heap_setCell _ _ _ _ (by simpa using hk)]⟩
  rw [h6]
  simp only [putRow, Array.toList_set, Option.some.injEq, Obj.cells.injEq, and_true, Array.mk.injEq]
  rw [set_at _ _ _ (by simpa using hlt)]
  have e1 : o + (i + 1) = o + i + 1 := by omega
  rw [e1]
  simp only [List.length_cons]
  have hlen : (C.toList.take (o + i)).length = o + i := by simp; omega
  rw [List.take_append, List.drop_append, hlen]
  simp only [List.take_take, List.append_assoc]
  have e2 : min (o + i + 1) (o + i) = o + i := by omega
  have e3 : o + i + 1 - (o + i) = 1 := by omega
  have e4 : o + i + 1 + r.length - (o + i) = r.length + 1 := by omega
  rw [e2, e3, e4, show List.drop (o + i + 1 + r.length) (List.take (o + i) C.toList) = [] from List.drop_eq_nil_of_le (by rw [hlen]; omega)]
  simp
  congr 1
  omega

section store
variable {P : Program} {ρ : Map} {H : Heap} {w : World}

omit [Sg] in
theorem win_put {C : Array Value} {e : Emb} {o : Nat} {vs : List Value} (hs : e.size ≤ e.room) (hC : C.size = e.base + e.room) (ho : o + vs.length ≤ e.size) :
  win (putRow C (e.base + o) vs) e = (win C e).take o ++ (vs ++ (win C e).drop (o + vs.length)) := by
 have hC' : C.toList.length = e.base + e.room := by simpa using hC
 apply List.ext_getElem?
 intro i
 unfold win putRow
 simp only [List.getElem?_take, List.getElem?_drop, List.getElem?_append, List.length_take, List.length_drop, hC']
 by_cases h1 : i < o
 ·
  have a1 : e.base + i < min (e.base + o) (e.base + e.room) := by omega
  have a2 : i < min o (min e.size (e.base + e.room - e.base)) := by omega
  have a3 : i < e.size := by omega
  have a4 : i < min o e.room := by omega
  have a5 : i < min o (min e.size e.room) := by omega
  simp [a3, a4, a5]
 ·
  have a1 : ¬ e.base + i < min (e.base + o) (e.base + e.room) := by omega
  have a2 : ¬ i < min o (min e.size (e.base + e.room - e.base)) := by omega
  have m1 : min (e.base + o) (e.base + e.room) = e.base + o := by omega
  have m2 : min o (min e.size (e.base + e.room - e.base)) = o := by omega
  have d1 : e.base + i - (e.base + o) = i - o := by omega
  simp only [m1, m2, d1]
  by_cases h2 : i - o < vs.length
  ·
   have a3 : i < e.size := by omega
   simp [h2, a3]
  ·
   by_cases h3 : i < e.size
   ·
    have b1 : o + vs.length + (i - o - vs.length) < e.size := by omega
    have b2 : e.base + o + vs.length + (i - o - vs.length) = e.base + i := by omega
    have b3 : e.base + (o + vs.length + (i - o - vs.length)) = e.base + i := by omega
    simp [h2, h3, b1, b2, b3]
   ·
    have b1 : ¬ o + vs.length + (i - o - vs.length) < e.size := by omega
    simp [h2, h3, b1]

/-- A block whose contents turn. -/
theorem HR.turn' (hH : HR P ρ H w) {b : Nat} {x x' : Blk} {e : Emb} {w' : World} (hx : H.get b = some x) (he : ρ b = some e) (hw : wr x = true)
  (os : w'.os = w.os) (tape : w'.tape = w.tape) (out : w'.output = w.output) (size : w'.heap.size = w.heap.size) (ho : BR P ρ e x' w'.heap[e.B]?) (hk : ∀ k, k ≠ e.B → w'.heap[k]? = w.heap[k]?) (S : Nat → Prop) :
  HR P ρ (H.set b x') w' ∧ Step S ρ H w ρ (H.set b x') w' := by
 have hlim : ∀ c e, ρ c = some e → c < 2 ^ 64 := fun c e hc => Nat.lt_of_lt_of_le (hH.dom c e hc) hH.lim
 have hb := hlim b e he
 have get : ∀ c y f, (H.set b x').get c = some y → ρ c = some f → (c = b ∧ y = x') ∨ (c ≠ b ∧ H.get c = some y) := by
  intro c y f hc hf
  by_cases hcb : c = b
  ·
   subst hcb; rw [Heap.get_set_same] at hc; exact .inl ⟨rfl, (Option.some.inj hc).symm⟩
  ·
   rw [Heap.get_set_other _ _ _ _ hb (hlim c f hf) hcb] at hc; exact .inr ⟨hcb, hc⟩
 have old : ∀ c y f, (H.set b x').get c = some y → ρ c = some f → ∃ z, H.get c = some z ∧ (wr y = true → wr z = true) := by
  intro c y f hc hf
  rcases get c y f hc hf with ⟨rfl, _⟩ | ⟨_, h⟩
  ·
   exact ⟨x, hx, fun _ => hw⟩
  ·
   exact ⟨y, h, id⟩
 refine ⟨⟨fun c y f hc hf => ?_, fun c d y z f g hc hd hf hg hy hB => ?_, hH.dom, hH.lim, fun c hc => by rw [Heap.get_set_ne (by have := hH.dom b e he; have : H.next ≤ c := hc; omega)]; exact hH.top c hc⟩, ⟨fun _ => .inl rfl, os, tape, out, Nat.le_of_eq size.symm, fun B hB hn => ?_, fun B hB hW => ?_, Nat.le_refl _, fun B hB hM => ?_, fun c hc _ => ?_, fun c hc _ => ?_⟩⟩
 ·
  rcases get c y f hc hf with ⟨rfl, rfl⟩ | ⟨hcb, hc'⟩
  ·
   rw [he] at hf; cases hf; exact ho
  ·
   have hne : f.B ≠ e.B := fun h => hcb (hH.inj b c x y e f hx hc' he hf hw h.symm).symm
   rw [hk _ hne]; exact hH.blk c y f hc' hf
 ·
  obtain ⟨y0, hy0, hwy⟩ := old c y f hc hf
  obtain ⟨z0, hz0, _⟩ := old d z g hd hg
  exact hH.inj c d y0 z0 f g hy0 hz0 hf hg (hwy hy) hB
 ·
  exact hk B fun h => hn ⟨b, x, e, hx, he, h.symm, hw⟩
 ·
  obtain ⟨c, y, f, hc, hf, hB', hy⟩ := hW
  obtain ⟨y0, hy0, hwy⟩ := old c y f hc hf
  exact ⟨c, y0, f, hy0, hf, hB', hwy hy⟩
 ·
  obtain ⟨c, y, f, hc, hf, hB'⟩ := hM
  obtain ⟨y0, hy0, _⟩ := old c y f hc hf
  exact ⟨c, y0, f, hy0, hf, hB'⟩
 ·
  exact Heap.get_set_ne fun e => by rw [e, he] at hc; cases hc
 ·
  rw [Heap.get_set_ne fun e => by rw [e, hx] at hc; cases hc]; exact hc

theorem HR.turn (hH : HR P ρ H w) {b : Nat} {x x' : Blk} {e : Emb} {w' : World} (hx : H.get b = some x) (he : ρ b = some e) (hw : wr x = true) (_ : wr x' = true)
  (os : w'.os = w.os) (tape : w'.tape = w.tape) (out : w'.output = w.output) (size : w'.heap.size = w.heap.size) (ho : BR P ρ e x' w'.heap[e.B]?) (hk : ∀ k, k ≠ e.B → w'.heap[k]? = w.heap[k]?) (S : Nat → Prop) :
  HR P ρ (H.set b x') w' ∧ Step S ρ H w ρ (H.set b x') w' := hH.turn' hx he hw os tape out size ho hk S

theorem HR.store (hH : HR P ρ H w) {a a' : Addr} (ha : AR ρ a a') {vs vs' : List Value} {H' : Heap} (h : storeAt H a vs = some H') (hv : VL ρ vs vs') (h1 : ∀ v ∈ vs', v.oneCell' = true) (S : Nat → Prop) :
  ∃ w', (storeCells a' vs').run P w = .ok () w' ∧ HR P ρ H' w' ∧ Step S ρ H w ρ H' w' := by
 obtain ⟨e, he, hs, rfl⟩ := ha
 unfold storeAt at h
 rw [chk_eq] at h
 obtain ⟨_, h⟩ := h
 rw [bnd_eq] at h
 obtain ⟨x, hx, h⟩ := h
 rw [bnd_eq] at h
 obtain ⟨⟨cs, elem, ro⟩, hc, h⟩ := h
 rw [cellsOf_eq] at hc
 rw [chk_eq] at h
 obtain ⟨hro, h⟩ := h
 rw [bnd_eq] at h
 obtain ⟨cs', hcs, h⟩ := h
 unfold writeAt at hcs
 rw [writeAt_eq] at hcs
 obtain ⟨hn, rfl⟩ := hcs
 simp only [Option.some.injEq] at h
 dsimp only at hn h hro hc
 subst h hc
 have hro' := isRw_eq hro
 subst hro'
 have hb := hH.blk _ _ _ hx he
 generalize hg : w.heap[e.B]? = g at hb
 cases hb with
 | cells hi hk hs' hr hC hf hv' h1' hmodb =>
  rename_i C fr i
  have hlen := hv.length
  obtain ⟨w', hrun, h2, h3, h4, h5, h6, h7⟩ := run_storeCells_row P e.B elem fr (e.base + a.off) vs' 0 C w hg (by omega) (hf rfl) h1
  refine ⟨w', hrun, ?_⟩
  have hput : win (putRow C (e.base + a.off) vs') e = _ := win_put hr hC (vs := vs') (o := a.off) (by omega)
  refine hH.turn hx he rfl rfl h2 h3 h4 h5 ?_ h7 S
  rw [h6]
  refine .cells hi hk ?_ hr ?_ ?_ ?_ ?_ hmodb
  ·
   simp only [List.length_append, List.length_take, List.length_drop]; omega
  ·
   simp [putRow]; omega
  ·
   intro _ j hj
   refine hf rfl j ?_
   simp [putRow] at hj; omega
  ·
   rw [Nat.add_zero, hput]
   exact hv'.write a.off hv
  ·
   rw [Nat.add_zero, hput]
   intro v hm
   rcases List.mem_append.1 hm with h | h
   ·
    exact h1' v (List.mem_of_mem_take h)
   ·
    rcases List.mem_append.1 h with h | h
    ·
     exact h1 v h
    ·
     exact h1' v (List.mem_of_mem_drop h)
end store

/-! ### New blocks -/
def ins (ρ : Map) (b : Nat) (e : Emb) : Map := fun c => if c = b then some e else ρ c
omit [Sg] in
theorem ins_same (ρ : Map) (b : Nat) (e : Emb) : ins ρ b e b = some e := by simp [ins]
omit [Sg] in
theorem ins_other (ρ : Map) {b c : Nat} (e : Emb) (h : c ≠ b) : ins ρ b e c = ρ c := by simp [ins, h]
omit [Sg] in
theorem Le.ins {ρ : Map} {b : Nat} (h : ρ b = none) (e : Emb) : Le ρ (ins ρ b e) := fun c f hc => by
 have : c ≠ b := fun hcb => by subst hcb; rw [h] at hc; cases hc
 rw [ins_other ρ e this]; exact hc

section fresh
variable {P : Program} {ρ : Map} {H : Heap} {w : World}

/-- A new block of the model's, for a new abstract one. -/
theorem HR.fresh (hH : HR P ρ H w) {id : Nat} (hid : ρ id = none) (hlt : id < H.next) {x : Blk} {e : Emb} {w' : World} {S : Nat → Prop} (hS : S id) (heB : w.heap.size ≤ e.B)
  (os : w'.os = w.os) (tape : w'.tape = w.tape) (out : w'.output = w.output) (size : w.heap.size ≤ w'.heap.size) (ho : BR P (ins ρ id e) e x w'.heap[e.B]?)
  (hk : ∀ k, k < w.heap.size → w'.heap[k]? = w.heap[k]?) :
  HR P (ins ρ id e) (H.set id x) w' ∧ Step S ρ H w (ins ρ id e) (H.set id x) w' := by
 have hlim : ∀ c f, ρ c = some f → c < 2 ^ 64 := fun c f hc => Nat.lt_of_lt_of_le (hH.dom c f hc) hH.lim
 have hid64 : id < 2 ^ 64 := Nat.lt_of_lt_of_le hlt hH.lim
 have get : ∀ c y f, (H.set id x).get c = some y → ins ρ id e c = some f → (c = id ∧ y = x ∧ f = e) ∨ (c ≠ id ∧ H.get c = some y ∧ ρ c = some f) := by
  intro c y f hc hf
  by_cases hcb : c = id
  ·
   subst hcb; rw [Heap.get_set_same] at hc; rw [ins_same] at hf; exact .inl ⟨rfl, (Option.some.inj hc).symm, (Option.some.inj hf).symm⟩
  ·
   rw [ins_other ρ e hcb] at hf
   rw [Heap.get_set_other _ _ _ _ hid64 (hlim c f hf) hcb] at hc; exact .inr ⟨hcb, hc, hf⟩
 have lt : ∀ c y f, H.get c = some y → ρ c = some f → f.B < w.heap.size := by
  intro c y f hc hf
  have hb := hH.blk c y f hc hf
  rcases Nat.lt_or_ge f.B w.heap.size with h | h
  ·
   exact h
  ·
   rw [Array.getElem?_eq_none h] at hb; cases hb
 refine ⟨⟨fun c y f hc hf => ?_, fun c d y z f g hc hd hf hg hy hB => ?_, fun c f hf => ?_, hH.lim, fun c hc => by rw [Heap.get_set_ne (by have : H.next ≤ c := hc; omega)]; exact hH.top c hc⟩, ⟨fun c => ?_, os, tape, out, size, fun B hB _ => hk B hB, fun B hB hW => ?_, Nat.le_refl _, fun B hB hM => ?_, fun c _ hs => ?_, fun c hc hs => ?_⟩⟩
 ·
  rcases get c y f hc hf with ⟨rfl, rfl, rfl⟩ | ⟨_, hc', hf'⟩
  ·
   exact ho
  ·
   rw [hk _ (lt c y f hc' hf')]; exact (hH.blk c y f hc' hf').mono (Le.ins hid e)
 ·
  rcases get c y f hc hf with ⟨rfl, rfl, rfl⟩ | ⟨_, hc', hf'⟩
  ·
   rcases get d z g hd hg with ⟨rfl, _, _⟩ | ⟨_, hd', hg'⟩
   ·
    rfl
   ·
    have := lt d z g hd' hg'; omega
  ·
   rcases get d z g hd hg with ⟨rfl, rfl, rfl⟩ | ⟨_, hd', hg'⟩
   ·
    have := lt c y f hc' hf'; omega
   ·
    exact hH.inj c d y z f g hc' hd' hf' hg' hy hB
 ·
  by_cases hcb : c = id
  ·
   subst hcb; exact hlt
  ·
   rw [ins_other ρ e hcb] at hf; exact hH.dom c f hf
 ·
  by_cases hcb : c = id
  ·
   subst hcb; exact .inr ⟨hid, hS⟩
  ·
   exact .inl (ins_other ρ e hcb)
 ·
  obtain ⟨c, y, f, hc, hf, hB', hy⟩ := hW
  rcases get c y f hc hf with ⟨rfl, rfl, rfl⟩ | ⟨_, hc', hf'⟩
  ·
   omega
  ·
   exact ⟨c, y, f, hc', hf', hB', hy⟩
 ·
  obtain ⟨c, y, f, hc, hf, hB'⟩ := hM
  rcases get c y f hc hf with ⟨rfl, rfl, rfl⟩ | ⟨_, hc', hf'⟩
  ·
   omega
  ·
   exact ⟨c, y, f, hc', hf', hB'⟩
 ·
  exact Heap.get_set_ne fun e => hs (by rw [e]; exact hS)
 ·
  rw [Heap.get_set_ne fun e => hs (by rw [e]; exact hS)]; exact hc

/-- A block forgotten. -/
theorem HR.drop (hH : HR P ρ H w) {b : Nat} {e : Emb} (he : ρ b = some e) (S : Nat → Prop) : HR P ρ (H.del b) w ∧ Step S ρ H w ρ (H.del b) w := by
 have hlim : ∀ c f, ρ c = some f → c < 2 ^ 64 := fun c f hc => Nat.lt_of_lt_of_le (hH.dom c f hc) hH.lim
 have get : ∀ c y f, (H.del b).get c = some y → ρ c = some f → H.get c = some y := by
  intro c y f hc hf
  by_cases hcb : c = b
  ·
   subst hcb; rw [Heap.get_del_same] at hc; cases hc
  ·
   rwa [Heap.get_del_other _ _ _ (hlim b e he) (hlim c f hf) hcb] at hc
 refine ⟨⟨fun c y f hc hf => hH.blk c y f (get c y f hc hf) hf, fun c d y z f g hc hd hf hg hy hB => hH.inj c d y z f g (get c y f hc hf) (get d z g hd hg) hf hg hy hB, hH.dom, hH.lim, fun c hc => by rw [Heap.get_del_ne (by have := hH.dom b e he; have : H.next ≤ c := hc; omega)]; exact hH.top c hc⟩,
  ⟨fun _ => .inl rfl, rfl, rfl, rfl, Nat.le_refl _, fun _ _ _ => rfl, fun B _ ⟨c, y, f, hc, hf, hB, hy⟩ => ⟨c, y, f, get c y f hc hf, hf, hB, hy⟩, Nat.le_refl _,
   fun B _ ⟨c, y, f, hc, hf, hB⟩ => ⟨c, y, f, get c y f hc hf, hf, hB⟩, fun c hc _ => Heap.get_del_ne (fun e => by rw [e, he] at hc; cases hc),
   fun c hc _ => by
    by_cases h : c = b
    ·
     rw [h]; exact Heap.get_del_same _ _
    ·
     rw [Heap.get_del_ne h]; exact hc⟩⟩

/-- A block that gets another number, and other contents, in place. -/
theorem HR.renum (hH : HR P ρ H w) {b id : Nat} {x x' : Blk} {e e' : Emb} {w' : World} (hx : H.get b = some x) (he : ρ b = some e) (hw : wr x = true)
  (hid : ρ id = none) (hlt : id < H.next) (hB : e'.B = e.B) {S : Nat → Prop} (hS : S id)
  (os : w'.os = w.os) (tape : w'.tape = w.tape) (out : w'.output = w.output) (size : w'.heap.size = w.heap.size) (ho : BR P (ins ρ id e') e' x' w'.heap[e.B]?)
  (hk : ∀ k, k ≠ e.B → w'.heap[k]? = w.heap[k]?) :
  HR P (ins ρ id e') ((H.del b).set id x') w' ∧ Step S ρ H w (ins ρ id e') ((H.del b).set id x') w' := by
 have hlim : ∀ c f, ρ c = some f → c < 2 ^ 64 := fun c f hc => Nat.lt_of_lt_of_le (hH.dom c f hc) hH.lim
 have hid64 : id < 2 ^ 64 := Nat.lt_of_lt_of_le hlt hH.lim
 have get : ∀ c y f, ((H.del b).set id x').get c = some y → ins ρ id e' c = some f → (c = id ∧ y = x' ∧ f = e') ∨ (c ≠ id ∧ c ≠ b ∧ H.get c = some y ∧ ρ c = some f) := by
  intro c y f hc hf
  by_cases hcb : c = id
  ·
   subst hcb; rw [Heap.get_set_same] at hc; rw [ins_same] at hf; exact .inl ⟨rfl, (Option.some.inj hc).symm, (Option.some.inj hf).symm⟩
  ·
   rw [ins_other ρ e' hcb] at hf
   rw [Heap.get_set_other _ _ _ _ hid64 (hlim c f hf) hcb] at hc
   by_cases hcc : c = b
   ·
    subst hcc; rw [Heap.get_del_same] at hc; cases hc
   ·
    rw [Heap.get_del_other _ _ _ (hlim b e he) (hlim c f hf) hcc] at hc
    exact .inr ⟨hcb, hcc, hc, hf⟩
 have ne : ∀ c y f, c ≠ b → H.get c = some y → ρ c = some f → f.B ≠ e.B := fun c y f hcb hc hf h => hcb (hH.inj b c x y e f hx hc he hf hw h.symm).symm
 refine ⟨⟨fun c y f hc hf => ?_, fun c d y z f g hc hd hf hg hy hB' => ?_, fun c f hf => ?_, hH.lim, fun c hc => by rw [Heap.get_set_ne (by have : H.next ≤ c := hc; omega), Heap.get_del_ne (by have := hH.dom b e he; have : H.next ≤ c := hc; omega)]; exact hH.top c hc⟩, ⟨fun c => ?_, os, tape, out, Nat.le_of_eq size.symm, fun B hB' hn => ?_, fun B hB' hW => ?_, Nat.le_refl _, fun B hB' hM => ?_, fun c hc hs => ?_, fun c hc hs => ?_⟩⟩
 ·
  rcases get c y f hc hf with ⟨rfl, rfl, rfl⟩ | ⟨_, hcb, hc', hf'⟩
  ·
   rw [hB]; exact ho
  ·
   rw [hk _ (ne c y f hcb hc' hf')]; exact (hH.blk c y f hc' hf').mono (Le.ins hid e')
 ·
  rcases get c y f hc hf with ⟨rfl, rfl, rfl⟩ | ⟨_, hcb, hc', hf'⟩
  ·
   rcases get d z g hd hg with ⟨rfl, _, _⟩ | ⟨_, hdb, hd', hg'⟩
   ·
    rfl
   ·
    exact (ne d z g hdb hd' hg' (by rw [← hB', hB])).elim
  ·
   rcases get d z g hd hg with ⟨rfl, rfl, rfl⟩ | ⟨_, hdb, hd', hg'⟩
   ·
    exact (ne c y f hcb hc' hf' (by rw [hB', hB])).elim
   ·
    exact hH.inj c d y z f g hc' hd' hf' hg' hy hB'
 ·
  by_cases hcb : c = id
  ·
   subst hcb; exact hlt
  ·
   rw [ins_other ρ e' hcb] at hf; exact hH.dom c f hf
 ·
  by_cases hcb : c = id
  ·
   subst hcb; exact .inr ⟨hid, hS⟩
  ·
   exact .inl (ins_other ρ e' hcb)
 ·
  exact hk B fun h => hn ⟨b, x, e, hx, he, h.symm, hw⟩
 ·
  obtain ⟨c, y, f, hc, hf, hB'', hy⟩ := hW
  rcases get c y f hc hf with ⟨rfl, rfl, rfl⟩ | ⟨_, _, hc', hf'⟩
  ·
   exact ⟨b, x, e, hx, he, by rw [← hB'', hB], hw⟩
  ·
   exact ⟨c, y, f, hc', hf', hB'', hy⟩
 ·
  obtain ⟨c, y, f, hc, hf, hB''⟩ := hM
  rcases get c y f hc hf with ⟨rfl, rfl, rfl⟩ | ⟨_, _, hc', hf'⟩
  ·
   exact ⟨b, x, e, hx, he, by rw [← hB'', hB]⟩
  ·
   exact ⟨c, y, f, hc', hf', hB''⟩
 ·
  rw [Heap.get_set_ne fun e => hs (by rw [e]; exact hS), Heap.get_del_ne fun e => by rw [e, he] at hc; cases hc]
 ·
  rw [Heap.get_set_ne fun e => hs (by rw [e]; exact hS)]
  by_cases h : c = b
  ·
   rw [h]; exact Heap.get_del_same _ _
  ·
   rw [Heap.get_del_ne h]; exact hc
end fresh

end Go.Ev
