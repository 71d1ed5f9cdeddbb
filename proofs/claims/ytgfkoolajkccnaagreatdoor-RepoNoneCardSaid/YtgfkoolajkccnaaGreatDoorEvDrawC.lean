/- Drawn regions, part 3: whatever order is drawn, the memory behind is the one of the text's order. -/
import Derived.Test.YtgfkoolajkccnaaGreatDoorEvDrawB
import Derived.Orders
/-! Drawn regions, part 3: whatever order is drawn, the memory behind is the one of the text's order. -/
namespace Go.Ev
open Go.RowKit
open Classical

/-- What is known of the run in the text's order. -/
structure Facts (env : Env) (call : Call) (ops : Array Oper) (base : Nat) (T : Nat → Tm) (K : Nat → Heap) (vv : Nat → Value) : Prop where
  pairs : ∀ a b oa ob, a < b → ops[a]? = some oa → ops[b]? = some ob → Anc ops a b ∨ (¬ Clash ops oa ob ∧ ¬ (kindOf env oa.op = 3 ∧ kindOf env ob.op = 3) ∧
    (kindOf env oa.op = 3 → kindOf env ob.op = 2 → wantedB ob ops (T b) = true → ∃ H, evOp ob.op env call (base + b) (T b) (K a) = some (vv b, H)) ∧
    (kindOf env oa.op = 2 → kindOf env ob.op = 3 → wantedB oa ops (T a) = true → ∃ H, evOp oa.op env call (base + a) (T a) (K (b + 1)) = some (vv a, H)))
  back : ∀ a b, Edge0 ops a b → a < b
  next : ∀ k o, ops[k]? = some o → T (k + 1) = putT (T k) o.dst (vv k)
  run : ∀ k o, ops[k]? = some o → wantedB o ops (T k) = true → evOp o.op env call (base + k) (T k) (K k) = some (vv k, K (k + 1))
  skip : ∀ k o, ops[k]? = some o → wantedB o ops (T k) = false → vv k = undef ∧ K (k + 1) = K k

theorem lt_size {ops : Array Oper} {i : Nat} {o : Oper} (h : ops[i]? = some o) : i < ops.size := (Array.getElem?_eq_some_iff.1 h).1

section slots
variable {ops : Array Oper} {T : Nat → Tm} {vv : Nat → Value}

/-- The slot's contents when the operations of L are done. -/
def Holds (ops : Array Oper) (T : Nat → Tm) (vv : Nat → Value) (L : Nat → Prop) (t : Nat) (x : Value) : Prop :=
  (∃ i o, L i ∧ ops[i]? = some o ∧ o.dst = some t ∧ (∀ k ok, L k → ops[k]? = some ok → ok.dst = some t → k ≤ i) ∧ x = vv i) ∨
  ((∀ k ok, L k → ops[k]? = some ok → ok.dst ≠ some t) ∧ x = slot (T 0) t)

theorem Holds.det {L L' : Nat → Prop} {t : Nat} {x y : Value} (h : Holds ops T vv L t x) (h' : Holds ops T vv L' t y) (hL : ∀ k ok, ops[k]? = some ok → ok.dst = some t → (L k ↔ L' k)) : x = y := by
  rcases h with ⟨i, o, a1, a2, a3, a4, rfl⟩ | ⟨a1, rfl⟩
  · rcases h' with ⟨j, o', b1, b2, b3, b4, rfl⟩ | ⟨b1, _⟩
    · have h1 := b4 i o ((hL i o a2 a3).1 a1) a2 a3
      have h2 := a4 j o' ((hL j o' b2 b3).2 b1) b2 b3
      rw [Nat.le_antisymm h1 h2]
    · exact (b1 i o ((hL i o a2 a3).1 a1) a2 a3).elim
  · rcases h' with ⟨j, o', b1, b2, b3, b4, rfl⟩ | ⟨b1, rfl⟩
    · exact (a1 j o' ((hL j o' b2 b3).2 b1) b2 b3).elim
    · rfl

theorem slot_putT (tm : Tm) (d : Option Tmp) (t : Nat) (v : Value) : slot (putT tm d v) t = if d = some t then v else slot tm t := by
  cases d with
  | none => rfl
  | some d =>
    rw [slot_put]
    by_cases h : t = d
    · subst h; simp
    · rw [if_neg h, if_neg (by simp; exact fun e => h e.symm)]

theorem Holds.put {L L' : Nat → Prop} {j : Nat} {oj : Oper} {tm : Tm} (hj : ops[j]? = some oj) (hL' : ∀ i, L' i ↔ (L i ∨ i = j)) (hlast : ∀ k ok t, oj.dst = some t → L k → ops[k]? = some ok → ok.dst = some t → k ≤ j)
    (h : ∀ t, Holds ops T vv L t (slot tm t)) (t : Nat) : Holds ops T vv L' t (slot (putT tm oj.dst (vv j)) t) := by
  rw [slot_putT]
  by_cases hd : oj.dst = some t
  · rw [if_pos hd]
    refine .inl ⟨j, oj, (hL' j).2 (.inr rfl), hj, hd, fun k ok hk hok hkd => ?_, rfl⟩
    rcases (hL' k).1 hk with hk | rfl
    · exact hlast k ok t hd hk hok hkd
    · exact Nat.le_refl _
  · rw [if_neg hd]
    rcases h t with ⟨i, o, a1, a2, a3, a4, a5⟩ | ⟨a1, a2⟩
    · refine .inl ⟨i, o, (hL' i).2 (.inl a1), a2, a3, fun k ok hk hok hkd => ?_, a5⟩
      rcases (hL' k).1 hk with hk | rfl
      · exact a4 k ok hk hok hkd
      · rw [hj] at hok; cases hok; exact (hd hkd).elim
    · refine .inr ⟨fun k ok hk hok hkd => ?_, a2⟩
      rcases (hL' k).1 hk with hk | rfl
      · exact a1 k ok hk hok hkd
      · rw [hj] at hok; cases hok; exact hd hkd

theorem holds_text (hn : ∀ k o, ops[k]? = some o → T (k + 1) = putT (T k) o.dst (vv k)) : ∀ j, j ≤ ops.size → ∀ t, Holds ops T vv (· < j) t (slot (T j) t)
  | 0, _, t => .inr ⟨fun k _ hk => (Nat.not_lt_zero k hk).elim, rfl⟩
  | j + 1, hj, t => by
    have hlt : j < ops.size := hj
    have ho : ops[j]? = some ops[j] := Array.getElem?_eq_getElem hlt
    rw [hn j _ ho]
    exact Holds.put ho (fun i => by omega) (fun k ok t _ hk _ _ => Nat.le_of_lt hk) (holds_text hn j (Nat.le_of_lt hlt)) t
end slots

theorem wantedB_congr {o : Oper} {ops : Array Oper} {tm tm' : Tm} (h : ∀ t, gdst ops o = some t → slot tm t = slot tm' t) : wantedB o ops tm = wantedB o ops tm' := by
  unfold wantedB
  unfold gdst at h
  cases hg : o.guard with
  | none => rfl
  | some g =>
    rw [hg] at h
    show guardOk ops tm g = guardOk ops tm' g
    unfold guardOk
    rw [nthL_eq]
    have hj : ops.toList[g.1]? = ops[g.1]? := by simp
    rw [hj]
    simp only [Option.bind_some] at h
    cases hq : ops[g.1]? with
    | none => rfl
    | some q =>
      rw [hq] at h
      simp only [bnd_some, Option.bind_some] at h ⊢
      cases hd : q.dst with
      | none => rfl
      | some d => simp only [bnd_some]; rw [h d hd]

/-- HR, for a memory that is given as a function. -/
structure HG (P : Program) (ρ : Map) (g : Nat → Option Blk) (nx : Nat) (w : World) : Prop where
  blk : ∀ b x e, g b = some x → ρ b = some e → BR P ρ e x w.heap[e.B]?
  inj : ∀ b1 b2 x1 x2 e1 e2, g b1 = some x1 → g b2 = some x2 → ρ b1 = some e1 → ρ b2 = some e2 → wr x1 = true → e1.B = e2.B → b1 = b2
  dom : ∀ b e, ρ b = some e → b < nx
  lim : nx ≤ 2 ^ 64

def Sub (ρ : Map) (H : Heap) (X : Nat → Option Blk) : Prop := ∀ b x, H.get b = some x → ρ b ≠ none → X b = some x

theorem HG.hr {P : Program} {ρ : Map} {X : Nat → Option Blk} {H : Heap} {w : World} (h : HG P ρ X H.next w) (hs : Sub ρ H X) (ht : ∀ b, H.next ≤ b → H.get b = none) : HR P ρ H w :=
  ⟨fun b x e h1 h2 => h.blk b x e (hs b x h1 (by rw [h2]; simp)) h2,
   fun b1 b2 x1 x2 e1 e2 h1 h2 h3 h4 => h.inj b1 b2 x1 x2 e1 e2 (hs b1 x1 h1 (by rw [h3]; simp)) (hs b2 x2 h2 (by rw [h4]; simp)) h3 h4, h.dom, h.lim, ht⟩

/-- The blocks behind a step: those of the text's memory, and those that were made too soon. -/
noncomputable def aug (ρ : Map) (H H' : Heap) (X : Nat → Option Blk) (b : Nat) : Option Blk :=
  match H'.get b with
  | some x => some x
  | none => if H.get b = none ∧ ρ b ≠ none then X b else none

theorem aug_some {ρ : Map} {H H' : Heap} {X : Nat → Option Blk} {b : Nat} {x : Blk} (h : aug ρ H H' X b = some x) : H'.get b = some x ∨ (H'.get b = none ∧ H.get b = none ∧ ρ b ≠ none ∧ X b = some x) := by
  unfold aug at h
  split at h
  · rename_i y hy; cases h; exact .inl hy
  · rename_i hy
    split at h
    · rename_i hc; exact .inr ⟨hy, hc.1, hc.2, h⟩
    · cases h

theorem HG.aug {P : Program} {ρ ρ' : Map} {X : Nat → Option Blk} {H H' : Heap} {w w' : World} {S : Nat → Prop} (h : HG P ρ X H.next w) (hs : Sub ρ H X) (hH' : HR P ρ' H' w') (hS : Step S ρ H w ρ' H' w') :
    HG P ρ' (aug ρ H H' X) H'.next w' := by
  have early : ∀ b x e, H.get b = none → ρ b ≠ none → X b = some x → ρ' b = some e → ρ b = some e ∧ e.B < w.heap.size ∧ ¬ Mp ρ H e.B ∨ (ρ b = some e ∧ e.B < w.heap.size ∧ wr x = false ∧ ¬ Wr ρ H e.B) := by
    intro b x e h1 h2 h3 h4
    have he : ρ b = some e := by
      cases hb : ρ b with
      | none => exact (h2 hb).elim
      | some e0 => have := hS.le b e0 hb; rw [h4] at this; exact this.symm
    have hlt : e.B < w.heap.size := by
      have hb := h.blk b x e h3 he
      rcases Nat.lt_or_ge e.B w.heap.size with h | h
      · exact h
      · rw [Array.getElem?_eq_none h] at hb; cases hb
    cases hw : wr x with
    | true =>
      refine .inl ⟨he, hlt, ?_⟩
      rintro ⟨c, y, f, k1, k2, k3⟩
      have := h.inj b c x y e f h3 (hs c y k1 (by rw [k2]; simp)) he k2 hw k3.symm
      rw [this, k1] at h1; cases h1
    | false =>
      refine .inr ⟨he, hlt, rfl, ?_⟩
      rintro ⟨c, y, f, k1, k2, k3, k4⟩
      have := h.inj c b y x f e (hs c y k1 (by rw [k2]; simp)) h3 k2 he k4 k3
      rw [← this, k1] at h1; cases h1
  have nwr : ∀ b x e, H.get b = none → ρ b ≠ none → X b = some x → ρ' b = some e → ρ b = some e ∧ e.B < w.heap.size ∧ ¬ Wr ρ H e.B := by
    intro b x e h1 h2 h3 h4
    rcases early b x e h1 h2 h3 h4 with ⟨k1, k2, k3⟩ | ⟨k1, k2, _, k3⟩
    · exact ⟨k1, k2, fun ⟨c, y, f, g1, g2, g3, _⟩ => k3 ⟨c, y, f, g1, g2, g3⟩⟩
    · exact ⟨k1, k2, k3⟩
  refine ⟨fun b x e h1 h2 => ?_, fun b1 b2 x1 x2 e1 e2 h1 h2 h3 h4 hw hB => ?_, hH'.dom, hH'.lim⟩
  · rcases aug_some h1 with h1 | ⟨_, h1, h3, h4⟩
    · exact hH'.blk b x e h1 h2
    · obtain ⟨k1, k2, k3⟩ := nwr b x e h1 h3 h4 h2
      rw [hS.keep _ k2 k3]
      exact (h.blk b x e h4 k1).mono hS.le
  · rcases aug_some h1 with h1 | ⟨_, h1, h5, h6⟩
    · rcases aug_some h2 with h2 | ⟨_, h2, h7, h8⟩
      · exact hH'.inj b1 b2 x1 x2 e1 e2 h1 h2 h3 h4 hw hB
      · obtain ⟨k1, k2, k3⟩ := nwr b2 x2 e2 h2 h7 h8 h4
        exact (k3 (hS.wr _ k2 ⟨b1, x1, e1, h1, h3, hB, hw⟩)).elim
    · rcases aug_some h2 with h2 | ⟨_, h2, h7, h8⟩
      · rcases early b1 x1 e1 h1 h5 h6 h3 with ⟨k1, k2, k3⟩ | ⟨_, _, k3, _⟩
        · exact (k3 (hS.mp _ k2 ⟨b2, x2, e2, h2, h4, hB.symm⟩)).elim
        · rw [hw] at k3; cases k3
      · obtain ⟨k1, _, _⟩ := nwr b1 x1 e1 h1 h5 h6 h3
        obtain ⟨k2, _, _⟩ := nwr b2 x2 e2 h2 h7 h8 h4
        exact h.inj b1 b2 x1 x2 e1 e2 h6 h8 k1 k2 hw hB

/-- Step, for such a memory. -/
structure SX (base : Nat) (ρ0 : Map) (H0 : Heap) (w0 : World) (ρ : Map) (X : Nat → Option Blk) (nx : Nat) (w : World) : Prop where
  ext : ∀ b, ρ b = ρ0 b ∨ (ρ0 b = none ∧ base ≤ b)
  os : w.os = w0.os
  tape : w.tape = w0.tape
  output : w.output = w0.output
  size : w0.heap.size ≤ w.heap.size
  keep : ∀ B, B < w0.heap.size → ¬ Wr ρ0 H0 B → w.heap[B]? = w0.heap[B]?
  wr : ∀ b x e, X b = some x → ρ b = some e → e.B < w0.heap.size → wr x = true → Wr ρ0 H0 e.B
  mp : ∀ b x e, X b = some x → ρ b = some e → e.B < w0.heap.size → Mp ρ0 H0 e.B
  next : H0.next ≤ nx

theorem SX.aug {base : Nat} {ρ0 : Map} {H0 : Heap} {w0 : World} {ρ ρ' : Map} {X : Nat → Option Blk} {H H' : Heap} {w w' : World} {S : Nat → Prop} (h : SX base ρ0 H0 w0 ρ X H.next w) (hs : Sub ρ H X)
    (hS : Step S ρ H w ρ' H' w') (hb : ∀ b, S b → base ≤ b) : SX base ρ0 H0 w0 ρ' (aug ρ H H' X) H'.next w' := by
  refine ⟨fun b => ?_, hS.os.trans h.os, hS.tape.trans h.tape, hS.output.trans h.output, Nat.le_trans h.size hS.size, fun B hB hn => ?_, fun b x e h1 h2 hB hw => ?_, fun b x e h1 h2 hB => ?_, Nat.le_trans h.next hS.next⟩
  · rcases hS.ext b with e | ⟨e, s⟩
    · rw [e]; exact h.ext b
    · rcases h.ext b with e' | ⟨e', s'⟩
      · exact .inr ⟨by rw [← e', e], hb b s⟩
      · exact .inr ⟨e', s'⟩
  · rw [← h.keep B hB hn]
    refine hS.keep B (Nat.lt_of_lt_of_le hB h.size) ?_
    rintro ⟨b, x, e, h1, h2, h3, h4⟩
    subst h3
    exact hn (h.wr b x e (hs b x h1 (by rw [h2]; simp)) h2 hB h4)
  · rcases aug_some h1 with h1 | ⟨_, h3, h4, h5⟩
    · obtain ⟨c, y, f, k1, k2, k3, k4⟩ := hS.wr e.B (Nat.lt_of_lt_of_le hB h.size) ⟨b, x, e, h1, h2, rfl, hw⟩
      rw [← k3] at hB ⊢
      exact h.wr c y f (hs c y k1 (by rw [k2]; simp)) k2 hB k4
    · have he : ρ b = some e := by
        cases hb : ρ b with
        | none => exact (h4 hb).elim
        | some e0 => have := hS.le b e0 hb; rw [h2] at this; exact this.symm
      exact h.wr b x e h5 he hB hw
  · rcases aug_some h1 with h1 | ⟨_, h3, h4, h5⟩
    · obtain ⟨c, y, f, k1, k2, k3⟩ := hS.mp e.B (Nat.lt_of_lt_of_le hB h.size) ⟨b, x, e, h1, h2, rfl⟩
      rw [← k3] at hB ⊢
      exact h.mp c y f (hs c y k1 (by rw [k2]; simp)) k2 hB
    · have he : ρ b = some e := by
        cases hb : ρ b with
        | none => exact (h4 hb).elim
        | some e0 => have := hS.le b e0 hb; rw [h2] at this; exact this.symm
      exact h.mp b x e h5 he hB

section run
variable {P : Program} {env : Env} {call : Call} {ops : Array Oper} {base : Nat} {T : Nat → Tm} {K : Nat → Heap} {vv : Nat → Value}

/-- The block that the i-th operation makes. -/
def Mk (env : Env) (call : Call) (ops : Array Oper) (base : Nat) (T : Nat → Tm) (vv : Nat → Value) (i : Nat) (x : Blk) : Prop :=
  ∃ o, ops[i]? = some o ∧ kindOf env o.op = 1 ∧ wantedB o ops (T i) = true ∧ ∀ G, evOp o.op env call (base + i) (T i) G = some (vv i, G.set (base + i) x)

theorem Mk.uniq {i : Nat} {x y : Blk} (h : Mk env call ops base T vv i x) (h' : Mk env call ops base T vv i y) : x = y := by
  obtain ⟨o, h1, _, _, h4⟩ := h
  obtain ⟨o', k1, _, _, k4⟩ := h'
  rw [h1] at k1; cases k1
  have e := (h4 Heap.empty).symm.trans (k4 Heap.empty)
  simp only [Option.some.injEq, Prod.mk.injEq, true_and] at e
  have := congrArg (fun G : Heap => G.get (base + i)) e
  simpa [Heap.get_set_same] using this

/-- The text's memory before the q-th operation, held against X. -/
structure Part (env : Env) (call : Call) (ops : Array Oper) (base : Nat) (T : Nat → Tm) (K : Nat → Heap) (vv : Nat → Value) (ρ0 : Map) (L : Nat → Prop) (ρ : Map) (X : Nat → Option Blk) (q : Nat) : Prop where
  sub : Sub ρ (K q) X
  early : ∀ i x, q ≤ i → L i → Mk env call ops base T vv i x → ρ (base + i) ≠ none → X (base + i) = some x
  gone : ∀ i o, ops[i]? = some o → (q ≤ i ∨ (kindOf env o.op ≠ 1 ∧ kindOf env o.op ≠ 3)) → (K q).get (base + i) = none
  late : ∀ i x, i < q → ¬ L i → Mk env call ops base T vv i x → (K q).get (base + i) = some x
  abs1 : ∀ b, b < base → ρ0 b = none → (K q).get b = (K 0).get b
  abs2 : ∀ b, b < base → (K 0).get b = none → (K q).get b = none
  top : ∀ b, (K q).next ≤ b → (K q).get b = none

theorem Facts.made (hF : Facts env call ops base T K vv) {i : Nat} {o : Oper} (hi : ops[i]? = some o) (hk : kindOf env o.op = 1) (hw : wantedB o ops (T i) = true) : ∃ x, Mk env call ops base T vv i x ∧ K (i + 1) = (K i).set (base + i) x := by
  have hr := hF.run i o hi hw
  obtain ⟨x, hx⟩ := alloc_ind hk _ _ _ hr
  refine ⟨x, ⟨o, hi, hk, hw, hx⟩, ?_⟩
  have := (hx (K i)).symm.trans hr
  simp only [Option.some.injEq, Prod.mk.injEq, true_and] at this
  exact this.symm

theorem Facts.same (hF : Facts env call ops base T K vv) {i : Nat} {o : Oper} (hi : ops[i]? = some o) (hk : kindOf env o.op = 0 ∨ kindOf env o.op = 2) : K (i + 1) = K i := by
  cases hw : wantedB o ops (T i) with
  | false => exact (hF.skip i o hi hw).2
  | true =>
    have hr := hF.run i o hi hw
    rcases hk with hk | hk
    · exact (pure_ind hk _ _ _ hr).1
    · exact read_ind hk _ _ _ hr

variable {ρ0 : Map} {L : Nat → Prop} {ρ : Map} {X : Nat → Option Blk}

theorem Part.skip {q : Nat} (h : Part env call ops base T K vv ρ0 L ρ X q) (he : K (q + 1) = K q) (hn : ∀ x, ¬ Mk env call ops base T vv q x) : Part env call ops base T K vv ρ0 L ρ X (q + 1) := by
  refine ⟨by rw [he]; exact h.sub, fun i x hi => h.early i x (by omega), fun i o hi hq => by rw [he]; exact h.gone i o hi (hq.imp (by omega) fun h => h), fun i x hi hL hM => ?_, by rw [he]; exact h.abs1, by rw [he]; exact h.abs2, by rw [he]; exact h.top⟩
  rw [he]
  by_cases e : i = q
  · subst e; exact (hn x hM).elim
  · exact h.late i x (by omega) hL hM

theorem Part.adv (hF : Facts env call ops base T K vv) {q : Nat} {o : Oper} (hq : ops[q]? = some o) (hk : kindOf env o.op ≠ 3) (hun : ¬ L q → ρ (base + q) = none) (hnx : base + ops.size ≤ (K q).next) (h : Part env call ops base T K vv ρ0 L ρ X q) :
    Part env call ops base T K vv ρ0 L ρ X (q + 1) ∧ (K (q + 1)).next = (K q).next := by
  by_cases h1 : kindOf env o.op = 1
  · cases hw : wantedB o ops (T q) with
    | false =>
      have he := (hF.skip q o hq hw).2
      refine ⟨h.skip he fun x ⟨o', g1, _, g3, _⟩ => ?_, by rw [he]⟩
      rw [hq] at g1; cases g1; rw [hw] at g3; cases g3
    | true =>
      obtain ⟨x, hM, he⟩ := hF.made hq h1 hw
      refine ⟨⟨fun b y hb hr => ?_, fun i y hi => h.early i y (by omega), fun i o' hi hqi => ?_, fun i y hi hL hMy => ?_, fun b hb h0 => ?_, fun b hb h0 => ?_, fun b hb => ?_⟩, by rw [he]; rfl⟩
      · rw [he] at hb
        by_cases e : b = base + q
        · subst e
          rw [Heap.get_set_same] at hb
          cases hb
          exact h.early q _ (Nat.le_refl _) (Classical.byContradiction fun hL => hr (hun hL)) hM hr
        · rw [Heap.get_set_ne e] at hb
          exact h.sub b y hb hr
      · have e : i ≠ q := by
          rintro rfl
          rw [hq] at hi; cases hi
          rcases hqi with hqi | hqi
          · omega
          · exact hqi.1 h1
        rw [he, Heap.get_set_ne (by omega)]
        exact h.gone i o' hi (hqi.imp (by omega) fun h => h)
      · rw [he]
        by_cases e : i = q
        · subst e; rw [hMy.uniq hM, Heap.get_set_same]
        · rw [Heap.get_set_ne (by omega)]; exact h.late i y (by omega) hL hMy
      · rw [he, Heap.get_set_ne (by omega)]; exact h.abs1 b hb h0
      · rw [he, Heap.get_set_ne (by omega)]; exact h.abs2 b hb h0
      · rw [he] at hb ⊢
        have hb' : (K q).next ≤ b := hb
        rw [Heap.get_set_ne (by have := lt_size hq; omega)]; exact h.top b hb'
  · have hle := kindOf_le env o.op
    have he := hF.same hq (by omega)
    refine ⟨h.skip he fun x ⟨o', g1, g2, _⟩ => ?_, by rw [he]⟩
    rw [hq] at g1; cases g1; exact h1 g2

theorem Part.advTo (hF : Facts env call ops base T K vv) (hun : ∀ i, i < ops.size → ¬ L i → ρ (base + i) = none) {q : Nat} (hnx : base + ops.size ≤ (K q).next) (h : Part env call ops base T K vv ρ0 L ρ X q) : ∀ (d : Nat), q + d ≤ ops.size →
    (∀ e o, ops[e]? = some o → q ≤ e → e < q + d → kindOf env o.op ≠ 3) → Part env call ops base T K vv ρ0 L ρ X (q + d) ∧ (K (q + d)).next = (K q).next
  | 0, _, _ => ⟨h, rfl⟩
  | d + 1, hd, hk => by
    obtain ⟨h1, h2⟩ := Part.advTo hF hun hnx h d (by omega) fun e o he h1 h2 => hk e o he h1 (by omega)
    have hlt : q + d < ops.size := by omega
    have ho : ops[q + d]? = some ops[q + d] := Array.getElem?_eq_getElem hlt
    obtain ⟨h3, h4⟩ := h1.adv hF ho (hk _ _ ho (by omega) (by omega)) (hun _ hlt) (by rw [h2]; exact hnx)
    exact ⟨h3, h4.trans h2⟩
end run
end Go.Ev
