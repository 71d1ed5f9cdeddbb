/- Drawn regions, part 2: the plan, the trace, values held against each other. -/
import Derived.Test.YtgfkoolajkccnaaGreatDoorEvDrawA
/-! Drawn regions, part 2: the plan, the trace, values held against each other. -/
namespace Go.Ev
open Go.RowKit

/-! ### Sets of numbers -/
theorem tb_eq (m i : Nat) : tb m i = m.testBit i := by
  have h : tb m i = ((m >>> i) % 2).beq 1 := rfl
  rw [h, Nat.testBit_eq_decide_div_mod_eq, Nat.shiftRight_eq_div_pow]
  cases hb : (m / 2 ^ i % 2).beq 1 with
  | true => simp [Nat.eq_of_beq_eq_true hb]
  | false => simp [Nat.ne_of_beq_eq_false hb]
theorem tb_lor (a b i : Nat) : tb (Nat.lor a b) i = (tb a i || tb b i) := by rw [tb_eq, tb_eq, tb_eq]; exact Nat.testBit_or a b i
theorem tb_land (a b i : Nat) : tb (Nat.land a b) i = (tb a i && tb b i) := by rw [tb_eq, tb_eq, tb_eq]; exact Nat.testBit_and a b i
theorem tb_zero (i : Nat) : tb 0 i = false := by rw [tb_eq]; simp
theorem tb_bit (j i : Nat) : tb (bit j) i = decide (j = i) := by
  rw [tb_eq]
  have : bit j = 2 ^ j := by show 1 <<< j = 2 ^ j; rw [Nat.shiftLeft_eq, Nat.one_mul]
  rw [this, Nat.testBit_two_pow]

theorem tb_dstM (d : Option Tmp) (t : Nat) : tb (dstM d) t = true ↔ d = some t := by
  cases d with
  | none => show tb 0 t = true ↔ _; rw [tb_zero]; simp
  | some d => show tb (bit d) t = true ↔ _; rw [tb_bit]; simp

theorem tb_looksM {t : Nat} : ∀ {l : List Operand}, Operand.tmp t ∈ l → tb (looksM l) t = true
  | [], h => by cases h
  | x :: l, h => by
    show tb (Nat.lor (dstM (tmpOf x)) (looksM l)) t = true
    rw [tb_lor]
    rcases List.mem_cons.1 h with rfl | h
    · have : tb (dstM (tmpOf (.tmp t))) t = true := (tb_dstM _ _).2 rfl
      simp [this]
    · simp [tb_looksM h]

theorem binds_eq (e : Edge) : bindsB e = Region.binds .any e := by
  obtain ⟨o, g⟩ := e
  cases g <;> rfl

/-! ### The plan -/
def Edge0 (ops : Array Oper) (i j : Nat) : Prop := ∃ o e, ops[j]? = some o ∧ e ∈ o.after ∧ Region.binds .any e = true ∧ e.on = i
/-- In every order, i is before j. -/
inductive Anc (ops : Array Oper) : Nat → Nat → Prop
  | one {i j : Nat} (h : Edge0 ops i j) : Anc ops i j
  | step {i k j : Nat} (h : Anc ops i k) (h' : Edge0 ops k j) : Anc ops i j

/-- The slot that an operation's guard looks at. -/
def gdst (ops : Array Oper) (o : Oper) : Option Tmp := o.guard.bind fun g => (ops[g.1]?).bind (·.dst)
def LooksAt (ops : Array Oper) (o : Oper) (t : Nat) : Prop := Operand.tmp t ∈ looksL o.op ∨ gdst ops o = some t

def Clash (ops : Array Oper) (a b : Oper) : Prop := ∃ t, (a.dst = some t ∧ (LooksAt ops b t ∨ b.dst = some t)) ∨ (b.dst = some t ∧ LooksAt ops a t)

structure SpotOk (env : Env) (ops : Array Oper) (s : Spot) (o : Oper) : Prop where
  op : ops[s.idx]? = some o
  mask : ∀ k, tb s.mask k = true → Anc ops k s.idx
  kind : s.kind = kindOf env o.op
  looks : ∀ t, LooksAt ops o t → tb s.looks t = true
  dst : ∀ t, o.dst = some t → tb s.dst t = true

theorem findS_some {i : Nat} {s : Spot} : ∀ {acc : List Spot}, findS i acc = some s → s ∈ acc ∧ s.idx = i
  | [], h => by cases h
  | a :: acc, h => by
    have h' : ifB (Nat.beq a.idx i) (some a) (findS i acc) = some s := h
    cases hb : Nat.beq a.idx i with
    | true => rw [hb, ifB_true] at h'; cases h'; exact ⟨by simp, Nat.eq_of_beq_eq_true hb⟩
    | false => rw [hb, ifB_false] at h'; exact ⟨by simp [(findS_some h').1], (findS_some h').2⟩

/-- What a pair's order may matter for. -/
def PairOk (env : Env) (ops : Array Oper) (hot : List (Nat × Nat)) (a b : Nat) : Prop :=
  ∀ oa ob, ops[a]? = some oa → ops[b]? = some ob → Anc ops a b ∨
    (¬ Clash ops oa ob ∧ ¬ (kindOf env oa.op = 3 ∧ kindOf env ob.op = 3) ∧ (kindOf env oa.op = 3 ∧ kindOf env ob.op = 2 ∨ kindOf env oa.op = 2 ∧ kindOf env ob.op = 3 → (a, b) ∈ hot))

theorem kindOf_le (env : Env) (op : Op) : kindOf env op ≤ 3 := by
  have c1 : ∀ x, convKind x ≤ 3 := fun x => by unfold convKind; split <;> decide
  have c2 : ∀ x, callKind x ≤ 3 := fun x => by unfold callKind; split <;> decide
  have c3 : ∀ x, sliceKind x ≤ 3 := fun x => by unfold sliceKind; split <;> decide
  unfold kindOf
  split <;> first | exact c1 _ | exact c2 _ | exact c3 _ | decide

theorem no_clash {env : Env} {ops : Array Oper} {a b : Spot} {oa ob : Oper} (ha : SpotOk env ops a oa) (hb : SpotOk env ops b ob) (h : clash a b = false) : ¬ Clash ops oa ob := by
  have h0 : Nat.lor (Nat.land a.dst (Nat.lor b.looks b.dst)) (Nat.land b.dst a.looks) = 0 := by
    unfold clash at h
    simp only [Bool.not_eq_false'] at h
    exact Nat.eq_of_beq_eq_true h
  rintro ⟨t, h⟩
  have h1 : tb (Nat.lor (Nat.land a.dst (Nat.lor b.looks b.dst)) (Nat.land b.dst a.looks)) t = false := by rw [h0, tb_zero]
  rw [tb_lor, tb_land, tb_lor, tb_land] at h1
  rcases h with ⟨h2, h3⟩ | ⟨h2, h3⟩
  · rw [ha.dst t h2] at h1
    rcases h3 with h3 | h3
    · rw [hb.looks t h3] at h1; simp at h1
    · rw [hb.dst t h3] at h1; simp at h1
  · rw [hb.dst t h2, ha.looks t h3] at h1; simp at h1

theorem pairS_ok {env : Env} {ops : Array Oper} {a b : Spot} {oa ob : Oper} (ha : SpotOk env ops a oa) (hb : SpotOk env ops b ob) {h : Bool} (hp : pairS a b = some h) :
    Anc ops a.idx b.idx ∨ (¬ Clash ops oa ob ∧ ¬ (kindOf env oa.op = 3 ∧ kindOf env ob.op = 3) ∧ (kindOf env oa.op = 3 ∧ kindOf env ob.op = 2 ∨ kindOf env oa.op = 2 ∧ kindOf env ob.op = 3 → h = true)) := by
  unfold pairS at hp
  cases hm : tb b.mask a.idx with
  | true => exact .inl (hb.mask _ hm)
  | false =>
    rw [hm, ifB_false] at hp
    cases hc : clash a b with
    | true => rw [hc, ifB_true] at hp; cases hp
    | false =>
      rw [hc, ifB_false] at hp
      cases h6 : Nat.beq (Nat.add a.kind b.kind) 6 with
      | true => rw [h6, ifB_true] at hp; cases hp
      | false =>
        rw [h6, ifB_false] at hp
        cases hp
        refine .inr ⟨no_clash ha hb hc, ?_, ?_⟩
        · rintro ⟨h1, h2⟩
          rw [ha.kind, hb.kind, h1, h2] at h6; cases h6
        · rintro (⟨h1, h2⟩ | ⟨h1, h2⟩) <;> (rw [ha.kind, hb.kind, h1, h2]; rfl)

theorem pairsS_ok {env : Env} {ops : Array Oper} {b : Spot} {ob : Oper} (hb : SpotOk env ops b ob) : ∀ {acc : List Spot} {hs : List (Nat × Nat)}, pairsS b acc = some hs → (∀ s ∈ acc, ∃ o, SpotOk env ops s o) →
    ∀ s ∈ acc, PairOk env ops hs s.idx b.idx
  | [], _, _, _ => fun s h => by cases h
  | a :: acc, hs, h, hacc => by
    have h' : bnd (pairS a b) (fun h => bnd (pairsS b acc) fun l => some (ifB h ((a.idx, b.idx) :: l) l)) = some hs := h
    simp only [bnd_eq] at h'
    obtain ⟨hh, hp, l, hl, e⟩ := h'
    cases e
    have sub : ∀ p, p ∈ l → p ∈ ifB hh ((a.idx, b.idx) :: l) l := fun q hq => by
      cases hh with
      | false => rw [ifB_false]; exact hq
      | true => rw [ifB_true]; exact List.mem_cons_of_mem _ hq
    intro s hs'
    rcases List.mem_cons.1 hs' with rfl | hs'
    · intro oa ob' hoa hob
      obtain ⟨o, ho⟩ := hacc s (by simp)
      have : oa = o := by rw [ho.op] at hoa; exact (Option.some.inj hoa).symm
      subst this
      have : ob' = ob := by rw [hb.op] at hob; exact (Option.some.inj hob).symm
      subst this
      rcases pairS_ok ho hb hp with h | ⟨h1, h2, h3⟩
      · exact .inl h
      · exact .inr ⟨h1, h2, fun hk => by rw [h3 hk, ifB_true]; simp⟩
    · intro oa ob' hoa hob
      rcases pairsS_ok hb hl (fun s hs => hacc s (by simp [hs])) s hs' oa ob' hoa hob with h | ⟨h1, h2, h3⟩
      · exact .inl h
      · exact .inr ⟨h1, h2, fun hk => sub _ (h3 hk)⟩

theorem maskOf_ok {env : Env} {ops : Array Oper} {acc : List Spot} (hacc : ∀ s ∈ acc, ∃ o, SpotOk env ops s o) {j : Nat} {o : Oper} (hj : ops[j]? = some o) :
    ∀ {l : List Edge} {m : Nat}, maskOf acc l = some m → (∀ e ∈ l, e ∈ o.after) → (∀ k, tb m k = true → Anc ops k j) ∧ ∀ e ∈ l, Region.binds .any e = true → ∃ s ∈ acc, s.idx = e.on
  | [], m, h, _ => by
    have h' : some 0 = some m := h
    cases h'
    exact ⟨fun k hk => (by rw [tb_zero] at hk; cases hk), fun e he => (by cases he)⟩
  | e :: l, m, h, hl => by
    have h' : ifB (bindsB e) (bnd (findS e.on acc) fun s => bnd (maskOf acc l) fun m => fN (Nat.lor (Nat.lor s.mask (bit e.on)) m) some) (maskOf acc l) = some m := h
    cases hb : bindsB e with
    | false =>
      rw [hb, ifB_false] at h'
      obtain ⟨h1, h2⟩ := maskOf_ok hacc hj h' fun e he => hl e (by simp [he])
      refine ⟨h1, fun e' he' hbe => ?_⟩
      rcases List.mem_cons.1 he' with rfl | he'
      · rw [← binds_eq, hb] at hbe; cases hbe
      · exact h2 e' he' hbe
    | true =>
      rw [hb, ifB_true] at h'
      simp only [bnd_eq, fN_eq] at h'
      obtain ⟨s, hs, m', hm', e'⟩ := h'
      cases e'
      obtain ⟨h1, h2⟩ := maskOf_ok hacc hj hm' fun e he => hl e (by simp [he])
      obtain ⟨hsm, hsi⟩ := findS_some hs
      have hedge : Edge0 ops e.on j := ⟨o, e, hj, hl e (by simp), by rw [← binds_eq]; exact hb, rfl⟩
      refine ⟨fun k hk => ?_, fun e' he' hbe => ?_⟩
      · rw [tb_lor, tb_lor, tb_bit] at hk
        simp only [Bool.or_eq_true, decide_eq_true_eq] at hk
        rcases hk with (hk | hk) | hk
        · obtain ⟨os, hos⟩ := hacc s hsm
          have := hos.mask k hk
          rw [hsi] at this
          exact .step this hedge
        · subst hk; exact .one hedge
        · exact h1 k hk
      · rcases List.mem_cons.1 he' with rfl | he'
        · exact ⟨s, hsm, hsi⟩
        · exact h2 e' he' hbe

theorem guardM_ok {ops : Array Oper} {o : Oper} {t : Nat} (h : gdst ops o = some t) : tb (guardM ops o.guard) t = true := by
  unfold guardM
  rw [tb_dstM]
  unfold gdst at h
  cases hg : o.guard with
  | none => rw [hg] at h; cases h
  | some g =>
    rw [hg] at h
    simp only [Option.bind_some] at h
    rw [bnd_eq]
    refine ⟨g, rfl, ?_⟩
    rw [bnd_eq]
    cases hog : ops[g.1]? with
    | none => rw [hog] at h; cases h
    | some og =>
      rw [hog] at h
      refine ⟨og, ?_, h⟩
      rw [nthL_eq]; simpa using hog

theorem spotOf_ok {env : Env} {ops : Array Oper} {i m : Nat} {o : Oper} {s : Spot} (h : spotOf env ops i m o = some s) (hi : ops[i]? = some o) (hm : ∀ k, tb m k = true → Anc ops k i) : SpotOk env ops s o ∧ s.idx = i := by
  unfold spotOf at h
  simp only [fN_eq] at h
  cases h
  refine ⟨⟨hi, hm, rfl, fun t ht => ?_, fun t ht => (tb_dstM _ _).2 ht⟩, rfl⟩
  show tb (Nat.lor _ _) t = true
  rw [tb_lor]
  rcases ht with ht | ht
  · rw [tb_looksM ht]; rfl
  · rw [guardM_ok ht]; simp

theorem planL_ok {env : Env} {ops : Array Oper} : ∀ (l : List Oper) (i : Nat) (acc : List Spot) (hot : List (Nat × Nat)), ops.toList.drop i = l → planL env ops l i acc = some hot →
    (∀ s ∈ acc, ∃ o, SpotOk env ops s o) → (∀ k, k < i ↔ ∃ s ∈ acc, s.idx = k) →
    (∀ a b, a < b → i ≤ b → PairOk env ops hot a b) ∧ (∀ b, i ≤ b → ∀ a, Edge0 ops a b → a < b)
  | [], i, acc, hot, hl, _, _, _ => by
    have hlen : ops.size ≤ i := by
      have := List.drop_eq_nil_iff.1 hl
      simpa using this
    have none : ∀ b, i ≤ b → ops[b]? = none := fun b hb => Array.getElem?_eq_none (by omega)
    refine ⟨fun a b _ hib oa ob _ hob => ?_, fun b hib a ⟨o, e, ho, _⟩ => ?_⟩
    · rw [none b hib] at hob; cases hob
    · rw [none b hib] at ho; cases ho
  | o :: l, i, acc, hot, hl, h, hacc, hidx => by
    have ho : ops[i]? = some o := by
      have : (ops.toList.drop i)[0]? = some o := by rw [hl]; rfl
      rw [List.getElem?_drop] at this
      simpa using this
    have hl' : ops.toList.drop (i + 1) = l := by
      have : (ops.toList.drop i).drop 1 = l := by rw [hl]; rfl
      rwa [List.drop_drop] at this
    have h' : bnd (maskOf acc o.after.toList) (fun m => bnd (spotOf env ops i m o) fun s => bnd (pairsS s acc) fun hs => bnd (planL env ops l (Nat.succ i) (s :: acc)) fun r => some (appL hs r)) = some hot := h
    simp only [bnd_eq] at h'
    obtain ⟨m, hm, s, hs, hs', hps, r, hr, e⟩ := h'
    cases e
    obtain ⟨m1, m2⟩ := maskOf_ok hacc ho hm fun e he => by simpa using he
    obtain ⟨hso, hsi⟩ := spotOf_ok hs ho m1
    obtain ⟨r1, r2⟩ := planL_ok l (i + 1) (s :: acc) r hl' hr
      (fun t ht => by
        rcases List.mem_cons.1 ht with rfl | ht
        · exact ⟨o, hso⟩
        · exact hacc t ht)
      (fun k => by
        constructor
        · intro hk
          by_cases e : k = i
          · exact ⟨s, by simp, by rw [hsi, e]⟩
          · obtain ⟨t, ht, e'⟩ := (hidx k).1 (by omega)
            exact ⟨t, by simp [ht], e'⟩
        · rintro ⟨t, ht, e⟩
          rcases List.mem_cons.1 ht with rfl | ht
          · omega
          · have := (hidx k).2 ⟨t, ht, e⟩; omega)
    have weak : ∀ {x : List (Nat × Nat)} {a b}, (∀ p ∈ x, p ∈ appL hs' r) → PairOk env ops x a b → PairOk env ops (appL hs' r) a b := by
      intro x a b hx hp oa ob h1 h2
      rcases hp oa ob h1 h2 with h | ⟨g1, g2, g3⟩
      · exact .inl h
      · exact .inr ⟨g1, g2, fun hk => hx _ (g3 hk)⟩
    refine ⟨fun a b hab hib => ?_, fun b hib a he => ?_⟩
    · by_cases e : b = i
      · subst e
        obtain ⟨t, ht, e'⟩ := (hidx a).1 hab
        have := pairsS_ok hso hps hacc t ht
        rw [e', hsi] at this
        exact weak (fun p hp => mem_appL.2 (.inl hp)) this
      · exact weak (fun p hp => mem_appL.2 (.inr hp)) (r1 a b hab (by omega))
    · by_cases e : b = i
      · subst e
        obtain ⟨o', e, ho', hem, hbe, rfl⟩ := he
        rw [ho] at ho'; cases ho'
        exact (hidx _).2 (m2 e (by simpa using hem) hbe)
      · exact r2 b (by omega) a he

theorem plan_ok {env : Env} {ops : Array Oper} {hot : List (Nat × Nat)} (h : plan env ops = some hot) : (∀ a b, a < b → PairOk env ops hot a b) ∧ ∀ a b, Edge0 ops a b → a < b := by
  obtain ⟨h1, h2⟩ := planL_ok ops.toList 0 [] hot (by simp) h (by simp) (by simp)
  exact ⟨fun a b hab => h1 a b hab (Nat.zero_le _), fun a b he => h2 b (Nat.zero_le _) a he⟩

/-! ### The trace -/
def TT (tr : List Snap) (r : Tm × Heap) (k : Nat) : Tm := match tr[k]? with
  | some s => s.tm
  | none => r.1
def KK (tr : List Snap) (r : Tm × Heap) (k : Nat) : Heap := match tr[k]? with
  | some s => s.H
  | none => r.2
def VV (tr : List Snap) (k : Nat) : Value := match tr[k]? with
  | some s => s.v
  | none => undef

theorem trace_ok {env : Env} {call : Call} {all : Array Oper} : ∀ (l : List Oper) (id : Nat) (tm : Tm) (H : Heap) (tr : List Snap) (r : Tm × Heap), trace env call all l id tm H = some (tr, r) →
    TT tr r 0 = tm ∧ KK tr r 0 = H ∧ TT tr r l.length = r.1 ∧ KK tr r l.length = r.2 ∧ ∀ k o, l[k]? = some o →
      TT tr r (k + 1) = putT (TT tr r k) o.dst (VV tr k) ∧ (wantedB o all (TT tr r k) = true → evOp o.op env call (id + k) (TT tr r k) (KK tr r k) = some (VV tr k, KK tr r (k + 1))) ∧
      (wantedB o all (TT tr r k) = false → VV tr k = undef ∧ KK tr r (k + 1) = KK tr r k) ∧ ∃ s, tr[k]? = some s ∧ s.tm = TT tr r k ∧ s.H = KK tr r k ∧ s.v = VV tr k ∧ s.H' = KK tr r (k + 1)
  | [], id, tm, H, tr, r, h => by
    have h' : some (([] : List Snap), tm, H) = some (tr, r) := h
    cases h'
    exact ⟨rfl, rfl, rfl, rfl, fun k o ho => by cases ho⟩
  | o :: l, id, tm, H, tr, r, h => by
    have h' : ifB (wantedB o all tm) (bnd (evOp o.op env call id tm H) fun p => bnd (trace env call all l (Nat.succ id) (putT tm o.dst p.1) p.2) fun r => some (⟨tm, H, p.1, p.2⟩ :: r.1, r.2))
      (bnd (trace env call all l (Nat.succ id) (putT tm o.dst undef) H) fun r => some (⟨tm, H, undef, H⟩ :: r.1, r.2)) = some (tr, r) := h
    cases hw : wantedB o all tm with
    | true =>
      rw [hw, ifB_true] at h'
      simp only [bnd_eq] at h'
      obtain ⟨⟨v, H1⟩, hop, ⟨t, r'⟩, ht, e⟩ := h'
      cases e
      obtain ⟨a1, a2, a3, a4, a5⟩ := trace_ok l (id + 1) _ _ t _ ht
      refine ⟨rfl, rfl, a3, a4, fun k o' hk => ?_⟩
      cases k with
      | zero =>
        cases hk
        refine ⟨a1, fun _ => ?_, fun hf => ?_, _, rfl, rfl, rfl, rfl, a2.symm⟩
        · have h3 : some (v, H1) = some (v, KK t r' 0) := by rw [show KK t r' 0 = H1 from a2]
          exact hop.trans h3
        · have hf' : wantedB o all tm = false := hf
          rw [hw] at hf'; cases hf'
      | succ k =>
        have hidx : id + (k + 1) = id + 1 + k := by omega
        rw [hidx]
        exact a5 k o' hk
    | false =>
      rw [hw, ifB_false] at h'
      simp only [bnd_eq] at h'
      obtain ⟨⟨t, r'⟩, ht, e⟩ := h'
      cases e
      obtain ⟨a1, a2, a3, a4, a5⟩ := trace_ok l (id + 1) _ _ t _ ht
      refine ⟨rfl, rfl, a3, a4, fun k o' hk => ?_⟩
      cases k with
      | zero =>
        cases hk
        refine ⟨a1, fun hf => ?_, fun _ => ⟨rfl, a2⟩, _, rfl, rfl, rfl, rfl, a2.symm⟩
        have hf' : wantedB o all tm = true := hf
        rw [hw] at hf'; cases hf'
      | succ k =>
        have hidx : id + (k + 1) = id + 1 + k := by omega
        rw [hidx]
        exact a5 k o' hk

/-! ### Values that are the same -/
theorem all2_ok {f : Value → Value → Bool} (hf : ∀ x y, f x y = true → x = y) : ∀ {l m : List Value}, all2 f l m = true → l = m
  | [], [], _ => rfl
  | [], _ :: _, h => by cases h
  | _ :: _, [], h => by cases h
  | a :: l, b :: m, h => by
    have h' : (f a b && all2 f l m) = true := h
    rw [Bool.and_eq_true] at h'
    rw [hf a b h'.1, all2_ok hf h'.2]

theorem sameA_ok {a b : Option Addr} (h : sameA a b = true) : a = b := by
  cases a with
  | none => cases b with
    | none => rfl
    | some b => cases h
  | some a => cases b with
    | none => cases h
    | some b =>
      have h' : (Nat.beq a.block b.block && Nat.beq a.off b.off && noSpot a && noSpot b) = true := h
      simp only [Bool.and_eq_true] at h'
      obtain ⟨⟨⟨h1, h2⟩, h3⟩, h4⟩ := h'
      obtain ⟨ab, ao, as⟩ := a
      obtain ⟨bb, bo, bs⟩ := b
      rw [noSpot_eq] at h3 h4
      dsimp only at *
      rw [Nat.eq_of_beq_eq_true h1, Nat.eq_of_beq_eq_true h2, h3, h4]
theorem sameN_ok {a b : Option Nat} (h : sameN a b = true) : a = b := by
  cases a <;> cases b <;> first | rfl | (cases h; done) | skip
  rw [Nat.eq_of_beq_eq_true h]

theorem sameStep_ok {ih : Value → Value → Bool} (hf : ∀ x y, ih x y = true → x = y) (x y : Value) (h : sameStep ih x y = true) : x = y := by
  unfold sameStep at h
  split at h
  · rename_i a b; cases a <;> cases b <;> first | rfl | (cases h; done)
  · simp only [Bool.and_eq_true] at h
    have h2 := h.2
    rw [eqI_eq, beq_iff_eq] at h2
    rw [kn_eq h.1, h2]
  · rename_i a b
    rw [same_eq, beq_iff_eq] at h
    have : a = b := by
      obtain ⟨⟨a⟩⟩ := a; obtain ⟨⟨b⟩⟩ := b
      simp only at h; rw [h]
    rw [this]
  · rw [sameA_ok h]
  · simp only [Bool.and_eq_true] at h
    rw [sameA_ok h.1.1, Nat.eq_of_beq_eq_true h.1.2, Nat.eq_of_beq_eq_true h.2]
  · rw [sameN_ok h]
  · simp only [Bool.and_eq_true] at h
    rw [Nat.eq_of_beq_eq_true h.1.1, Array.ext' (all2_ok hf h.1.2), Array.ext' (all2_ok hf h.2)]
  · rfl
  · simp only [Bool.and_eq_true] at h
    rw [Nat.eq_of_beq_eq_true h.1, hf _ _ h.2]
  · rfl
  · rw [Array.ext' (all2_ok hf h)]
  · rw [Array.ext' (all2_ok hf h)]
  · cases h

theorem sameV_ok : ∀ (d : Nat) (x y : Value), sameV d x y = true → x = y
  | 0, _, _, h => by cases h
  | d + 1, x, y, h => sameStep_ok (sameV_ok d) x y h

theorem sameRes_ok {r : Res} {v : Value} (h : sameRes r v = true) : ∃ H, r = some (v, H) := by
  cases r with
  | none => cases h
  | some p => exact ⟨p.2, by rw [← sameV_ok 6 p.1 v h]⟩

theorem hotOk_mem {env : Env} {call : Call} {all : Array Oper} {base : Nat} {tr : List Snap} : ∀ {l : List (Nat × Nat)}, hotOk env call all base tr l = some () → ∀ p ∈ l, hotOne env call all base tr p = some ()
  | [], _, p, hp => by cases hp
  | q :: l, h, p, hp => by
    have h' : bnd (hotOne env call all base tr q) (fun _ => hotOk env call all base tr l) = some () := h
    rw [bnd_eq] at h'
    obtain ⟨u, hu, h'⟩ := h'
    rcases List.mem_cons.1 hp with rfl | hp
    · exact hu
    · exact hotOk_mem h' p hp
end Go.Ev
