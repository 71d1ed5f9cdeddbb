/- Stages: a call in one memory is run in a theorem of its own; where it is met in that memory, its answer is laid. -/
import Derived.Test.YtildicgoadiodaaGreatDoorEvEnv
/-! Stages: a call in one memory is run in a theorem of its own; where it is met in that memory, its answer is laid. -/
namespace Go.Ev
open Go.RowKit
variable [Sg]

noncomputable def sameAcc (a b : Acc) : Bool := Acc.rec (motive := fun _ => Bool) (Acc.rec (motive := fun _ => Bool) true false false b) (Acc.rec (motive := fun _ => Bool) false true false b) (Acc.rec (motive := fun _ => Bool) false false true b) a
noncomputable def sameEs (l : List MapEntry) : List MapEntry → Bool :=
  List.rec (motive := fun _ => List MapEntry → Bool) (fun m => List.rec (motive := fun _ => Bool) true (fun _ _ _ => false) m)
    (fun a _ ih m => List.rec (motive := fun _ => Bool) false (fun b t _ => sameV 8 a.key b.key && sameV 8 a.val b.val && Nat.beq a.born b.born && ih t) m) l
noncomputable def sameB (x y : Blk) : Bool :=
  match x, y with
  | .cells a e r, .cells b f s => all2 (sameV 8) a b && Nat.beq e f && sameAcc r s
  | .map es c, .map fs d => sameEs es fs && Nat.beq c d
  | .iter s p, .iter t q => same s t && Nat.beq p q
  | .box v, .box u => sameV 8 v u
  | _, _ => false
noncomputable def sameOB (x y : Option Blk) : Bool :=
  Option.rec (motive := fun _ => Bool) (Option.rec (motive := fun _ => Bool) true (fun _ => false) y) (fun a => Option.rec (motive := fun _ => Bool) false (fun b => sameB a b) y) x

omit [Sg] in
theorem sameAcc_ok {a b : Acc} (h : sameAcc a b = true) : a = b := by
  cases a <;> cases b <;> first | rfl | (cases h; done)
omit [Sg] in
theorem same_ok' : ∀ {x y : List UInt8}, same x y = true → x = y
  | [], [], _ => rfl
  | [], _ :: _, h => by cases h
  | _ :: _, [], h => by cases h
  | a :: x, b :: y, h => by
    have h' : ifB (Nat.beq a.toNat b.toNat) (same x y) false = true := h
    cases hb : Nat.beq a.toNat b.toNat with
    | false => rw [hb, ifB_false] at h'; cases h'
    | true =>
      rw [hb, ifB_true] at h'
      rw [same_ok' h', UInt8.toNat_inj.1 (Nat.eq_of_beq_eq_true hb)]
omit [Sg] in
theorem sameEs_ok : ∀ {l m : List MapEntry}, sameEs l m = true → l = m
  | [], [], _ => rfl
  | [], _ :: _, h => by cases h
  | _ :: _, [], h => by cases h
  | a :: l, b :: m, h => by
    have h' : (sameV 8 a.key b.key && sameV 8 a.val b.val && Nat.beq a.born b.born && sameEs l m) = true := h
    simp only [Bool.and_eq_true] at h'
    obtain ⟨⟨⟨h1, h2⟩, h3⟩, h4⟩ := h'
    have e1 := sameV_ok 8 _ _ h1
    have e2 := sameV_ok 8 _ _ h2
    have e3 := Nat.eq_of_beq_eq_true h3
    rw [sameEs_ok h4]
    obtain ⟨k, v, n⟩ := a
    obtain ⟨k', v', n'⟩ := b
    dsimp only at e1 e2 e3
    subst e1 e2 e3
    rfl
omit [Sg] in
theorem sameB_ok {x y : Blk} (h : sameB x y = true) : x = y := by
  cases x <;> cases y <;> first | (cases h; done) | skip
  · have h' := h
    unfold sameB at h'
    simp only [Bool.and_eq_true] at h'
    rw [all2_ok (sameV_ok 8) h'.1.1, Nat.eq_of_beq_eq_true h'.1.2, sameAcc_ok h'.2]
  · have h' := h
    unfold sameB at h'
    simp only [Bool.and_eq_true] at h'
    rw [sameEs_ok h'.1, Nat.eq_of_beq_eq_true h'.2]
  · have h' := h
    unfold sameB at h'
    simp only [Bool.and_eq_true] at h'
    rw [same_ok' h'.1, Nat.eq_of_beq_eq_true h'.2]
  · rw [sameV_ok 8 _ _ h]
omit [Sg] in
theorem sameOB_ok {x y : Option Blk} (h : sameOB x y = true) : x = y := by
  cases x <;> cases y <;> first | rfl | (cases h; done) | exact congrArg some (sameB_ok h)

/-- A call in a memory of which `pre` is known; what it answers; what it turns. -/
structure Stage where
  args : List Value
  next : Nat
  pre : List (Nat × Blk)
  out : Value
  next' : Nat
  diff : List (Nat × Option Blk)

noncomputable def Heap.lay (H : Heap) (b : Nat) (x : Option Blk) : Heap := ⟨(putF (Option Blk) 5 b).f x H.blks, H.next⟩
noncomputable def heapOf (l : List (Nat × Blk)) (n : Nat) : Heap := List.rec (motive := fun _ => Heap) ⟨bank none 5, n⟩ (fun p _ ih => ih.set p.1 p.2) l
noncomputable def applyD (d : List (Nat × Option Blk)) (H : Heap) : Heap := List.rec (motive := fun _ => Heap) H (fun p _ ih => ih.lay p.1 p.2) d
noncomputable def inH (H : Heap) (l : List (Nat × Blk)) : Bool := List.rec (motive := fun _ => Bool) true (fun p _ ih => ifB (sameOB (some p.2) (H.get p.1)) ih false) l
noncomputable def hasK {α : Type} (b : Nat) (l : List (Nat × α)) : Bool := List.rec (motive := fun _ => Bool) false (fun p _ ih => ifB (Nat.beq p.1 b) true ih) l
noncomputable def withNext (n : Nat) (H : Heap) : Heap := ⟨H.blks, n⟩

noncomputable def stageSpec (tab : List Stage) (args : List Value) (H : Heap) : Res :=
  List.rec (motive := fun _ => Res) none
    (fun e _ ih => ifB (Nat.beq e.next H.next) (ifB (all2 (sameV 8) e.args args) (ifB (inH H e.pre) (some (e.out, withNext e.next' (applyD e.diff H))) ih) ih) ih) tab

noncomputable def diffOk (e : Stage) (H : Heap) : Bool := List.rec (motive := fun _ => Bool) true (fun p _ ih => ifB (sameOB p.2 (H.get p.1)) (ifB (Nat.ble e.next p.1) ih (ifB (hasK p.1 e.pre) ih false)) false) e.diff
noncomputable def preOk (e : Stage) (H : Heap) : Bool := List.rec (motive := fun _ => Bool) true (fun p _ ih => ifB (hasK p.1 e.diff) ih (ifB (sameOB (some p.2) (H.get p.1)) ih false)) e.pre
/-- A stage's own run. -/
noncomputable def stageGood (r : Res) (e : Stage) : Bool :=
  Option.rec (motive := fun _ => Bool) false (fun p => ifB (sameV 8 p.1 e.out) (ifB (Nat.beq p.2.next e.next') (ifB (diffOk e p.2) (preOk e p.2) false) false) false) r
noncomputable def stageRun (call : Call) (f : FuncId) (e : Stage) : Bool := stageGood (call f e.args (heapOf e.pre e.next)) e

section
variable {H : Heap}
omit [Sg] in
theorem Heap.get_lay_same (b : Nat) (x : Option Blk) : (H.lay b x).get b = x := by
  show (getF none 5 b).f ((putF (Option Blk) 5 b).f x H.blks) = _
  rw [getF_putF, if_pos rfl]
omit [Sg] in
theorem Heap.get_lay_ne {b c : Nat} {x : Option Blk} (h : c ≠ b) : (H.lay b x).get c = H.get c := by
  show (getF none 5 c).f ((putF (Option Blk) 5 b).f x H.blks) = _
  rw [getF_putF, if_neg h]; rfl
omit [Sg] in
theorem hasK_eq {α : Type} {b : Nat} : ∀ {l : List (Nat × α)}, hasK b l = true ↔ ∃ x, (b, x) ∈ l
  | [] => by
    constructor
    · intro h; cases h
    · rintro ⟨x, hx⟩; cases hx
  | p :: l => by
    have e : hasK b (p :: l) = ifB (Nat.beq p.1 b) true (hasK b l) := rfl
    rw [e]
    cases hb : Nat.beq p.1 b with
    | true =>
      rw [ifB_true]
      have := Nat.eq_of_beq_eq_true hb
      subst this
      exact ⟨fun _ => ⟨p.2, by simp⟩, fun _ => rfl⟩
    | false =>
      rw [ifB_false, hasK_eq (l := l)]
      have hne : p.1 ≠ b := fun e => by rw [e, Nat.beq_refl] at hb; cases hb
      constructor
      · rintro ⟨x, hx⟩; exact ⟨x, List.mem_cons_of_mem _ hx⟩
      · rintro ⟨x, hx⟩
        rcases List.mem_cons.1 hx with rfl | hx
        · exact (hne rfl).elim
        · exact ⟨x, hx⟩
omit [Sg] in
theorem inH_ok : ∀ {l : List (Nat × Blk)}, inH H l = true → ∀ p ∈ l, H.get p.1 = some p.2
  | [], _, _, hp => by cases hp
  | q :: l, h, p, hp => by
    have h' : ifB (sameOB (some q.2) (H.get q.1)) (inH H l) false = true := h
    cases hb : sameOB (some q.2) (H.get q.1) with
    | false => rw [hb, ifB_false] at h'; cases h'
    | true =>
      rw [hb, ifB_true] at h'
      rcases List.mem_cons.1 hp with rfl | hp
      · exact (sameOB_ok hb).symm
      · exact inH_ok h' p hp
omit [Sg] in
theorem heapOf_get {n b : Nat} : ∀ {l : List (Nat × Blk)} {x : Blk}, (heapOf l n).get b = some x → (b, x) ∈ l
  | [], x, h => by
    have : (⟨bank none 5, n⟩ : Heap).get b = some x := h
    unfold Heap.get at this
    rw [getF_bank] at this
    cases this
  | p :: l, x, h => by
    have h' : ((heapOf l n).set p.1 p.2).get b = some x := h
    by_cases e : b = p.1
    · subst e
      rw [Heap.get_set_same] at h'
      cases h'
      simp
    · rw [Heap.get_set_ne e] at h'
      exact List.mem_cons_of_mem _ (heapOf_get h')
omit [Sg] in
theorem heapOf_has {n b : Nat} : ∀ {l : List (Nat × Blk)} {x : Blk}, (b, x) ∈ l → ∃ y, (heapOf l n).get b = some y
  | [], x, h => by cases h
  | p :: l, x, h => by
    show ∃ y, ((heapOf l n).set p.1 p.2).get b = some y
    by_cases e : b = p.1
    · subst e; exact ⟨_, Heap.get_set_same _ _ _⟩
    · rw [Heap.get_set_ne e]
      rcases List.mem_cons.1 h with rfl | h
      · exact (e rfl).elim
      · exact heapOf_has h
omit [Sg] in
theorem heapOf_next {n : Nat} : ∀ {l : List (Nat × Blk)}, (heapOf l n).next = n
  | [] => rfl
  | _ :: l => heapOf_next (l := l)
omit [Sg] in
theorem applyD_next : ∀ {d : List (Nat × Option Blk)}, (applyD d H).next = H.next
  | [] => rfl
  | _ :: d => applyD_next (d := d)
omit [Sg] in
theorem applyD_get {b : Nat} : ∀ {d : List (Nat × Option Blk)}, (∃ x, (b, x) ∈ d ∧ (applyD d H).get b = x) ∨ ((∀ x, (b, x) ∉ d) ∧ (applyD d H).get b = H.get b)
  | [] => .inr ⟨fun _ h => (by cases h), rfl⟩
  | p :: d => by
    have e : applyD (p :: d) H = (applyD d H).lay p.1 p.2 := rfl
    rw [e]
    by_cases hb : b = p.1
    · subst hb
      exact .inl ⟨p.2, by simp, Heap.get_lay_same _ _⟩
    · rw [Heap.get_lay_ne hb]
      rcases (applyD_get (b := b) (d := d)) with ⟨x, h1, h2⟩ | ⟨h1, h2⟩
      · exact .inl ⟨x, List.mem_cons_of_mem _ h1, h2⟩
      · refine .inr ⟨fun x hx => ?_, h2⟩
        rcases List.mem_cons.1 hx with rfl | hx
        · exact hb rfl
        · exact h1 x hx
omit [Sg] in
theorem diffOk_ok {e : Stage} (h : diffOk e H = true) : ∀ p ∈ e.diff, H.get p.1 = p.2 ∧ (e.next ≤ p.1 ∨ ∃ x, (p.1, x) ∈ e.pre) := by
  unfold diffOk at h
  generalize e.diff = d at h
  induction d with
  | nil => intro p hp; cases hp
  | cons q d ih =>
    intro p hp
    have h' : ifB (sameOB q.2 (H.get q.1)) (ifB (Nat.ble e.next q.1) (diffOk { e with diff := d } H) (ifB (hasK q.1 e.pre) (diffOk { e with diff := d } H) false)) false = true := h
    cases h1 : sameOB q.2 (H.get q.1) with
    | false => rw [h1, ifB_false] at h'; cases h'
    | true =>
      rw [h1, ifB_true] at h'
      have hq := (sameOB_ok h1).symm
      cases h2 : Nat.ble e.next q.1 with
      | true =>
        rw [h2, ifB_true] at h'
        rcases List.mem_cons.1 hp with rfl | hp
        · exact ⟨hq, .inl (Nat.le_of_ble_eq_true h2)⟩
        · exact ih h' p hp
      | false =>
        rw [h2, ifB_false] at h'
        cases h3 : hasK q.1 e.pre with
        | false => rw [h3, ifB_false] at h'; cases h'
        | true =>
          rw [h3, ifB_true] at h'
          rcases List.mem_cons.1 hp with rfl | hp
          · exact ⟨hq, .inr (hasK_eq.1 h3)⟩
          · exact ih h' p hp
omit [Sg] in
theorem preOk_ok {e : Stage} (h : preOk e H = true) : ∀ p ∈ e.pre, (∃ x, (p.1, x) ∈ e.diff) ∨ H.get p.1 = some p.2 := by
  unfold preOk at h
  generalize e.pre = d at h
  induction d with
  | nil => intro p hp; cases hp
  | cons q d ih =>
    intro p hp
    have h' : ifB (hasK q.1 e.diff) (preOk { e with pre := d } H) (ifB (sameOB (some q.2) (H.get q.1)) (preOk { e with pre := d } H) false) = true := h
    cases h1 : hasK q.1 e.diff with
    | true =>
      rw [h1, ifB_true] at h'
      rcases List.mem_cons.1 hp with rfl | hp
      · exact .inl (hasK_eq.1 h1)
      · exact ih h' p hp
    | false =>
      rw [h1, ifB_false] at h'
      cases h2 : sameOB (some q.2) (H.get q.1) with
      | false => rw [h2, ifB_false] at h'; cases h'
      | true =>
        rw [h2, ifB_true] at h'
        rcases List.mem_cons.1 hp with rfl | hp
        · exact .inr (sameOB_ok h2).symm
        · exact ih h' p hp
end

section
variable {P : Program}
omit [Sg] in
theorem stageSpec_mem {args : List Value} {H : Heap} {v : Value} {H' : Heap} : ∀ {tab : List Stage}, stageSpec tab args H = some (v, H') →
    ∃ e ∈ tab, e.next = H.next ∧ e.args = args ∧ (∀ p ∈ e.pre, H.get p.1 = some p.2) ∧ v = e.out ∧ H' = withNext e.next' (applyD e.diff H)
  | [], h => by cases h
  | e :: tab, h => by
    have h' : ifB (Nat.beq e.next H.next) (ifB (all2 (sameV 8) e.args args) (ifB (inH H e.pre) (some (e.out, withNext e.next' (applyD e.diff H))) (stageSpec tab args H)) (stageSpec tab args H)) (stageSpec tab args H) = some (v, H') := h
    have rest : stageSpec tab args H = some (v, H') → _ := fun hh => stageSpec_mem (tab := tab) hh
    have up : (∃ e' ∈ tab, e'.next = H.next ∧ e'.args = args ∧ (∀ p ∈ e'.pre, H.get p.1 = some p.2) ∧ v = e'.out ∧ H' = withNext e'.next' (applyD e'.diff H)) →
        ∃ e' ∈ e :: tab, e'.next = H.next ∧ e'.args = args ∧ (∀ p ∈ e'.pre, H.get p.1 = some p.2) ∧ v = e'.out ∧ H' = withNext e'.next' (applyD e'.diff H) :=
      fun ⟨e', h1, h2⟩ => ⟨e', List.mem_cons_of_mem _ h1, h2⟩
    cases h1 : Nat.beq e.next H.next with
    | false => rw [h1, ifB_false] at h'; exact up (rest h')
    | true =>
      rw [h1, ifB_true] at h'
      cases h2 : all2 (sameV 8) e.args args with
      | false => rw [h2, ifB_false] at h'; exact up (rest h')
      | true =>
        rw [h2, ifB_true] at h'
        cases h3 : inH H e.pre with
        | false => rw [h3, ifB_false] at h'; exact up (rest h')
        | true =>
          rw [h3, ifB_true] at h'
          cases h'
          exact ⟨e, by simp, Nat.eq_of_beq_eq_true h1, all2_ok (sameV_ok 8) h2, inH_ok h3, rfl, rfl⟩

theorem stage_post {e : Stage} {H H1 : Heap} {ρ : Map} {w : World} (hH : HR P ρ H w) (hn : e.next = H.next) (hpre : ∀ p ∈ e.pre, H.get p.1 = some p.2)
    (hd : diffOk e H1 = true) (hp : preOk e H1 = true) (hn' : H1.next = e.next') {v' : Value} {w' : World}
    (h : Post P (fun b => (heapOf e.pre e.next).next ≤ b) ρ (heapOf e.pre e.next) w e.out H1 v' w') :
    Post P (fun b => H.next ≤ b) ρ H w e.out (withNext e.next' (applyD e.diff H)) v' w' := by
  obtain ⟨ρ', hV, hR, hS⟩ := h
  have hD := diffOk_ok hd
  have hP := preOk_ok hp
  have hnx : (heapOf e.pre e.next).next = H.next := by rw [heapOf_next, hn]
  -- what the own memory knows, the great one knows
  have sub : ∀ b x, (heapOf e.pre e.next).get b = some x → H.get b = some x := fun b x hx => hpre _ (heapOf_get hx)
  have hasE : ∀ b x, (b, x) ∈ e.pre → (heapOf e.pre e.next).get b = H.get b := fun b x hx => by
    obtain ⟨y, hy⟩ := heapOf_has (n := e.next) hx
    rw [hy, sub b y hy]
  -- the memory behind: turned, or as it was
  have get2 : ∀ b, (withNext e.next' (applyD e.diff H)).get b = (applyD e.diff H).get b := fun _ => rfl
  -- a block behind: of the own memory, or untouched and not known there
  have kind : ∀ b x, (withNext e.next' (applyD e.diff H)).get b = some x →
      (H1.get b = some x) ∨ (H.get b = some x ∧ (heapOf e.pre e.next).get b = none) := by
    intro b x hx
    rw [get2] at hx
    rcases applyD_get (H := H) (b := b) (d := e.diff) with ⟨y, h1, h2⟩ | ⟨h1, h2⟩
    · rw [h2] at hx
      have := (hD _ h1).1
      exact .inl (by rw [this]; exact hx)
    · rw [h2] at hx
      cases hg : (heapOf e.pre e.next).get b with
      | none => exact .inr ⟨hx, rfl⟩
      | some y =>
        have hy := sub b y hg
        rw [hx] at hy
        cases hy
        rcases hP _ (heapOf_get hg) with ⟨z, hz⟩ | h3
        · exact (h1 z hz).elim
        · exact .inl h3
  have old : ∀ {b : Nat} {x : Blk} {e' : Emb}, H.get b = some x → ρ' b = some e' → ρ b = some e' := by
    intro b x e' hx he
    rcases hS.ext b with h1 | ⟨h1, h2⟩
    · rw [← h1]; exact he
    · rw [hnx] at h2
      rw [hH.top b h2] at hx; cases hx
  have live : ∀ {b : Nat} {x : Blk} {e' : Emb}, H.get b = some x → ρ b = some e' → e'.B < w.heap.size := by
    intro b x e' hx he
    have hb := hH.blk b x e' hx he
    rcases Nat.lt_or_ge e'.B w.heap.size with h1 | h1
    · exact h1
    · rw [Array.getElem?_eq_none h1] at hb
      cases hb
  have notWr : ∀ {b : Nat} {x : Blk} {e' : Emb}, H.get b = some x → (heapOf e.pre e.next).get b = none → ρ b = some e' → ¬ Wr ρ (heapOf e.pre e.next) e'.B := by
    rintro b x e' hx hno he ⟨b', y, e'', h1, h2, h3, h4⟩
    have := hH.inj b' b y x e'' e' (sub _ _ h1) hx h2 he h4 h3
    subst this
    rw [hno] at h1; cases h1
  have notMp : ∀ {b : Nat} {x : Blk} {e' : Emb}, H.get b = some x → (heapOf e.pre e.next).get b = none → ρ b = some e' → wr x = true → ¬ Mp ρ (heapOf e.pre e.next) e'.B := by
    rintro b x e' hx hno he hw ⟨b', y, e'', h1, h2, h3⟩
    have := hH.inj b b' x y e' e'' hx (sub _ _ h1) he h2 hw h3.symm
    subst this
    rw [hno] at h1; cases h1
  refine ⟨ρ', hV, ⟨?_, ?_, ?_, ?_, ?_⟩, ⟨?_, hS.os, hS.tape, hS.output, hS.size, ?_, ?_, ?_, ?_, ?_, ?_⟩⟩
  · intro b x e' hx he
    rcases kind b x hx with h1 | ⟨h1, h2⟩
    · exact hR.blk b x e' h1 he
    · have he0 := old h1 he
      have hb := hH.blk b x e' h1 he0
      rw [hS.keep _ (live h1 he0) (notWr h1 h2 he0)]
      exact hb.mono hS.le
  · intro b1 b2 x1 x2 e1 e2 h1 h2 r1 r2 hw hB
    rcases kind b1 x1 h1 with k1 | ⟨k1, n1⟩
    · rcases kind b2 x2 h2 with k2 | ⟨k2, n2⟩
      · exact hR.inj b1 b2 x1 x2 e1 e2 k1 k2 r1 r2 hw hB
      · exfalso
        have r2' := old k2 r2
        refine notWr k2 n2 r2' ?_
        refine hS.wr _ (live k2 r2') ⟨b1, x1, e1, k1, r1, hB, hw⟩
    · have r1' := old k1 r1
      rcases kind b2 x2 h2 with k2 | ⟨k2, n2⟩
      · exfalso
        refine notMp k1 n1 r1' hw ?_
        exact hS.mp _ (live k1 r1') ⟨b2, x2, e2, k2, r2, hB.symm⟩
      · exact hH.inj b1 b2 x1 x2 e1 e2 k1 k2 r1' (old k2 r2) hw hB
  · intro b e' he
    have := hR.dom b e' he
    rw [hn'] at this; exact this
  · have := hR.lim
    rw [hn'] at this; exact this
  · intro b hb
    have hb' : e.next' ≤ b := hb
    rw [get2]
    rcases applyD_get (H := H) (b := b) (d := e.diff) with ⟨y, h1, h2⟩ | ⟨h1, h2⟩
    · rw [h2]
      exact (hD _ h1).1.symm.trans (hR.top b (by rw [hn']; exact hb'))
    · rw [h2]
      refine hH.top b ?_
      have := hS.next
      rw [hnx, hn'] at this
      omega
  · intro b
    rcases hS.ext b with h1 | ⟨h1, h2⟩
    · exact .inl h1
    · exact .inr ⟨h1, by rw [← hnx]; exact h2⟩
  · intro B hB hw
    exact hS.keep B hB fun ⟨b, x, e', h1, h2, h3, h4⟩ => hw ⟨b, x, e', sub _ _ h1, h2, h3, h4⟩
  · rintro B hB ⟨b, x, e', h1, h2, h3, h4⟩
    rcases kind b x h1 with k1 | ⟨k1, n1⟩
    · obtain ⟨b', y, e'', g1, g2, g3, g4⟩ := hS.wr B hB ⟨b, x, e', k1, h2, h3, h4⟩
      exact ⟨b', y, e'', sub _ _ g1, g2, g3, g4⟩
    · exact ⟨b, x, e', k1, old k1 h2, h3, h4⟩
  · have := hS.next
    rw [hnx, hn'] at this
    exact this
  · rintro B hB ⟨b, x, e', h1, h2, h3⟩
    rcases kind b x h1 with k1 | ⟨k1, n1⟩
    · obtain ⟨b', y, e'', g1, g2, g3⟩ := hS.mp B hB ⟨b, x, e', k1, h2, h3⟩
      exact ⟨b', y, e'', sub _ _ g1, g2, g3⟩
    · exact ⟨b, x, e', k1, old k1 h2, h3⟩
  · intro b hb hs
    rw [get2]
    rcases applyD_get (H := H) (b := b) (d := e.diff) with ⟨y, h1, h2⟩ | ⟨h1, h2⟩
    · rw [h2]
      refine (hD _ h1).1.symm.trans ((hS.abs1 b hb (by rw [hnx]; exact hs)).trans ?_)
      rcases (hD _ h1).2 with h3 | ⟨x, h3⟩
      · exact (hs (by show H.next ≤ b; rw [← hn]; exact h3)).elim
      · exact hasE b x h3
    · rw [h2]
  · intro b hb hs
    rw [get2]
    rcases applyD_get (H := H) (b := b) (d := e.diff) with ⟨y, h1, h2⟩ | ⟨h1, h2⟩
    · rcases (hD _ h1).2 with h3 | ⟨x, h3⟩
      · exact (hs (by show H.next ≤ b; rw [← hn]; exact h3)).elim
      · rw [hpre _ h3] at hb; cases hb
    · rw [h2]; exact hb

theorem stage_ok {call : Call} (hC : CallsOk P call) {f : FuncId} {tab : List Stage} (h : ∀ e ∈ tab, stageRun call f e = true) : SpecOk P f (stageSpec tab) := by
  intro args H v H' hs ρ w args' hA hH
  obtain ⟨e, he, hn, ha, hpre, rfl, rfl⟩ := stageSpec_mem hs
  subst ha
  have h1 := h e he
  unfold stageRun stageGood at h1
  cases hr : call f e.args (heapOf e.pre e.next) with
  | none => rw [hr] at h1; cases h1
  | some p =>
    rw [hr] at h1
    have h2 : ifB (sameV 8 p.1 e.out) (ifB (Nat.beq p.2.next e.next') (ifB (diffOk e p.2) (preOk e p.2) false) false) false = true := h1
    cases c1 : sameV 8 p.1 e.out with
    | false => rw [c1, ifB_false] at h2; cases h2
    | true =>
    rw [c1, ifB_true] at h2
    cases c2 : Nat.beq p.2.next e.next' with
    | false => rw [c2, ifB_false] at h2; cases h2
    | true =>
    rw [c2, ifB_true] at h2
    cases c3 : diffOk e p.2 with
    | false => rw [c3, ifB_false] at h2; cases h2
    | true =>
    rw [c3, ifB_true] at h2
    obtain ⟨v, H1⟩ := p
    have ev := sameV_ok 8 _ _ c1
    dsimp only at ev c2 c3 h2 hr
    subst ev
    have hR0 : HR P ρ (heapOf e.pre e.next) w := by
      have sub : ∀ b x, (heapOf e.pre e.next).get b = some x → H.get b = some x := fun b x hx => hpre _ (heapOf_get hx)
      refine ⟨fun b x e' h1 h2 => hH.blk b x e' (sub _ _ h1) h2, fun b1 b2 x1 x2 e1 e2 h1 h2 => hH.inj b1 b2 x1 x2 e1 e2 (sub _ _ h1) (sub _ _ h2), fun b e' h1 => ?_, ?_, fun b hb => ?_⟩
      · rw [heapOf_next, hn]; exact hH.dom b e' h1
      · rw [heapOf_next, hn]; exact hH.lim
      · rw [heapOf_next, hn] at hb
        cases hg : (heapOf e.pre e.next).get b with
        | none => rfl
        | some x =>
          have := sub b x hg
          rw [hH.top b hb] at this; cases this
    exact (hC f e.args _ _ H1 hr ρ w args' hA hR0).mono fun v' w' hP => stage_post hH hn hpre c3 h2 (Nat.eq_of_beq_eq_true c2) hP

/-- A run, as a contract. -/
theorem call_spec {call : Call} (hC : CallsOk P call) (f : FuncId) : SpecOk P f (call f) := hC f
end
end Go.Ev
