/- Contracts out of tables: a function that looks at plain values alone is run once for each. -/
import Derived.Test.YthnojgpobfpgeaaGreatDoorEvEnv
import Derived.Laws.IdiomRangeMap
/-! Contracts out of tables: a function that looks at plain values alone is run once for each. -/
namespace Go.Ev
open Go.RowKit
variable [Sg]

/-- A value without blocks. -/
noncomputable def flat (v : Value) : Bool :=
 match v with
 | .agg cs => allPlain cs.toList
 | .tuple cs => allPlain cs.toList
 | v => plain v

theorem plain_inv {ρ : Map} {v v' : Value} (hp : plain v = true) (h : V ρ v v') : v' = v := by
 cases h <;> first | rfl | (cases hp; done)

theorem allPlain_inv {ρ : Map} : ∀ {l l' : List Value}, allPlain l = true → VL ρ l l' → l' = l
 | [], _, _, .nil => rfl
 | x :: l, x' :: l', h, .cons hx ht => by
  have h' : ifB (plain x) (allPlain l) false = true := h
  cases hp : plain x with
  | false => rw [hp, ifB_false] at h'; cases h'
  | true =>
   rw [hp, ifB_true] at h'
   rw [plain_inv hp hx, allPlain_inv h' ht]

theorem flat_inv {ρ : Map} {v v' : Value} (hf : flat v = true) (h : V ρ v v') : v' = v := by
 cases v with
 | agg cs =>
  cases h with
  | agg ha _ => rw [allPlain_inv hf ha]
 | tuple cs =>
  cases h with
  | tuple ha => rw [allPlain_inv hf ha]
 | _ => exact plain_inv hf h

theorem flat_V {ρ : Map} {v : Value} (hf : flat v = true) : V ρ v v := by
 cases v with
 | agg cs => exact .agg (allPlain_V (ρ := ρ) (l := cs.toList) hf).1 (allPlain_V (ρ := ρ) (l := cs.toList) hf).2
 | tuple cs => exact .tuple (allPlain_V (ρ := ρ) (l := cs.toList) hf).1
 | _ => exact .plain hf

section
variable {P : Program}

/-- What is left of a run in a memory of its own, none of which may be written. -/
theorem frame_post {ρ0 ρ : Map} {H0 H H1 : Heap} {w : World} {v : Value} (hH : HR P ρ H w) (hw : ∀ B, ¬ Wr ρ0 H0 B) (hf : flat v = true) {S0 S : Nat → Prop} {v' : Value} {w' : World}
  (h : Post P S0 ρ0 H0 w v H1 v' w') : Post P S ρ H w v H v' w' := by
 obtain ⟨ρ', hV, hR, hS⟩ := h
 have hb : ∀ B, B < w.heap.size → w'.heap[B]? = w.heap[B]? := fun B hB => hS.keep B hB (hw B)
 refine ⟨ρ, ?_, ⟨fun b x e h1 h2 => ?_, hH.inj, hH.dom, hH.lim, hH.top⟩, ⟨fun _ => .inl rfl, hS.os, hS.tape, hS.output, hS.size, fun B hB _ => hb B hB, fun _ _ h => h, Nat.le_refl _, fun _ _ h => h, fun _ _ _ => rfl, fun _ h _ => h⟩⟩
 ·
  rw [flat_inv hf hV]; exact flat_V hf
 ·
  have h3 := hH.blk b x e h1 h2
  rw [hb]
  ·
   exact h3
  ·
   rcases Nat.lt_or_ge e.B w.heap.size with h | h
   ·
    exact h
   ·
    rw [Array.getElem?_eq_none h] at h3; cases h3

/-! ### Plain arguments -/

omit [Sg] in
theorem no_Wr {H : Heap} (B : Nat) : ¬ Wr (fun _ => none) H B := fun ⟨_, _, _, _, h, _⟩ => by cases h

/-! ### A slice that is looked at alone -/

end
end Go.Ev

namespace Go.Proofs
theorem next_tape {P : Program} {w w' : World} {v : Value} {ty : TypeId} {r bm since c0 : Nat} {seen : Array Nat} {es : Array MapEntry} {clock : Nat} (hr : w.heap[r]? = some (.mapIter (some bm) since seen c0)) (hb : w.heap[bm]? = some (.map es clock))
  (h : (Instr.next (.pointer (some ⟨r, 0, none⟩)) false ty).run P w = .ok v w') : w'.tape = w.tape := by
 have hset : ∀ (x : Obj) (w1 : World), w1.heap = w.heap → (setObj r x).run P w1 = .ok () { w1 with heap := w1.heap.setIfInBounds r x } := fun x w1 e => by
  simp only [setObj, Sem.run, e, hr]
 simp only [Instr.next, getObj, Sem.run_bind, Sem.run, hr, hb, Result.andThen] at h
 split at h
 ·
  cases h
 ·
  have hc : ∀ q, ∃ n w1, (choose q).run P w = .ok n w1 ∧ w1.heap = w.heap ∧ w1.tape = w.tape := by
   intro q
   unfold choose Sem.run
   split
   ·
    exact ⟨_, _, rfl, rfl, rfl⟩
   ·
    exact ⟨_, _, rfl, rfl, rfl⟩
  generalize hq : (Question.mapNext _) = q at h
  obtain ⟨n, w1, h1, h2, h3⟩ := hc q
  rw [Sem.run_bind, h1] at h
  dsimp only [Result.andThen] at h
  split at h
  ·
   simp only [Sem.run_bind, hset _ _ h2, Result.andThen, Sem.run_pure] at h
   cases h; exact h3
  ·
   cases h; exact h3
  ·
   cases h
end Go.Proofs
