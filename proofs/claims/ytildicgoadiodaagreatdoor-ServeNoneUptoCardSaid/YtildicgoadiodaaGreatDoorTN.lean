/- A part of the proof. -/
import Derived.Laws.IdiomRangeMap
namespace Go.Proofs
theorem next_tape {P : Program} {w w' : World} {v : Value} {ty : TypeId} {r bm since c0 : Nat} {seen : Array Nat} {es : Array MapEntry} {clock : Nat} (hr : w.heap[r]? = some (.mapIter (some bm) since seen c0)) (hb : w.heap[bm]? = some (.map es clock))
    (h : (Instr.next (.pointer (some ⟨r, 0, none⟩)) false ty).run P w = .ok v w') : w'.tape = w.tape := by
  have hset : ∀ (x : Obj) (w1 : World), w1.heap = w.heap → (setObj r x).run P w1 = .ok () { w1 with heap := w1.heap.setIfInBounds r x } := fun x w1 e => by
    simp only [setObj, Sem.run, e, hr]
  simp only [Instr.next, getObj, Sem.run_bind, Sem.run, hr, hb, Result.andThen] at h
  split at h
  · cases h
  · have hc : ∀ q, ∃ n w1, (choose q).run P w = .ok n w1 ∧ w1.heap = w.heap ∧ w1.tape = w.tape := by
      intro q
      unfold choose Sem.run
      split
      · exact ⟨_, _, rfl, rfl, rfl⟩
      · exact ⟨_, _, rfl, rfl, rfl⟩
    generalize hq : (Question.mapNext _) = q at h
    obtain ⟨n, w1, h1, h2, h3⟩ := hc q
    rw [Sem.run_bind, h1] at h
    dsimp only [Result.andThen] at h
    split at h
    · simp only [Sem.run_bind, hset _ _ h2, Result.andThen, Sem.run_pure] at h
      cases h; exact h3
    · cases h; exact h3
    · cases h
end Go.Proofs
