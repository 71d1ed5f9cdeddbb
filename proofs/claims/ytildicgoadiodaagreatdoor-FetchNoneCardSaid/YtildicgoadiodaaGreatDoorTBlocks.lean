/- A part of the proof. -/
import Derived.RangeFuncRecord
import Derived.RangeFuncBound
import Derived.RangeFuncLeaves
import Derived.Shelf.Abstract
import Derived.Shelf.RegionOpen
import Derived.WalkKit
import Derived.OwnWalkIn
import Derived.TacticsInMore
import Derived.LoopNIn
import Derived.LoopIn
import Derived.Test.YtildicgoadiodaaGreatDoorProg
namespace Go.Proofs
open Go.RowKit Go.Shelf

set_option maxRecDepth 1000000 in
theorem pieces_walk (s : ByteArray) (w : World) : Calls Tryz.prog 248 #[.string s] w fun e w' => e = .returned (.func (.func 299) #[] #[.pointer (some ⟨w.heap.size, 0, none⟩)]) ∧ w' = w.alloc (.cells #[.string s] 9) := by
  go_enter Tryz.func248, Tryz.ntmps248
  go_wp2
  go_ret
  exact ⟨rfl, rfl⟩

set_option maxRecDepth 1000000 in
theorem piece_walk (s : ByteArray) (hs : s.size < 16) (y : Value) (B : Nat) (w : World) (hc : w.cell? ⟨B, 0, none⟩ = some (.string s)) :
    Calls Tryz.prog 299 #[y, .pointer (some ⟨B, 0, none⟩)] w fun e w' => e = .returned (.tuple #[]) ∧ w' = w := by
  have hn : ¬ (16 : Int) ≤ (s.size : Int) := by omega
  go_enter Tryz.func299, Tryz.ntmps299
  go_wp2
  refine wp_loop_rounds 1 ?_
  rw [rounds_succ]
  go_wp2
  exact ⟨rfl, .tuple #[], by simp [results, Tryz.results299], rfl, rfl⟩

set_option maxRecDepth 1000000 in
theorem blocks_walk (s : ByteArray) (hs : s.size < 16) (w : World) :
    Calls Tryz.prog 188 #[.string s] w fun e w' => ∃ m, e = .returned (.map (some m)) ∧ w.heap.size ≤ m ∧ w'.heap[m]? = some (.map #[] 0) ∧ Below w.heap.size w w' := by
  refine (callsIn_wide (n := 6)).1 ?_
  have h1 : Fence.wide.fn 248 := trivial
  refine callsIn_of_wp_marks Tryz.func188 rfl trivial ?_ rfl
  simp only [Tryz.ntmps188, List.size_toArray, List.length_cons, List.length_nil, Nat.reduceAdd, Nat.reduceSub, Array.replicate_succ, Array.replicate_zero, List.push_toArray, List.append_toArray, List.nil_append, List.cons_append]
  have hmk : ∀ W : World, (Instr.makeMap 107 none).run Tryz.prog W = .ok (.map (some W.heap.size)) (W.alloc (.map #[] 0)) := fun W => by
    simp [Instr.makeMap]
  gi_wp2_with (gi_at_call 248; refine ((callsIn_wide (n := 5)).2 (pieces_walk _ _)).mono ?_; rintro e w' ⟨rfl, rfl⟩)
  generalize hW : ((w.alloc (Obj.map #[] 0)).alloc (Obj.cells #[Value.map (some w.heap.size)] 107)).alloc (Obj.cells #[Value.string s] 9) = W
  have hsz : W.heap.size = w.heap.size + 3 := by rw [← hW]; simp
  have e1 : W.heap[w.heap.size]? = some (.map #[] 0) := by
    rw [← hW]
    exact (Below.heap_alloc _ _ _ (by simp; omega)).trans ((Below.heap_alloc _ _ _ (by simp)).trans (heap_alloc_new w _))
  have e2 : W.heap[w.heap.size + 1]? = some (.cells #[.map (some w.heap.size)] 107 (0, 0)) := by
    have := heap_alloc_new (w.alloc (Obj.map #[] 0)) (Obj.cells #[Value.map (some w.heap.size)] 107)
    rw [World.size_alloc] at this
    rw [← hW]
    exact (Below.heap_alloc _ _ _ (by simp)).trans this
  have e3 : W.heap[w.heap.size + 1 + 1]? = some (.cells #[.string s] 9 (0, 0)) := by
    have := heap_alloc_new ((w.alloc (Obj.map #[] 0)).alloc (Obj.cells #[Value.map (some w.heap.size)] 107)) (Obj.cells #[Value.string s] 9)
    rw [World.size_alloc, World.size_alloc] at this
    rw [← hW]
    exact this
  have hc : ∀ W' : World, Below W.heap.size W W' → W'.cell? ⟨w.heap.size + 1 + 1, 0, none⟩ = some (.string s) ∧ W'.cell? ⟨w.heap.size + 1, 0, none⟩ = some (.map (some w.heap.size)) ∧ W'.heap[w.heap.size]? = some (.map #[] 0) := fun W' hb => by
    have h1 := (hb.block (w.heap.size + 1 + 1) (by omega)).trans e3
    have h2 := (hb.block (w.heap.size + 1) (by omega)).trans e2
    have h3 := (hb.block w.heap.size (by omega)).trans e1
    refine ⟨?_, ?_, h3⟩
    · unfold World.cell?; rw [h1]; rfl
    · unfold World.cell?; rw [h2]; rfl
  have hW0 : Below w.heap.size w W := by
    rw [← hW]
    exact (((Below.refl _ w).alloc (Nat.le_refl _) _).alloc (by simp) _).alloc (by simp; omega) _
  clear hmk
  refine wpIn_rangeFunc fun fn _ => ⟨_, _, _, _, _, 299, _, _, run_enterLoop_outer fn _ _ _ _, rfl, fun _ _ => trivial, rfl, fun _ => by decide, ?_⟩
  have hargs : ∀ (a b : Value) (x : Array Value), x = #[a] → (#[] ++ x ++ #[b] : Array Value) = #[a, b] := fun a b x h => by subst h; rfl
  rw [hargs (.func (.yield (W.heap.size + 1)) #[] #[]) _ _ (by simp [Act.eval])]
  have hK2 : ∀ (fn : FuncId) (tm : Array Value) (ca cb : Code) (R : Ending → World → Prop),
      (∀ W2 : World, W2.heap[W.heap.size]? = some (.deferred (some [])) → W2.heap[W.heap.size + 1]? = some (.loop { state := .ready, pending := none, fn := fn, tmps := tm, params := #[11, 12], assign := ca, body := cb, defers := W.heap.size }) → Below W.heap.size W W2 → W2.heap.size = W.heap.size + 2 → R (.returned (.tuple #[])) W2) →
      CallsIn Fence.wide (6 - 1) Tryz.prog 299 #[.func (.yield (W.heap.size + 1)) #[] #[], .pointer (some ⟨w.heap.size + 1 + 1, 0, none⟩)] ((W.alloc (.deferred (some []))).alloc (.loop { state := .ready, pending := none, fn := fn, tmps := tm, params := #[11, 12], assign := ca, body := cb, defers := W.heap.size })) R := by
    intro fn tm ca cb R hR
    have hB2 : Below W.heap.size W ((W.alloc (.deferred (some []))).alloc (.loop { state := .ready, pending := none, fn := fn, tmps := tm, params := #[11, 12], assign := ca, body := cb, defers := W.heap.size })) := ((Below.refl _ W).alloc (Nat.le_refl _) _).alloc (by simp) _
    refine CallsIn.mono (callsIn_wide.2 (piece_walk s hs _ (w.heap.size + 1 + 1) _ (hc _ hB2).1)) ?_
    rintro e w' ⟨rfl, rfl⟩
    refine hR _ ?_ ?_ hB2 (by simp)
    · exact (Below.heap_alloc _ _ _ (by simp)).trans (heap_alloc_new W _)
    · have := heap_alloc_new (W.alloc (Obj.deferred (some []))) (.loop { state := .ready, pending := none, fn := fn, tmps := tm, params := #[11, 12], assign := ca, body := cb, defers := W.heap.size })
      rw [World.size_alloc] at this
      exact this
  refine hK2 _ _ _ _ _ ?_
  clear hK2
  intro W2 hK hLl hB2 hsz2
  have hpo : ∀ o : Obj, Below W.heap.size W (W2.putObj (W.heap.size + 1) o) ∧ (W2.putObj (W.heap.size + 1) o).heap[W.heap.size]? = some (.deferred (some [])) := fun o =>
    ⟨⟨hB2.os, hB2.tape, hB2.output, by show _ ≤ (W2.heap.setIfInBounds _ _).size; rw [Array.size_setIfInBounds]; omega, fun k hk => (World.putObj_heap_other (by omega)).trans (hB2.block k hk)⟩, (World.putObj_heap_other (by omega)).trans hK⟩
  refine ⟨none, _, run_endLoop hLl (by simp), ?_⟩
  obtain ⟨hB3, hK3⟩ := hpo (.loop { ({ state := .ready, pending := none, fn := fn, tmps := #[], params := #[], assign := .skip, body := .skip, defers := 0 } : Loop) with state := .exhausted })
  generalize hW3 : W2.putObj (W.heap.size + 1) _ = W3
  have h3 : Below W.heap.size W W3 ∧ W3.heap[W.heap.size]? = some (.deferred (some [])) := by rw [← hW3]; exact hpo _
  clear hpo hB3 hK3
  obtain ⟨hB3, hK3⟩ := h3
  obtain ⟨_, c2, c3⟩ := hc W3 hB3
  gi_wp2
  have hK4 : W3.heap[w.heap.size + 3]? = some (.deferred (some [])) := by rw [← hsz]; exact hK3
  have hB5 : Below W.heap.size W (W3.putObj (w.heap.size + 3) (.deferred none)) :=
    ⟨hB3.os, hB3.tape, hB3.output, by show _ ≤ (W3.heap.setIfInBounds _ _).size; rw [Array.size_setIfInBounds]; exact hB3.size, fun k hk => (World.putObj_heap_other (by omega)).trans (hB3.block k hk)⟩
  refine ⟨by simp, .inl ⟨_, _, rfl, run_takeDeferred hK4, ?_⟩⟩
  refine ⟨.map (some w.heap.size), by simp [results, Tryz.results188, go_sem], _, rfl, Nat.le_refl _, (hc _ hB5).2.2, hW0.trans (hB5.mono (by omega))⟩
end Go.Proofs
