/- A part of the proof. -/
import Derived.Test.YtildicgoadiodaaGreatDoorProg
import Derived.Tactics
import Derived.Tactics2
import Derived.StillTactics
import Derived.Laws.Strings
import Derived.Laws.Strings2
import Derived.Laws.Strings3
import Derived.Laws.Sem
import Derived.Laws.Concat
import Derived.Laws.Slices
import Derived.Laws.Small
import Derived.Laws.World
import Derived.Scope
import Derived.FnLit
import Derived.LoopTactic
import Derived.LoopN
import Derived.Laws.IdiomRangeMap
import Derived.Shelf.Strings.Prefix
import Derived.Below
import Derived.Test.YtildicgoadiodaaGreatDoorEvSpecs
import Derived.Test.YtildicgoadiodaaGreatDoorTN
import Derived.Laws.Cells
import Derived.Laws.Pointers
import Derived.Laws.NewBlocks
import Derived.Laws.Alloc2
import Derived.Laws.Wrap64
import Derived.IntWalk
import Derived.RangeFuncRecord
import Derived.RangeFuncBound
import Derived.RangeFuncLeaves
import Derived.Shelf.Abstract
import Derived.Shelf.RegionOpen
import Derived.WalkKit
import Derived.OwnWalkIn
import Derived.TacticsInMore
import Derived.LoopNIn
import Derived.LoopIn
namespace Go.Proofs
open Go.RowKit


variable (hP : ∀ (s p : ByteArray) (w : World), Calls Tryz.prog 138 #[.string s, .string p] w fun e w' => e = .returned (.bool (Lib.hasPrefix s.data.toList p.data.toList)) ∧ w' = w)

include hP in
set_option maxRecDepth 1000000 in
theorem kids_walk (bm : Nat) (es : Array MapEntry) (clock : Nat) (p : ByteArray) (hp : ¬ 9223372036854775807 < p.size + 1) (w : World) (hb : w.heap[bm]? = some (.map es clock)) (hst : MapKept.Stamped es clock) (hv : ∀ x ∈ es.toList, ∃ v, x.key = .string v) :
    Calls Tryz.prog 87 #[.map (some bm), .string p] w fun e w' => e = .returned (.bool (es.toList.any fun x => Lib.hasPrefix (Go.Ev.keyBytesOf x.key) (p ++ ⟨#[47]⟩ : ByteArray).data.toList)) ∧ ∃ (w1 : World) (seen : Array Nat), (w1.Alike w ∧ w1.tape = w.tape) ∧ w' = w1.alloc (.mapIter (some bm) clock seen clock) := by
  have hrg := run_range_map (P := Tryz.prog) w 108 9 3 bm es clock Tryz.underlying108 hb
  go_enter Tryz.func87, Tryz.ntmps87
  go_wp2
  go_loopw [] (fun w' => ∃ (w1 : World) (seen : Array Nat), (w1.Alike w ∧ w1.tape = w.tape) ∧ w' = w1.alloc (.mapIter (some bm) clock seen clock) ∧ ∀ x ∈ es.toList, seen.contains x.born = true → Lib.hasPrefix (Go.Ev.keyBytesOf x.key) (p ++ ⟨#[47]⟩ : ByteArray).data.toList = false) (fun w' => (leftOf es (w'.iterSeen w.heap.size)).size)
  case atStart => exact ⟨w, #[], ⟨⟨rfl, rfl, rfl⟩, rfl⟩, rfl, fun x _ h => by simp at h⟩
  case round =>
    obtain ⟨w1, seen, ⟨hal, htp⟩, rfl, hno⟩ := hrel
    have hsz : w1.heap.size = w.heap.size := by rw [hal.1]
    have hb1 : w1.heap[bm]? = some (.map es clock) := by rw [hal.1]; exact hb
    have law := run_next_map (P := Tryz.prog) w1 0 bm clock clock seen es clock hb1 hst.1 (Nat.le_refl _)
    rw [hsz] at law
    rcases law with ⟨h0, hrun⟩ | ⟨e, he, w2, hal2, hrun⟩
    · have hnx : ∀ ty, (Instr.next (.pointer (some ⟨w.heap.size, 0, none⟩)) false ty).run Tryz.prog (w1.alloc (.mapIter (some bm) clock seen clock)) = _ := fun _ => hrun
      go_wp2
      go_ret
      have hf : (es.toList.any fun x => Lib.hasPrefix (Go.Ev.keyBytesOf x.key) (p ++ ⟨#[47]⟩ : ByteArray).data.toList) = false := by
        rw [List.any_eq_false]
        intro x hx
        have := hno x hx (all_seen es seen h0 x hx)
        simpa using this
      rw [hf]
      exact ⟨rfl, w1, seen, ⟨hal, htp⟩, rfl⟩
    · obtain ⟨v, hval⟩ := hv e (mem_left he).1
      have htp2 : w2.tape = w.tape := (next_tape (w := w1.alloc (.mapIter (some bm) clock seen clock)) (r := w.heap.size) (by rw [← hsz]; exact heap_alloc_new w1 _) ((Below.heap_alloc w1 _ bm (by
        rcases Nat.lt_or_ge bm w1.heap.size with h1 | h1
        · exact h1
        · simp [Array.getElem?_eq_none h1] at hb1)).trans hb1) hrun).trans htp
      rw [hval] at hrun
      have hnx : ∀ ty, (Instr.next (.pointer (some ⟨w.heap.size, 0, none⟩)) false ty).run Tryz.prog (w1.alloc (.mapIter (some bm) clock seen clock)) = _ := fun _ => hrun
      have hsz2 : w2.heap.size = w.heap.size := by rw [hal2.1, hal.1]
      have hb2 : w2.heap[bm]? = some (.map es clock) := by rw [hal2.1]; exact hb1
      have hen := run_entry_map (P := Tryz.prog) w2 bm clock seen es clock e hb2 (mem_left he).1 hst.2.1
      rw [hsz2, hval] at hen
      have hal3 : w2.Alike w := ⟨hal2.1.trans hal.1, hal2.2.1.trans hal.2.1, hal2.2.2.trans hal.2.2⟩
      go_wp2_with (go_at_call 138; refine (hP _ _ _).mono ?_; rintro e w' ⟨rfl, rfl⟩)
      · rename_i heq
        go_ret
        have ht : (es.toList.any fun x => Lib.hasPrefix (Go.Ev.keyBytesOf x.key) (p ++ ⟨#[47]⟩ : ByteArray).data.toList) = true := List.any_eq_true.2 ⟨e, (mem_left he).1, by rw [hval]; simpa [Go.Ev.keyBytesOf] using heq⟩
        rw [ht]
        exact ⟨rfl, w2, _, ⟨hal3, htp2⟩, rfl⟩
      · rename_i hne
        go_roundw
        case rel =>
          refine ⟨w2, seen.push e.born, ⟨hal3, htp2⟩, rfl, fun x hx hc => ?_⟩
          rw [contains_push] at hc
          rcases Bool.or_eq_true _ _ ▸ hc with h1 | h1
          · exact hno x hx h1
          · have : x = e := born_inj hst.2.1 hx (mem_left he).1 (beq_iff_eq.1 h1)
            subst this
            rw [hval]
            simpa [Go.Ev.keyBytesOf] using hne
        case measure =>
          rw [← hsz2, World.iterSeen_alloc, hsz2, ← hsz, World.iterSeen_alloc]
          exact left_shrinks es seen e he
end Go.Proofs

namespace Go.Proofs
open Go.RowKit

/-- How many bytes the file has that an entry names. -/
def lenOfNode (g : Nat → ByteArray) : Value → Int
  | .int _ k => (g k.toNat).size
  | _ => 0
def lens (g : Nat → ByteArray) (es : List MapEntry) : List MapEntry := es.map fun e => ⟨e.key, .int .i64 (lenOfNode g e.val), e.born⟩
theorem lens_born (g : Nat → ByteArray) (es : List MapEntry) : (lens g es).map (·.born) = es.map (·.born) := by simp [lens]

def wr64 (x : Int) : Int := (x + 9223372036854775808) % 18446744073709551616 - 9223372036854775808

set_option maxRecDepth 1000000 in
theorem used_walk (bm : Nat) (es : Array MapEntry) (clock : Nat) (fb fo nb no n c : Nat) (g : Nat → ByteArray) (w : World) (hb : w.heap[bm]? = some (.map es clock)) (hst : MapKept.Stamped es clock)
    (h0 : w.cell? ⟨fb, fo, none⟩ = some (.map (some bm))) (h3 : w.cell? ⟨fb, fo + 3, none⟩ = some (.slice (some ⟨nb, no, none⟩) n c))
    (hv : ∀ x ∈ es.toList, ∃ k : Nat, k < n ∧ x.val = .int .i64 k) (hs : ∀ k : Nat, (∃ x ∈ es.toList, x.val = .int .i64 k) → w.cell? ⟨nb, no + k * 3 + 1, none⟩ = some (.string (g k))) :
    Calls Tryz.prog 319 #[.pointer (some ⟨fb, fo, none⟩)] w fun e w' => e = .returned (.int .i64 (wr64 ((lens g es.toList).map fun e => valOf e.val).sum)) ∧ ∃ (w1 : World) (seen : Array Nat), (w1.Alike w ∧ w1.tape = w.tape) ∧ w' = w1.alloc (.mapIter (some bm) clock seen clock) := by
  have hrg := run_range_map (P := Tryz.prog) w 108 9 3 bm es clock Tryz.underlying108 hb
  go_enter Tryz.func319, Tryz.ntmps319
  go_wp2
  have hlt : ∀ {a : Addr} {v : Value}, w.cell? a = some v → a.block < w.heap.size := fun {a v} h => by
    rcases Nat.lt_or_ge a.block w.heap.size with h1 | h1
    · exact h1
    · simp [World.cell?, Array.getElem?_eq_none h1] at h
  have hfb : fb < w.heap.size := hlt h0
  go_loopw [3] (fun s w' => ∃ (w1 : World) (seen : Array Nat), (w1.Alike w ∧ w1.tape = w.tape) ∧ w' = w1.alloc (.mapIter (some bm) clock seen clock) ∧ s = .int .i64 (wr64 (seenSum (lens g es.toList) seen))) (fun _ w' => (leftOf es (w'.iterSeen w.heap.size)).size)
  case atStart => exact ⟨w, #[], ⟨⟨rfl, rfl, rfl⟩, rfl⟩, rfl, by rw [seenSum_none]; rfl⟩
  case round =>
    obtain ⟨w1, seen, ⟨hal, htp⟩, rfl, rfl⟩ := hrel
    have hsz : w1.heap.size = w.heap.size := by rw [hal.1]
    have hb1 : w1.heap[bm]? = some (.map es clock) := by rw [hal.1]; exact hb
    have law := run_next_map (P := Tryz.prog) w1 0 bm clock clock seen es clock hb1 hst.1 (Nat.le_refl _)
    rw [hsz] at law
    rcases law with ⟨hl0, hrun⟩ | ⟨e, he, w2, hal2, hrun⟩
    · have hnx : ∀ ty, (Instr.next (.pointer (some ⟨w.heap.size, 0, none⟩)) false ty).run Tryz.prog (w1.alloc (.mapIter (some bm) clock seen clock)) = _ := fun _ => hrun
      go_wp2
      go_ret
      have hfull : seenSum (lens g es.toList) seen = ((lens g es.toList).map fun e => valOf e.val).sum := by
        refine seenSum_full seen _ fun x hx => ?_
        obtain ⟨y, hy, rfl⟩ := List.mem_map.1 hx
        exact all_seen es seen hl0 y hy
      rw [hfull]
      exact ⟨rfl, w1, seen, ⟨hal, htp⟩, rfl⟩
    · obtain ⟨k, hk, hval⟩ := hv e (mem_left he).1
      have htp2 : w2.tape = w.tape := (next_tape (w := w1.alloc (.mapIter (some bm) clock seen clock)) (r := w.heap.size) (by rw [← hsz]; exact heap_alloc_new w1 _) ((Below.heap_alloc w1 _ bm (by
        rcases Nat.lt_or_ge bm w1.heap.size with h1 | h1
        · exact h1
        · simp [Array.getElem?_eq_none h1] at hb1)).trans hb1) hrun).trans htp
      rw [hval] at hrun
      have hnx : ∀ ty, (Instr.next (.pointer (some ⟨w.heap.size, 0, none⟩)) false ty).run Tryz.prog (w1.alloc (.mapIter (some bm) clock seen clock)) = _ := fun _ => hrun
      have hsz2 : w2.heap.size = w.heap.size := by rw [hal2.1, hal.1]
      have hb2 : w2.heap[bm]? = some (.map es clock) := by rw [hal2.1]; exact hb1
      have hen := run_entry_map (P := Tryz.prog) w2 bm clock seen es clock e hb2 (mem_left he).1 hst.2.1
      rw [hsz2, hval] at hen
      have hcell : ∀ (a : Addr) (v : Value), w.cell? a = some v → (w2.alloc (.mapIter (some bm) clock (seen.push e.born) clock)).cell? a = some v := by
        intro a v h
        have h1 := hlt h
        have h2 : w2.heap = w.heap := hal2.1.trans hal.1
        have e1 : (w2.alloc (.mapIter (some bm) clock (seen.push e.born) clock)).heap[a.block]? = w.heap[a.block]? := (Below.heap_alloc w2 _ a.block (h2.symm ▸ h1)).trans (by rw [h2])
        unfold World.cell? at h ⊢
        simp only [e1]
        exact h
      have c3 := hcell _ _ h3
      have cs := hcell _ _ (hs k ⟨e, (mem_left he).1, hval⟩)
      have hk' : ((k : Int) < (n : Int)) := by exact_mod_cast hk
      clear hcell hs h3 h0
      go_wp2
      have hal3 : w2.Alike w := ⟨hal2.1.trans hal.1, hal2.2.1.trans hal.2.1, hal2.2.2.trans hal.2.2⟩
      refine ⟨⟨w2, seen.push e.born, ⟨hal3, htp2⟩, rfl, ?_⟩, ?_⟩
      · have hp := seenSum_push seen (⟨e.key, .int .i64 (lenOfNode g e.val), e.born⟩ : MapEntry) (mem_left he).2 (lens g es.toList) (by rw [lens_born]; exact hst.2.1) (List.mem_map.2 ⟨e, (mem_left he).1, rfl⟩)
        have hp' : seenSum (lens g es.toList) (seen.push e.born) = seenSum (lens g es.toList) seen + ((g k).size : Int) := by
          refine hp.trans ?_
          rw [hval]
          simp [valOf, lenOfNode]
        rw [hp']
        congr 1
        simp only [wrap64, wr64]
        omega
      · rw [← hsz2, World.iterSeen_alloc, hsz2, ← hsz, World.iterSeen_alloc]
        exact left_shrinks es seen e he
end Go.Proofs

namespace Go.Proofs
open Go.RowKit Go.Shelf

set_option maxRecDepth 1000000 in
theorem pieces_walk (s : ByteArray) (w : World) : Calls Tryz.prog 248 #[.string s] w fun e w' => e = .returned (.func (.func 299) #[] #[.pointer (some ⟨w.heap.size, 0, none⟩)]) ∧ w' = w.alloc (.cells #[.string s] 9) := by
  go_enter Tryz.func248, Tryz.ntmps248
  go_wp2
  go_ret
  exact ⟨rfl, rfl⟩

set_option maxRecDepth 1000000 in
theorem piece_walk (s : ByteArray) (hs : s.size < 16) (y : Value) (B : Nat) (w : World) (hc : w.cell? ⟨B, 0, none⟩ = some (.string s)) :
    Calls Tryz.prog 299 #[y, .pointer (some ⟨B, 0, none⟩)] w fun e w' => e = .returned (.tuple #[]) ∧ w' = w := by
  have hn : ¬ (16 : Int) ≤ (s.size : Int) := by omega
  go_enter Tryz.func299, Tryz.ntmps299
  go_wp2
  refine wp_loop_rounds 1 ?_
  rw [rounds_succ]
  go_wp2
  exact ⟨rfl, .tuple #[], by simp [results, Tryz.results299], rfl, rfl⟩

set_option maxRecDepth 1000000 in
theorem blocks_walk (s : ByteArray) (hs : s.size < 16) (w : World) :
    Calls Tryz.prog 188 #[.string s] w fun e w' => ∃ m, e = .returned (.map (some m)) ∧ w.heap.size ≤ m ∧ w'.heap[m]? = some (.map #[] 0) ∧ Below w.heap.size w w' := by
  refine (callsIn_wide (n := 6)).1 ?_
  have h1 : Fence.wide.fn 248 := trivial
  refine callsIn_of_wp_marks Tryz.func188 rfl trivial ?_ rfl
  simp only [Tryz.ntmps188, List.size_toArray, List.length_cons, List.length_nil, Nat.reduceAdd, Nat.reduceSub, Array.replicate_succ, Array.replicate_zero, List.push_toArray, List.append_toArray, List.nil_append, List.cons_append]
  have hmk : ∀ W : World, (Instr.makeMap 107 none).run Tryz.prog W = .ok (.map (some W.heap.size)) (W.alloc (.map #[] 0)) := fun W => by
    simp [Instr.makeMap]
  gi_wp2_with (gi_at_call 248; refine ((callsIn_wide (n := 5)).2 (pieces_walk _ _)).mono ?_; rintro e w' ⟨rfl, rfl⟩)
  generalize hW : ((w.alloc (Obj.map #[] 0)).alloc (Obj.cells #[Value.map (some w.heap.size)] 107)).alloc (Obj.cells #[Value.string s] 9) = W
  have hsz : W.heap.size = w.heap.size + 3 := by rw [← hW]; simp
  have e1 : W.heap[w.heap.size]? = some (.map #[] 0) := by
    rw [← hW]
    exact (Below.heap_alloc _ _ _ (by simp; omega)).trans ((Below.heap_alloc _ _ _ (by simp)).trans (heap_alloc_new w _))
  have e2 : W.heap[w.heap.size + 1]? = some (.cells #[.map (some w.heap.size)] 107 (0, 0)) := by
    have := heap_alloc_new (w.alloc (Obj.map #[] 0)) (Obj.cells #[Value.map (some w.heap.size)] 107)
    rw [World.size_alloc] at this
    rw [← hW]
    exact (Below.heap_alloc _ _ _ (by simp)).trans this
  have e3 : W.heap[w.heap.size + 1 + 1]? = some (.cells #[.string s] 9 (0, 0)) := by
    have := heap_alloc_new ((w.alloc (Obj.map #[] 0)).alloc (Obj.cells #[Value.map (some w.heap.size)] 107)) (Obj.cells #[Value.string s] 9)
    rw [World.size_alloc, World.size_alloc] at this
    rw [← hW]
    exact this
  have hc : ∀ W' : World, Below W.heap.size W W' → W'.cell? ⟨w.heap.size + 1 + 1, 0, none⟩ = some (.string s) ∧ W'.cell? ⟨w.heap.size + 1, 0, none⟩ = some (.map (some w.heap.size)) ∧ W'.heap[w.heap.size]? = some (.map #[] 0) := fun W' hb => by
    have h1 := (hb.block (w.heap.size + 1 + 1) (by omega)).trans e3
    have h2 := (hb.block (w.heap.size + 1) (by omega)).trans e2
    have h3 := (hb.block w.heap.size (by omega)).trans e1
    refine ⟨?_, ?_, h3⟩
    · unfold World.cell?; rw [h1]; rfl
    · unfold World.cell?; rw [h2]; rfl
  have hW0 : Below w.heap.size w W := by
    rw [← hW]
    exact (((Below.refl _ w).alloc (Nat.le_refl _) _).alloc (by simp) _).alloc (by simp; omega) _
  clear hmk
  refine wpIn_rangeFunc fun fn _ => ⟨_, _, _, _, _, 299, _, _, run_enterLoop_outer fn _ _ _ _, rfl, fun _ _ => trivial, rfl, fun _ => by decide, ?_⟩
  have hargs : ∀ (a b : Value) (x : Array Value), x = #[a] → (#[] ++ x ++ #[b] : Array Value) = #[a, b] := fun a b x h => by subst h; rfl
  rw [hargs (.func (.yield (W.heap.size + 1)) #[] #[]) _ _ (by simp [Act.eval])]
  have hK2 : ∀ (fn : FuncId) (tm : Array Value) (ca cb : Code) (R : Ending → World → Prop),
      (∀ W2 : World, W2.heap[W.heap.size]? = some (.deferred (some [])) → W2.heap[W.heap.size + 1]? = some (.loop { state := .ready, pending := none, fn := fn, tmps := tm, params := #[11, 12], assign := ca, body := cb, defers := W.heap.size }) → Below W.heap.size W W2 → W2.heap.size = W.heap.size + 2 → R (.returned (.tuple #[])) W2) →
      CallsIn Fence.wide (6 - 1) Tryz.prog 299 #[.func (.yield (W.heap.size + 1)) #[] #[], .pointer (some ⟨w.heap.size + 1 + 1, 0, none⟩)] ((W.alloc (.deferred (some []))).alloc (.loop { state := .ready, pending := none, fn := fn, tmps := tm, params := #[11, 12], assign := ca, body := cb, defers := W.heap.size })) R := by
    intro fn tm ca cb R hR
    have hB2 : Below W.heap.size W ((W.alloc (.deferred (some []))).alloc (.loop { state := .ready, pending := none, fn := fn, tmps := tm, params := #[11, 12], assign := ca, body := cb, defers := W.heap.size })) := ((Below.refl _ W).alloc (Nat.le_refl _) _).alloc (by simp) _
    refine CallsIn.mono (callsIn_wide.2 (piece_walk s hs _ (w.heap.size + 1 + 1) _ (hc _ hB2).1)) ?_
    rintro e w' ⟨rfl, rfl⟩
    refine hR _ ?_ ?_ hB2 (by simp)
    · exact (Below.heap_alloc _ _ _ (by simp)).trans (heap_alloc_new W _)
    · have := heap_alloc_new (W.alloc (Obj.deferred (some []))) (.loop { state := .ready, pending := none, fn := fn, tmps := tm, params := #[11, 12], assign := ca, body := cb, defers := W.heap.size })
      rw [World.size_alloc] at this
      exact this
  refine hK2 _ _ _ _ _ ?_
  clear hK2
  intro W2 hK hLl hB2 hsz2
  have hpo : ∀ o : Obj, Below W.heap.size W (W2.putObj (W.heap.size + 1) o) ∧ (W2.putObj (W.heap.size + 1) o).heap[W.heap.size]? = some (.deferred (some [])) := fun o =>
    ⟨⟨hB2.os, hB2.tape, hB2.output, by show _ ≤ (W2.heap.setIfInBounds _ _).size; rw [Array.size_setIfInBounds]; omega, fun k hk => (World.putObj_heap_other (by omega)).trans (hB2.block k hk)⟩, (World.putObj_heap_other (by omega)).trans hK⟩
  refine ⟨none, _, run_endLoop hLl (by simp), ?_⟩
  obtain ⟨hB3, hK3⟩ := hpo (.loop { ({ state := .ready, pending := none, fn := fn, tmps := #[], params := #[], assign := .skip, body := .skip, defers := 0 } : Loop) with state := .exhausted })
  generalize hW3 : W2.putObj (W.heap.size + 1) _ = W3
  have h3 : Below W.heap.size W W3 ∧ W3.heap[W.heap.size]? = some (.deferred (some [])) := by rw [← hW3]; exact hpo _
  clear hpo hB3 hK3
  obtain ⟨hB3, hK3⟩ := h3
  obtain ⟨_, c2, c3⟩ := hc W3 hB3
  gi_wp2
  have hK4 : W3.heap[w.heap.size + 3]? = some (.deferred (some [])) := by rw [← hsz]; exact hK3
  have hB5 : Below W.heap.size W (W3.putObj (w.heap.size + 3) (.deferred none)) :=
    ⟨hB3.os, hB3.tape, hB3.output, by show _ ≤ (W3.heap.setIfInBounds _ _).size; rw [Array.size_setIfInBounds]; exact hB3.size, fun k hk => (World.putObj_heap_other (by omega)).trans (hB3.block k hk)⟩
  refine ⟨by simp, .inl ⟨_, _, rfl, run_takeDeferred hK4, ?_⟩⟩
  refine ⟨.map (some w.heap.size), by simp [results, Tryz.results188, go_sem], _, rfl, Nat.le_refl _, (hc _ hB5).2.2, hW0.trans (hB5.mono (by omega))⟩
end Go.Proofs
