/- A part of the proof. -/
import Derived.Test.YtildicgoadiodaaGreatDoorProg
import Derived.Tactics
import Derived.Tactics2
import Derived.StillTactics
import Derived.Laws.Strings
import Derived.Laws.Strings2
import Derived.Laws.Strings3
import Derived.Laws.Sem
import Derived.Laws.Concat
import Derived.Laws.Slices
import Derived.Laws.Small
import Derived.Laws.World
import Derived.Scope
import Derived.FnLit
import Derived.LoopTactic
import Derived.LoopN
import Derived.Laws.IdiomRangeMap
import Derived.Shelf.Strings.Prefix
import Derived.Below
import Derived.Test.YtildicgoadiodaaGreatDoorEvSpecs
namespace Go.Proofs
open Go.RowKit


variable (hP : ∀ (s p : ByteArray) (w : World), Calls Tryz.prog 138 #[.string s, .string p] w fun e w' => e = .returned (.bool (Lib.hasPrefix s.data.toList p.data.toList)) ∧ w' = w)

include hP in
set_option maxRecDepth 1000000 in
theorem kids_walk (bm : Nat) (es : Array MapEntry) (clock : Nat) (p : ByteArray) (hp : ¬ 9223372036854775807 < p.size + 1) (w : World) (hb : w.heap[bm]? = some (.map es clock)) (hst : MapKept.Stamped es clock) (hv : ∀ x ∈ es.toList, ∃ v, x.key = .string v) :
    Calls Tryz.prog 87 #[.map (some bm), .string p] w fun e w' => e = .returned (.bool (es.toList.any fun x => Lib.hasPrefix (Go.Ev.keyBytesOf x.key) (p ++ ⟨#[47]⟩ : ByteArray).data.toList)) ∧ ∃ (w1 : World) (seen : Array Nat), (w1.Alike w ∧ w1.tape = w.tape) ∧ w' = w1.alloc (.mapIter (some bm) clock seen clock) := by
  have hrg := run_range_map (P := Tryz.prog) w 108 9 3 bm es clock Tryz.underlying108 hb
  go_enter Tryz.func87, Tryz.ntmps87
  go_wp2
  go_loopw [] (fun w' => ∃ (w1 : World) (seen : Array Nat), (w1.Alike w ∧ w1.tape = w.tape) ∧ w' = w1.alloc (.mapIter (some bm) clock seen clock) ∧ ∀ x ∈ es.toList, seen.contains x.born = true → Lib.hasPrefix (Go.Ev.keyBytesOf x.key) (p ++ ⟨#[47]⟩ : ByteArray).data.toList = false) (fun w' => (leftOf es (w'.iterSeen w.heap.size)).size)
  case atStart => exact ⟨w, #[], ⟨⟨rfl, rfl, rfl⟩, rfl⟩, rfl, fun x _ h => by simp at h⟩
  case round =>
    obtain ⟨w1, seen, ⟨hal, htp⟩, rfl, hno⟩ := hrel
    have hsz : w1.heap.size = w.heap.size := by rw [hal.1]
    have hb1 : w1.heap[bm]? = some (.map es clock) := by rw [hal.1]; exact hb
    have law := run_next_map (P := Tryz.prog) w1 0 bm clock clock seen es clock hb1 hst.1 (Nat.le_refl _)
    rw [hsz] at law
    rcases law with ⟨h0, hrun⟩ | ⟨e, he, w2, hal2, hrun⟩
    · have hnx : ∀ ty, (Instr.next (.pointer (some ⟨w.heap.size, 0, none⟩)) false ty).run Tryz.prog (w1.alloc (.mapIter (some bm) clock seen clock)) = _ := fun _ => hrun
      go_wp2
      go_ret
      have hf : (es.toList.any fun x => Lib.hasPrefix (Go.Ev.keyBytesOf x.key) (p ++ ⟨#[47]⟩ : ByteArray).data.toList) = false := by
        rw [List.any_eq_false]
        intro x hx
        have := hno x hx (all_seen es seen h0 x hx)
        simpa using this
      rw [hf]
      exact ⟨rfl, w1, seen, ⟨hal, htp⟩, rfl⟩
    · obtain ⟨v, hval⟩ := hv e (mem_left he).1
      have htp2 : w2.tape = w.tape := (next_tape (w := w1.alloc (.mapIter (some bm) clock seen clock)) (r := w.heap.size) (by rw [← hsz]; exact heap_alloc_new w1 _) ((Below.heap_alloc w1 _ bm (by
        rcases Nat.lt_or_ge bm w1.heap.size with h1 | h1
        · exact h1
        · simp [Array.getElem?_eq_none h1] at hb1)).trans hb1) hrun).trans htp
      rw [hval] at hrun
      have hnx : ∀ ty, (Instr.next (.pointer (some ⟨w.heap.size, 0, none⟩)) false ty).run Tryz.prog (w1.alloc (.mapIter (some bm) clock seen clock)) = _ := fun _ => hrun
      have hsz2 : w2.heap.size = w.heap.size := by rw [hal2.1, hal.1]
      have hb2 : w2.heap[bm]? = some (.map es clock) := by rw [hal2.1]; exact hb1
      have hen := run_entry_map (P := Tryz.prog) w2 bm clock seen es clock e hb2 (mem_left he).1 hst.2.1
      rw [hsz2, hval] at hen
      have hal3 : w2.Alike w := ⟨hal2.1.trans hal.1, hal2.2.1.trans hal.2.1, hal2.2.2.trans hal.2.2⟩
      go_wp2_with (go_at_call 138; refine (hP _ _ _).mono ?_; rintro e w' ⟨rfl, rfl⟩)
      · rename_i heq
        go_ret
        have ht : (es.toList.any fun x => Lib.hasPrefix (Go.Ev.keyBytesOf x.key) (p ++ ⟨#[47]⟩ : ByteArray).data.toList) = true := List.any_eq_true.2 ⟨e, (mem_left he).1, by rw [hval]; simpa [Go.Ev.keyBytesOf] using heq⟩
        rw [ht]
        exact ⟨rfl, w2, _, ⟨hal3, htp2⟩, rfl⟩
      · rename_i hne
        go_roundw
        case rel =>
          refine ⟨w2, seen.push e.born, ⟨hal3, htp2⟩, rfl, fun x hx hc => ?_⟩
          rw [contains_push] at hc
          rcases Bool.or_eq_true _ _ ▸ hc with h1 | h1
          · exact hno x hx h1
          · have : x = e := born_inj hst.2.1 hx (mem_left he).1 (beq_iff_eq.1 h1)
            subst this
            rw [hval]
            simpa [Go.Ev.keyBytesOf] using hne
        case measure =>
          rw [← hsz2, World.iterSeen_alloc, hsz2, ← hsz, World.iterSeen_alloc]
          exact left_shrinks es seen e he
end Go.Proofs
