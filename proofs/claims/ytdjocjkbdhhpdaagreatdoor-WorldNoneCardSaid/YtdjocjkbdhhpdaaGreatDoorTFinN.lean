/- WorldNone's run: true, whatever the event is. -/
import Derived.Test.YtdjocjkbdhhpdaaGreatDoorTA
import Derived.Test.YtdjocjkbdhhpdaaGreatDoorEvArg
/-! WorldNone's run: true, whatever the event is. -/
namespace Go.Proofs
open Go.Ev
open Go.RowKit
set_option maxRecDepth 1000000
theorem law_run (c0 c1 c2 c3 c4 c5 c6 c7 c8 c9 c10 c11 : Value) : sameRes (runA 5 [.agg ⟨[c0, c1, c2, c3, c4, c5, c6, c7, c8, c9, c10, c11]⟩] (dark 1)) (.bool true) = true := by kernel_rfl

theorem law_calls (c0 c1 c2 c3 c4 c5 c6 c7 c8 c9 c10 c11 : Value) (h0 : plain c0 = true) (h1 : plain c1 = true) (h2 : plain c2 = true) (h3 : plain c3 = true) (h4 : plain c4 = true)
    (h5 : c5 = .slice none 0 0 ∨ ∃ a n k, c5 = .slice (some a) n k ∧ a.spot = none ∧ n ≤ k ∧ k ≠ U)
    (h6 : plain c6 = true) (h7 : plain c7 = true) (h8 : plain c8 = true) (h9 : plain c9 = true) (h10 : plain c10 = true) (h11 : plain c11 = true) (w : World) :
    Calls Tryz.prog 5 #[.agg #[c0, c1, c2, c3, c4, c5, c6, c7, c8, c9, c10, c11]] w fun e w' => e = .returned (.bool true) ∧ Below w.heap.size w w' := by
  have one : ∀ v, plain v = true → v.oneCell' = true := fun v h => by cases v <;> first | rfl | (cases h; done)
  have key : ∀ (ρ : Map) (s5 : Value), (∀ b e, ρ b = some e → b < 1) → V ρ s5 c5 → c5.oneCell' = true → Calls Tryz.prog 5 #[.agg #[c0, c1, c2, c3, c4, c5, c6, c7, c8, c9, c10, c11]] w fun e w' => e = .returned (.bool true) ∧ Below w.heap.size w w' := by
    intro ρ s5 hρ hV hone
    obtain ⟨H, h⟩ := sameRes_ok (law_run c0 c1 c2 c3 c4 s5 c6 c7 c8 c9 c10 c11)
    have hA : VL ρ [.agg ⟨[c0, c1, c2, c3, c4, s5, c6, c7, c8, c9, c10, c11]⟩] [.agg ⟨[c0, c1, c2, c3, c4, c5, c6, c7, c8, c9, c10, c11]⟩] :=
      .cons (.agg (.cons (.plain h0) (.cons (.plain h1) (.cons (.plain h2) (.cons (.plain h3) (.cons (.plain h4) (.cons hV (.cons (.plain h6) (.cons (.plain h7) (.cons (.plain h8) (.cons (.plain h9) (.cons (.plain h10) (.cons (.plain h11) .nil)))))))))))) (by
        intro v hv
        simp only [List.mem_cons, List.not_mem_nil, or_false] at hv
        rcases hv with rfl | rfl | rfl | rfl | rfl | rfl | rfl | rfl | rfl | rfl | rfl | rfl <;> first | exact one _ ‹_› | exact hone)) .nil
    refine Calls.mono (calls_at (P := Tryz.prog) (env := envOf specsA) env_ok mixed (funsOk rfl) (specs_of rfl specsA_ok) 100000 200 h hA (dark_hr hρ (by decide) w) (fun B => dark_wr B) (by rw [Tryz.func5]; rfl)) ?_
    rintro e w' ⟨u, rfl, ⟨ρ, hV⟩, hB⟩
    cases hV
    exact ⟨rfl, hB⟩
  rcases h5 with rfl | ⟨a, n, k, rfl, ha, hn, hk⟩
  · exact key (fun _ => none) (.slice none 0 0) (fun _ _ h => by cases h) .nilSlice rfl
  · refine key (fun b => if b = 0 then some ⟨a.block, a.off, 0, 0, 1⟩ else none) (.slice (some ⟨0, 0, none⟩) n k) (fun b e h => ?_) (V.some_ptr (e := ⟨a.block, a.off, 0, 0, 1⟩) rfl ha rfl rfl hn hk) rfl
    by_cases hb : b = 0
    · subst hb; exact Nat.one_pos
    · simp [hb] at h
end Go.Proofs
