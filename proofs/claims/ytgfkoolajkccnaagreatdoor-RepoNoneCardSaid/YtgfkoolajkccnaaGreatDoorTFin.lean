/- The law's run: true, whatever the two texts are. -/
import Derived.Test.YtgfkoolajkccnaaGreatDoorTRun
/-! The law's run: true, whatever the two texts are. -/
namespace Go.Proofs
open Go.Ev
open Go.RowKit
set_option maxRecDepth 1000000
theorem law_run (s t : ByteArray) : sameRes (run2 3 [.string s, .string t] Heap.empty) (.bool true) = true := by kernel_rfl

theorem law_calls (s t : ByteArray) (w : World) : Calls Tryz.prog 3 #[.string s, .string t] w fun e w' => e = .returned (.bool true) ∧ Below w.heap.size w w' := by
  obtain ⟨H, h⟩ := sameRes_ok (law_run s t)
  refine Calls.mono (calls_closed (P := Tryz.prog) (env := envOf specs2) env_ok mixed (funsOk rfl) (specs_of rfl specs2_ok) 100000 200 h (args' := [.string s, .string t]) (.cons (.string s) (.cons (.string t) .nil)) w (by rw [Tryz.func3]; rfl)) ?_
  rintro e w' ⟨u, rfl, ⟨ρ, hV⟩, hB⟩
  cases hV
  exact ⟨rfl, hB⟩
end Go.Proofs
