/- Contracts of functions that range over a map: from their walks. -/
import Derived.Test.YthnojgpobfpgeaaDoorEvEnv
import Derived.Laws.IdiomRangeMap
/-! Contracts of functions that range over a map: from their walks. -/
namespace Go.Ev
open Go.RowKit
variable [Sg]

def Enters (P : Program) (f : FuncId) : Prop := ∀ args w, (callFunc f args).run P w = .ok (.enter f args) w

omit [Sg] in
theorem spec_calls {P : Program} {f : FuncId} (he : Enters P f) {args : Array Value} {w : World} {R : Value → World → Prop} (h : Calls P f args w fun e w' => ∃ v, e = .returned v ∧ R v w') : Invokes P f args w R :=
 .inr ⟨he args w, h⟩

end Go.Ev
