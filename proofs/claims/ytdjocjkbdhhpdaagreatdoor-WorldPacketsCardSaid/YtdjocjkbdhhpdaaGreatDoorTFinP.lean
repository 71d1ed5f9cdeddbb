/- WorldPackets: true, whatever is handed in. -/
import Derived.Test.YtdjocjkbdhhpdaaGreatDoorTRunPS
import Derived.Test.YtdjocjkbdhhpdaaGreatDoorTRunPL
/-! WorldPackets: true, whatever is handed in. -/
namespace Go.Proofs
open Go.Ev
theorem law_calls (at_ by_ : Int) (text : List UInt8) (w : World) : Calls Tryz.prog 3 #[.int .i64 at_, .int .i64 by_, str text] w fun e w' => e = .returned (.bool true) ∧ Go.RowKit.Below w.heap.size w w' := by
  cases hd : decide (100 < text.length) with
  | false => exact callsS at_ by_ text hd.symm w
  | true => exact callsL at_ by_ text hd.symm w
end Go.Proofs
