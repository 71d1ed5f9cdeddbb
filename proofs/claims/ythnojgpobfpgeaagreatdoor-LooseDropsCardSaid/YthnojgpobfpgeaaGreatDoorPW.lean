/- Numbers that stay as they are. -/
import Derived.RowKit
import Derived.WalkKit
namespace Go.Proofs
open Go.RowKit
theorem wrapU {x : Int} (h0 : 0 <= x) (h1 : x < 18446744073709551616) : IntKind.u64.wrap x = x := by
 have h : (IntKind.u64.wrap x) = (if (false && decide (x % 18446744073709551616 >= 9223372036854775808)) = true then x % 18446744073709551616 - 18446744073709551616 else x % 18446744073709551616) := rfl
 rw [h]
 simp
 omega
theorem wrapI {x : Int} (h0 : -9223372036854775808 <= x) (h1 : x < 9223372036854775808) : wrap64 x = x := by unfold wrap64; omega
end Go.Proofs
