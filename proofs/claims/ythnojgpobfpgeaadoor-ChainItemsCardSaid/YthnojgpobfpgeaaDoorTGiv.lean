/- Contracts of ids and of texts made of others, for the printed walks. -/
import Derived.Test.YthnojgpobfpgeaaDoorTMkR
import Derived.Test.YthnojgpobfpgeaaDoorTOf
import Derived.Test.YthnojgpobfpgeaaDoorTSumT
import Derived.Test.YthnojgpobfpgeaaDoorTRefT
/-! Contracts of ids and of texts made of others, for the printed walks. -/
namespace Go.Proofs.YthnojgpobfpgeaaDoor.PCg
open Go.Ev Go.RowKit Go.Proofs
noncomputable def object_ID.f (a0 : ByteArray) : Option ByteArray := if a0.size ≤ 1073741824 then some (ofL (shaF a0.data.toList)) else none
noncomputable def pollardref07_ID.f (a0 : ByteArray) : Option ByteArray := if a0.size ≤ 1073741824 then some (ofL (shaF a0.data.toList)) else none
def delta_Make.f (a0 a1 : ByteArray) : Option ByteArray := if a0.size ≤ 1000 ∧ a1.size ≤ 1000 then some (ofL (deltaL a0.data.toList a1.data.toList)) else none
def pollardlaw12_awake.f : Option Bool := some true
set_option maxRecDepth 1000000 in
theorem object_ID.calls (a0 : ByteArray) (r : ByteArray) (w : World) (h : object_ID.f a0 = some r) : Calls Tryd.prog 9 #[.string a0] w fun e w' => e = .returned (.string r) ∧ Below w.heap.size w w' := by
 unfold object_ID.f at h
 split at h
 ·
  rename_i hs
  have hs' := Lib.hid hs
  cases h
  clear hs
  go_enter Tryd.func9, Tryd.ntmps9
  go_wp2_with (go_at_call 16; refine (of_calls a0 hs'.out _).mono ?_; rintro e w1 ⟨rfl, hb⟩)
  go_ret
  exact ⟨rfl, hb⟩
 ·
  cases h
set_option maxRecDepth 1000000 in
theorem pollardref07_ID.calls (a0 : ByteArray) (r : ByteArray) (w : World) (h : pollardref07_ID.f a0 = some r) : Calls Tryd.prog 11 #[.string a0] w fun e w' => e = .returned (.string r) ∧ Below w.heap.size w w' := by
 unfold pollardref07_ID.f at h
 split at h
 ·
  rename_i hs
  have hl : a0.data.toList.length ≤ 1073741824 := by simpa using hs
  have hs' := Lib.hid hl
  cases h
  clear hs hl
  go_enter Tryd.func11, Tryd.ntmps11
  go_wp2_with (go_at_call 20; refine (ref_sum a0.data.toList hs'.out _).mono ?_; rintro e w1 ⟨rfl, hb⟩)
  go_ret
  exact ⟨rfl, hb⟩
 ·
  cases h
theorem delta_Make.calls (a0 a1 : ByteArray) (r : ByteArray) (w : World) (h : delta_Make.f a0 a1 = some r) : Calls Tryd.prog 10 #[.string a0, .string a1] w fun e w' => e = .returned (.string r) ∧ Below w.heap.size w w' := by
 unfold delta_Make.f at h
 split at h
 ·
  rename_i hs
  cases h
  exact make_calls w hs.1 hs.2
 ·
  cases h
end Go.Proofs.YthnojgpobfpgeaaDoor.PCg
