/- LooseNone's awake: run with the sum of its blob open. -/
import Derived.Test.YthnojgpobfpgeaaGreatDoorTLooB
/-! LooseNone's awake: run with the sum of its blob open. -/
namespace Go.Proofs
open Go.Ev Go.RowKit
/-- "blob 1", a nought, "x". -/
def bx : List UInt8 := [98, 108, 111, 98, 32, 49, 0, 120]
noncomputable def rowsA : List SRow := [⟨[str bx], sy 4⟩]
noncomputable def specsAw : List (FuncId × Spec) := (27, rowsT rowsA) :: (14, rowsT rowsA) :: (152, sIndexByte) :: specsB
noncomputable abbrev runAw : Go.Ev.Call := evF (envOfS tabAw.syms specsAw) 100000 200
set_option maxRecDepth 1000000 in
theorem awake_run : sameRes (runAw 11 [] Heap.empty) (.bool true) = true := by kernel_rfl
theorem specsAw_ok : letI := looSg .empty 0 [] (shaF bx) []; ∀ e ∈ specsAw, SpecOk Tryz.prog e.1 e.2 := by
 letI := looSg .empty 0 [] (shaF bx) []
 intro e he
 rcases List.mem_cons.1 he with rfl | he
 ·
  show SpecOk Tryz.prog 27 (rowsT rowsA)
  refine rows_ok (enters_of Tryz.func27 (by kernel_rfl) rfl) fun e he => ?_
  simp only [rowsA, List.mem_cons, List.not_mem_nil, or_false] at he
  subst he
  exact ⟨rfl, rfl, fun w => oid_calls ⟨⟨bx⟩⟩ (by decide) w⟩
 rcases List.mem_cons.1 he with rfl | he
 ·
  show SpecOk Tryz.prog 14 (rowsT rowsA)
  refine rows_ok (enters_of Tryz.func14 (by kernel_rfl) rfl) fun e he => ?_
  simp only [rowsA, List.mem_cons, List.not_mem_nil, or_false] at he
  subst he
  exact ⟨rfl, rfl, fun w => rid_calls ⟨⟨bx⟩⟩ (by decide) w⟩
 rcases List.mem_cons.1 he with rfl | he
 ·
  exact indexByte_ok ext152
 ·
  exact specsB_ok (shaF_len bx) e he
theorem awake_calls (w : World) : Calls Tryz.prog 11 ⟨[]⟩ w fun e w' => e = .returned (.bool true) ∧ Below w.heap.size w w' := by
 letI := looSg .empty 0 [] (shaF bx) []
 obtain ⟨H, hrun⟩ := sameRes_ok awake_run
 refine (calls_closed (envS_ok (tabs_ok (tabAw_ok (shaF_len bx)))) mixed (funsSOk rfl) (specs_of rfl specsAw_ok) 100000 200 hrun .nil w (by rw [Tryz.func11]; rfl)).mono ?_
 rintro e w' ⟨u, rfl, ⟨ρ, hV⟩, hb⟩
 cases hV
 exact ⟨rfl, hb⟩
end Go.Proofs

/-! LooseNone, run: true, whatever the text and the room are. -/
namespace Go.Proofs
open Go.Ev Go.RowKit
noncomputable def specsU : List (FuncId × Spec) := (7, rowsT [⟨[sy 0], sy 3⟩]) :: (26, rowsT [⟨[sy 3], .tuple ⟨[.slice none 0 0, nat 0]⟩⟩]) :: (28, rowsT [⟨[sy 3], .tuple ⟨[sy 7, nat 0]⟩⟩]) :: (17, rowsT [⟨[sy 3], sy 7⟩]) ::
 (27, rowsT [⟨[sy 3], sy 4⟩]) :: (14, rowsT [⟨[sy 3], sy 4⟩]) :: (11, rowsT [⟨[], .bool true⟩]) :: specsB
noncomputable abbrev runU2 (fits : Bool) : Go.Ev.Call := evF (envOfS (tabU fits).syms specsU) 100000 200
set_option maxRecDepth 1000000 in
theorem run_fits : sameRes (runU2 true 4 [sy 0, sy 1] Heap.empty) (.bool true) = true := by kernel_rfl
set_option maxRecDepth 1000000 in
theorem run_full : sameRes (runU2 false 4 [sy 0, sy 1] Heap.empty) (.bool true) = true := by kernel_rfl
theorem row_one {P : Program} [Sg] {f : FuncId} (he : Enters P f) {r : SRow} (h : RowOk P f r) : SpecOk P f (rowsT [r]) := rows_ok he fun e he => by
 rcases List.mem_cons.1 he with rfl | he
 ·
  exact h
 ·
  cases he
theorem press_len {l : List UInt8} (h : l.length ≤ 1000) : 0 < (pressL l).length ∧ (pressL l).length ≤ 100000 := by
 have h1 := pressR_len l l.length 0 0 (Nat.le_refl _) (Nat.zero_le _)
 have h2 := numL_le l.length
 have h3 : 0 < (numL l.length).length := by unfold numL; split <;> simp
 unfold pressL
 rw [List.length_append]
 omega
section
variable {s : ByteArray} {room : Int}
noncomputable abbrev tOf (s : ByteArray) : List UInt8 := s.data.toList.take 200
theorem tOf_len : (tOf s).length ≤ 200 := by rw [List.length_take]; omega
theorem raw_size : (⟨⟨blobL (tOf s)⟩⟩ : ByteArray).size ≤ 210 := blobL_len _ tOf_len
noncomputable abbrev lawSg (s : ByteArray) (room : Int) : Sg := looSg s room (tOf s) (shaF (blobL (tOf s))) (pressL (blobL (tOf s)))
theorem specsU_ok : letI := lawSg s room; ∀ e ∈ specsU, SpecOk Tryz.prog e.1 e.2 := by
 letI := lawSg s room
 intro e he
 rcases List.mem_cons.1 he with rfl | he
 ·
  exact row_one (enters_of Tryz.func7 (by kernel_rfl) rfl) ⟨rfl, rfl, fun w => blob_calls s w⟩
 rcases List.mem_cons.1 he with rfl | he
 ·
  exact row_one (enters_of Tryz.func26 (by kernel_rfl) rfl) ⟨rfl, rfl, fun w => links_calls tOf_len w⟩
 rcases List.mem_cons.1 he with rfl | he
 ·
  exact row_one (enters_of Tryz.func28 (by kernel_rfl) rfl) ⟨rfl, rfl, fun w => press_calls (s := ⟨⟨blobL (tOf s)⟩⟩) (Nat.le_trans raw_size (by decide)) w⟩
 rcases List.mem_cons.1 he with rfl | he
 ·
  exact row_one (enters_of Tryz.func17 (by kernel_rfl) rfl) ⟨rfl, rfl, fun w => ref_press_calls (s := ⟨⟨blobL (tOf s)⟩⟩) (Nat.le_trans raw_size (by decide)) w⟩
 rcases List.mem_cons.1 he with rfl | he
 ·
  exact row_one (enters_of Tryz.func27 (by kernel_rfl) rfl) ⟨rfl, rfl, fun w => oid_calls ⟨⟨blobL (tOf s)⟩⟩ (Nat.le_trans raw_size (by decide)) w⟩
 rcases List.mem_cons.1 he with rfl | he
 ·
  exact row_one (enters_of Tryz.func14 (by kernel_rfl) rfl) ⟨rfl, rfl, fun w => rid_calls ⟨⟨blobL (tOf s)⟩⟩ (Nat.le_trans raw_size (by decide)) w⟩
 rcases List.mem_cons.1 he with rfl | he
 ·
  exact row_one (enters_of Tryz.func11 (by kernel_rfl) rfl) ⟨rfl, rfl, fun w => awake_calls w⟩
 ·
  exact specsB_ok (shaF_len _) e he
theorem law_calls (s : ByteArray) (room : Int) (w : World) : Calls Tryz.prog 4 #[.string s, .int .i64 room] w fun e w' => e = .returned (.bool true) ∧ Below w.heap.size w w' := by
 letI := lawSg s room
 have hp := press_len (l := blobL (tOf s)) (Nat.le_trans (blobL_len _ tOf_len) (by decide))
 have key : ∀ fits : Bool, decide ((pressL (blobL (tOf s))).length ≤ r31 room) = fits → sameRes (runU2 fits 4 [sy 0, sy 1] Heap.empty) (.bool true) = true → Calls Tryz.prog 4 #[.string s, .int .i64 room] w fun e w' => e = .returned (.bool true) ∧ Below w.heap.size w w' := by
  intro fits hf hr
  obtain ⟨H, hrun⟩ := sameRes_ok hr
  refine (calls_closed (envS_ok (tabs_ok (tabU_ok (shaF_len _) hp.1 hp.2 hf))) mixed (funsSOk rfl) (specs_of rfl specsU_ok) 100000 200 hrun (.cons (.sym 0) (.cons (.sym 1) .nil)) w (by rw [Tryz.func4]; rfl)).mono ?_
  rintro e w' ⟨u, rfl, ⟨ρ, hV⟩, hb⟩
  cases hV
  exact ⟨rfl, hb⟩
 cases hf : decide ((pressL (blobL (tOf s))).length ≤ r31 room) with
 | true => exact key true hf run_fits
 | false => exact key false hf run_full
end
end Go.Proofs
