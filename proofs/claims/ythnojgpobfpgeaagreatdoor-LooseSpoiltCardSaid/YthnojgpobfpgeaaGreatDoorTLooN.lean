/- LooseNone's awake: run with the sum of its blob open. -/
import Derived.Test.YthnojgpobfpgeaaGreatDoorTLooB
import Derived.Test.YthnojgpobfpgeaaGreatDoorTUpR
/-! LooseNone's awake: run with the sum of its blob open. -/
namespace Go.Proofs
open Go.Ev Go.RowKit
/-- "blob 1", a nought, "x". -/
def bx : List UInt8 := [98, 108, 111, 98, 32, 49, 0, 120]
noncomputable def rowsA : List SRow := [⟨[str bx], sy 4⟩]
noncomputable def specsAw : List (FuncId × Spec) := (27, rowsT rowsA) :: (14, rowsT rowsA) :: (152, sIndexByte) :: specsB
noncomputable abbrev runAw : Go.Ev.Call := evF (envOfS tabAw.syms specsAw) 100000 200
set_option maxRecDepth 1000000 in
theorem awake_run : sameRes (runAw 11 [] Heap.empty) (.bool true) = true := by kernel_rfl
theorem specsAw_ok : letI := looSg .empty 0 [] (shaF bx) (prN []); ∀ e ∈ specsAw, SpecOk Tryz.prog e.1 e.2 := by
 letI := looSg .empty 0 [] (shaF bx) (prN [])
 intro e he
 rcases List.mem_cons.1 he with rfl | he
 ·
  show SpecOk Tryz.prog 27 (rowsT rowsA)
  refine rows_ok (enters_of Tryz.func27 (by kernel_rfl) rfl) fun e he => ?_
  simp only [rowsA, List.mem_cons, List.not_mem_nil, or_false] at he
  subst he
  exact ⟨rfl, rfl, fun w => oid_calls ⟨⟨bx⟩⟩ (by decide) w⟩
 rcases List.mem_cons.1 he with rfl | he
 ·
  show SpecOk Tryz.prog 14 (rowsT rowsA)
  refine rows_ok (enters_of Tryz.func14 (by kernel_rfl) rfl) fun e he => ?_
  simp only [rowsA, List.mem_cons, List.not_mem_nil, or_false] at he
  subst he
  exact ⟨rfl, rfl, fun w => rid_calls ⟨⟨bx⟩⟩ (by decide) w⟩
 rcases List.mem_cons.1 he with rfl | he
 ·
  exact indexByte_ok ext152
 ·
  exact specsB_ok (shaF_len bx) e he
theorem awake_calls (w : World) : Calls Tryz.prog 11 ⟨[]⟩ w fun e w' => e = .returned (.bool true) ∧ Below w.heap.size w w' := by
 letI := looSg .empty 0 [] (shaF bx) (prN [])
 obtain ⟨H, hrun⟩ := sameRes_ok awake_run
 refine (calls_closed (envS_ok (tabs_ok (tabAw_ok (shaF_len bx)))) mixed (funsSOk rfl) (specs_of rfl specsAw_ok) 100000 200 hrun .nil w (by rw [Tryz.func11]; rfl)).mono ?_
 rintro e w' ⟨u, rfl, ⟨ρ, hV⟩, hb⟩
 cases hV
 exact ⟨rfl, hb⟩
end Go.Proofs

/-! LooseNone, run: true, whatever the text and the room are. -/
namespace Go.Proofs
open Go.Ev Go.RowKit
theorem row_one {P : Program} [Sg] {f : FuncId} (he : Enters P f) {r : SRow} (h : RowOk P f r) : SpecOk P f (rowsT [r]) := rows_ok he fun e he => by
 rcases List.mem_cons.1 he with rfl | he
 ·
  exact h
 ·
  cases he
theorem press_len {l : List UInt8} (h : l.length ≤ 1000) : 0 < (pressL l).length ∧ (pressL l).length ≤ 100000 := by
 have h1 := pressR_len l l.length 0 0 (Nat.le_refl _) (Nat.zero_le _)
 have h2 := numL_le l.length
 have h3 : 0 < (numL l.length).length := by unfold numL; split <;> simp
 unfold pressL
 rw [List.length_append]
 omega
section
variable {s : ByteArray} {room : Int}
noncomputable abbrev tOf (s : ByteArray) : List UInt8 := s.data.toList.take 200
theorem tOf_len : (tOf s).length ≤ 200 := by rw [List.length_take]; omega
theorem raw_size : (⟨⟨blobL (tOf s)⟩⟩ : ByteArray).size ≤ 210 := blobL_len _ tOf_len
end
end Go.Proofs

/-! The law's file of an object. -/
namespace Go.Proofs
open Go.Ev Go.RowKit
/-- LooseSpoilt's further symbols. -/
noncomputable def spEx (other : ByteArray) (id ot pr x : List UInt8) (c : Int) : Nat → Value
  | 23 => str (hexL id)
  | 24 => .string other
  | 25 => nat other.size
  | 26 => str ot
  | 27 => nat ot.length
  | 28 => .int .i64 ((ot.length : Int) - (pr.length : Int))
  | 29 => nat (1048576 - ot.length)
  | 30 => nat (1048576 - pr.length)
  | 31 => str x
  | 32 => .int .i64 c
  | 34 => str (shaF x)
  | _ => nat 0
theorem spEx_kind (other : ByteArray) (id ot pr x : List UInt8) (c : Int) (n : Nat) : isIS (spEx other id ot pr x c n) = true := by
  unfold spEx
  split <;> rfl
noncomputable def spP (other : ByteArray) (id ot pr x : List UInt8) (c : Int) : PrE := ⟨pr, spEx other id ot pr x c, spEx_kind other id ot pr x c⟩

theorem hex_split (id : List UInt8) : hexL id = h0L id ++ h1L id := by
  unfold h0L h1L
  rw [← hexL_append, List.take_append_drop]
noncomputable def tabFi : Tabs :=
  { bins := [⟨.add, str homeL, sy 10, sy 6⟩, ⟨.add, sy 6, str [47], sy 14⟩, ⟨.add, sy 14, sy 11, sy 5⟩]
    slices := [⟨sy 23, none, some (nat 2), sy 10⟩, ⟨sy 23, some (nat 2), none, sy 11⟩] }
noncomputable def specsFi : List (FuncId × Spec) := [(14, rowsT [⟨[sy 3], sy 4⟩]), (36, rowsT [⟨[sy 4], sy 23⟩])]
noncomputable abbrev runFi : Go.Ev.Call := evF (envOfS tabFi.syms specsFi) 100000 200
set_option maxRecDepth 1000000 in
theorem file_run : sameRes (runFi 10 [sy 3] Heap.empty) (sy 5) = true := by kernel_rfl
section
variable {t : List UInt8} {other : ByteArray} {ot pr x : List UInt8} {c : Int}
theorem tabFi_ok {id : List UInt8} (h : id.length = 32) : @TabsOk (looSg .empty 0 t id (spP other id ot pr x c)) tabFi :=
  letI := looSg .empty 0 t id (spP other id ot pr x c)
  { bins := fun e he => by
      simp only [tabFi, List.mem_cons, List.not_mem_nil, or_false] at he
      rcases he with rfl | rfl | rfl
      · exact ⟨rfl, rfl, rfl, add_str (x := homeL) (y := h0L id) (by rw [h0L_len h]; decide)⟩
      · exact ⟨rfl, rfl, rfl, add_str (x := folL id) (y := [47]) (by rw [folL_len h]; decide)⟩
      · exact ⟨rfl, rfl, rfl, add_str (x := folL id ++ [47]) (y := h1L id) (by rw [List.length_append, folL_len h, h1L_len h]; decide)⟩
    convs := fun _ he => by cases he
    bytes := fun _ he => by cases he
    slices := fun e he => by
      simp only [tabFi, List.mem_cons, List.not_mem_nil, or_false] at he
      have hl : (hexL id).length = 64 := by rw [hexL_length]; omega
      rcases he with rfl | rfl
      · refine ⟨rfl, fun _ h => (by cases h), fun _ h => (by cases h; rfl), rfl, ?_⟩
        have e := cutHi (l := hexL id) (n := 2) (by omega)
        rw [show List.take 2 (hexL id) = h0L id by rw [hex_split]; exact List.take_left' (h0L_len h)] at e
        exact e
      · refine ⟨rfl, fun _ h => (by cases h; rfl), fun _ h => (by cases h), rfl, ?_⟩
        have e := cutLo (l := hexL id) (n := 2) (by omega)
        rw [show List.drop 2 (hexL id) = h1L id by rw [hex_split]; exact List.drop_left' (h0L_len h)] at e
        exact e
    lens := fun _ he => by cases he
    idx := fun _ he => by cases he
    keys := fun _ he => by cases he }
end
theorem file_calls {t : List UInt8} (ht : t.length ≤ 200) (w : World) : Calls Tryz.prog 10 ⟨[str (blobL t)]⟩ w fun e w' => e = .returned (str (pathL (shaF (blobL t)))) ∧ Below w.heap.size w w' := by
  letI := looSg .empty 0 t (shaF (blobL t)) (spP .empty (shaF (blobL t)) [] [] [] 0)
  have hb : (⟨⟨blobL t⟩⟩ : ByteArray).size ≤ 210 := blobL_len _ ht
  have hok : ∀ e ∈ specsFi, SpecOk Tryz.prog e.1 e.2 := by
    intro e he
    simp only [specsFi, List.mem_cons, List.not_mem_nil, or_false] at he
    rcases he with rfl | rfl
    · exact row_one (enters_of Tryz.func14 (by kernel_rfl) rfl) ⟨rfl, rfl, fun w => rid_calls ⟨⟨blobL t⟩⟩ (Nat.le_trans hb (by decide)) w⟩
    · exact row_one (enters_of Tryz.func36 (by kernel_rfl) rfl) ⟨rfl, rfl, fun w => hexR_calls (shaF (blobL t)) (by rw [shaF_len]; decide) w⟩
  obtain ⟨H, hrun⟩ := sameRes_ok file_run
  refine (calls_closed (envS_ok (tabs_ok (tabFi_ok (shaF_len _)))) mixed (funsSOk rfl) (specs_of rfl hok) 100000 200 hrun (.cons (.sym 3) .nil) w (by rw [Tryz.func10]; rfl)).mono ?_
  rintro e w' ⟨u, rfl, ⟨ρ, hV⟩, hb⟩
  cases hV
  exact ⟨rfl, hb⟩
end Go.Proofs
