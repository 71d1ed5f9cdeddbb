/- LooseNone and awake: what is known of their symbols; their contracts. -/
import Derived.Test.YthnojgpobfpgeaaGreatDoorTUpR
import Derived.Test.YthnojgpobfpgeaaGreatDoorTLinks
import Derived.Test.YthnojgpobfpgeaaGreatDoorTFsE
import Derived.Test.YthnojgpobfpgeaaGreatDoorTRnd
import Derived.Test.YthnojgpobfpgeaaGreatDoorTSym
import Derived.Test.YthnojgpobfpgeaaGreatDoorTEnv
namespace Go.Proofs
open Go.Ev Go.RowKit
noncomputable def keysU : List SKey := [⟨sy 5, sy 5, true⟩, ⟨sy 5, sy 6, false⟩, ⟨sy 5, str objL, false⟩, ⟨sy 5, str incL, false⟩, ⟨sy 5, str [], false⟩, ⟨sy 6, sy 5, false⟩, ⟨sy 6, sy 6, true⟩, ⟨sy 6, str objL, false⟩, ⟨sy 6, str incL, false⟩, ⟨sy 6, str [], false⟩, ⟨str objL, sy 5, false⟩, ⟨str objL, sy 6, false⟩, ⟨str incL, sy 5, false⟩, ⟨str incL, sy 6, false⟩, ⟨str [], sy 5, false⟩, ⟨str [], sy 6, false⟩]
noncomputable def szU : List (Value × Nat) := [(sy 5, 73), (sy 6, 10), (str objL, 7), (str incL, 16)]
noncomputable def tabAw : Tabs :=
  { bins := [⟨.eql, sy 5, str [], .bool false⟩, ⟨.eql, sy 6, str [], .bool false⟩, ⟨.neq, sy 5, str [], .bool true⟩, ⟨.neq, sy 6, str [], .bool true⟩, ⟨.eql, str incL, sy 5, .bool false⟩, ⟨.eql, str objL, sy 6, .bool false⟩, ⟨.eql, sy 6, sy 6, .bool true⟩, ⟨.add, str homeL, sy 10, sy 6⟩, ⟨.add, sy 6, str [47], sy 14⟩, ⟨.add, sy 14, sy 11, sy 5⟩, ⟨.eql, sy 4, sy 4, .bool true⟩, ⟨.neq, sy 4, sy 4, .bool false⟩]
    lens := [⟨4, nat 32⟩, ⟨5, nat 73⟩, ⟨6, nat 10⟩]
    slices := [⟨sy 4, none, some (nat 1), sy 12⟩, ⟨sy 4, some (nat 1), none, sy 13⟩]
    keys := keysU }
noncomputable def rows55 : List SRow := [⟨[sy 12], sy 10⟩, ⟨[sy 13], sy 11⟩]
noncomputable def rows69 : List SRow := [⟨[sy 5], .bool true⟩, ⟨[sy 6], .bool true⟩, ⟨[str objL], .bool true⟩, ⟨[str incL], .bool true⟩]
noncomputable def rows32 : List SRow := [⟨[sy 5], sy 6⟩, ⟨[sy 6], str objL⟩, ⟨[str incL], str objL⟩, ⟨[str objL], str []⟩]
theorem ext86 : Go.Ev.Ext Tryz.prog 86 Extern.MapsClone.clone := ⟨Tryz.f86, Tryz.func86, by decide, rfl, by kernel_rfl, by kernel_rfl⟩
noncomputable def specsB : List (FuncId × Spec) := [(55, rowsT rows55), (69, rowsT rows69), (32, rowsT rows32), (83, sKidsS szU), (33, sUsedS szU), (86, sClone)]
theorem neq_no (a : List UInt8) : scalarOp .neq (str a) (str a) = some (.bool false) := by
  show mkBool (!(same a a)) = _
  rw [same_refl]; rfl
section
variable {s : ByteArray} {room : Int} {t id : List UInt8} {pr : PrE}
theorem keysU_ok (h : id.length = 32) : letI := looSg s room t id pr; ∀ e ∈ keysU, atom e.x = true /\ atom e.y = true /\ ∃ p q : ByteArray, den e.x = .string p /\ den e.y = .string q /\ e.b = same p.data.toList q.data.toList := by
  letI := looSg s room t id pr
  intro e he
  simp only [keysU, List.mem_cons, List.not_mem_nil, or_false] at he
  rcases he with rfl | rfl | rfl | rfl | rfl | rfl | rfl | rfl | rfl | rfl | rfl | rfl | rfl | rfl | rfl | rfl
  . exact ⟨rfl, rfl, ⟨⟨pathL id⟩⟩, ⟨⟨pathL id⟩⟩, rfl, rfl, (same_refl _).symm⟩
  . exact ⟨rfl, rfl, ⟨⟨pathL id⟩⟩, ⟨⟨folL id⟩⟩, rfl, rfl, (same_len (a := pathL id) (b := folL id) (by rw [pathL_len h, folL_len h]; decide)).symm⟩
  . exact ⟨rfl, rfl, ⟨⟨pathL id⟩⟩, ⟨⟨objL⟩⟩, rfl, rfl, (same_len (a := pathL id) (b := objL) (by rw [pathL_len h]; decide)).symm⟩
  . exact ⟨rfl, rfl, ⟨⟨pathL id⟩⟩, ⟨⟨incL⟩⟩, rfl, rfl, (same_len (a := pathL id) (b := incL) (by rw [pathL_len h]; decide)).symm⟩
  . exact ⟨rfl, rfl, ⟨⟨pathL id⟩⟩, ⟨⟨[]⟩⟩, rfl, rfl, (same_len (a := pathL id) (b := []) (by rw [pathL_len h]; decide)).symm⟩
  . exact ⟨rfl, rfl, ⟨⟨folL id⟩⟩, ⟨⟨pathL id⟩⟩, rfl, rfl, (same_len (a := folL id) (b := pathL id) (by rw [folL_len h, pathL_len h]; decide)).symm⟩
  . exact ⟨rfl, rfl, ⟨⟨folL id⟩⟩, ⟨⟨folL id⟩⟩, rfl, rfl, (same_refl _).symm⟩
  . exact ⟨rfl, rfl, ⟨⟨folL id⟩⟩, ⟨⟨objL⟩⟩, rfl, rfl, (same_len (a := folL id) (b := objL) (by rw [folL_len h]; decide)).symm⟩
  . exact ⟨rfl, rfl, ⟨⟨folL id⟩⟩, ⟨⟨incL⟩⟩, rfl, rfl, (same_len (a := folL id) (b := incL) (by rw [folL_len h]; decide)).symm⟩
  . exact ⟨rfl, rfl, ⟨⟨folL id⟩⟩, ⟨⟨[]⟩⟩, rfl, rfl, (same_len (a := folL id) (b := []) (by rw [folL_len h]; decide)).symm⟩
  . exact ⟨rfl, rfl, ⟨⟨objL⟩⟩, ⟨⟨pathL id⟩⟩, rfl, rfl, (same_len (a := objL) (b := pathL id) (by rw [pathL_len h]; decide)).symm⟩
  . exact ⟨rfl, rfl, ⟨⟨objL⟩⟩, ⟨⟨folL id⟩⟩, rfl, rfl, (same_len (a := objL) (b := folL id) (by rw [folL_len h]; decide)).symm⟩
  . exact ⟨rfl, rfl, ⟨⟨incL⟩⟩, ⟨⟨pathL id⟩⟩, rfl, rfl, (same_len (a := incL) (b := pathL id) (by rw [pathL_len h]; decide)).symm⟩
  . exact ⟨rfl, rfl, ⟨⟨incL⟩⟩, ⟨⟨folL id⟩⟩, rfl, rfl, (same_len (a := incL) (b := folL id) (by rw [folL_len h]; decide)).symm⟩
  . exact ⟨rfl, rfl, ⟨⟨[]⟩⟩, ⟨⟨pathL id⟩⟩, rfl, rfl, (same_len (a := []) (b := pathL id) (by rw [pathL_len h]; decide)).symm⟩
  . exact ⟨rfl, rfl, ⟨⟨[]⟩⟩, ⟨⟨folL id⟩⟩, rfl, rfl, (same_len (a := []) (b := folL id) (by rw [folL_len h]; decide)).symm⟩
theorem szU_ok (h : id.length = 32) : @SzOk (looSg s room t id pr) szU := by
  letI := looSg s room t id pr
  intro e he
  simp only [szU, List.mem_cons, List.not_mem_nil, or_false] at he
  rcases he with rfl | rfl | rfl | rfl
  . exact ⟨rfl, ⟨⟨pathL id⟩⟩, rfl, pathL_len h⟩
  . exact ⟨rfl, ⟨⟨folL id⟩⟩, rfl, folL_len h⟩
  . exact ⟨rfl, ⟨⟨objL⟩⟩, rfl, rfl⟩
  . exact ⟨rfl, ⟨⟨incL⟩⟩, rfl, rfl⟩
theorem tabAw_ok (h : id.length = 32) : @TabsOk (looSg s room t id pr) (tabAw) :=
  letI := looSg s room t id pr
  { bins := fun e he => by
      simp only [tabAw, List.mem_cons, List.not_mem_nil, or_false] at he
      rcases he with rfl | rfl | rfl | rfl | rfl | rfl | rfl | rfl | rfl | rfl | rfl | rfl
      . exact ⟨rfl, rfl, rfl, eql_noL (a := pathL id) (b := []) (pathL_len h) (by decide)⟩
      . exact ⟨rfl, rfl, rfl, eql_noL (a := folL id) (b := []) (folL_len h) (by decide)⟩
      . exact ⟨rfl, rfl, rfl, neq_yes (a := pathL id) (b := []) (by rw [pathL_len h]; decide)⟩
      . exact ⟨rfl, rfl, rfl, neq_yes (a := folL id) (b := []) (by rw [folL_len h]; decide)⟩
      . exact ⟨rfl, rfl, rfl, eql_noR (b := pathL id) (a := incL) (pathL_len h) (by decide)⟩
      . exact ⟨rfl, rfl, rfl, eql_noR (b := folL id) (a := objL) (folL_len h) (by decide)⟩
      . exact ⟨rfl, rfl, rfl, eql_yes (folL id)⟩
      . exact ⟨rfl, rfl, rfl, add_str (x := homeL) (y := h0L id) (by rw [h0L_len h]; decide)⟩
      . exact ⟨rfl, rfl, rfl, add_str (x := folL id) (y := [47]) (by rw [folL_len h]; decide)⟩
      . exact ⟨rfl, rfl, rfl, add_str (x := folL id ++ [47]) (y := h1L id) (by rw [List.length_append, folL_len h, h1L_len h]; decide)⟩
      . exact ⟨rfl, rfl, rfl, eql_yes id⟩
      . exact ⟨rfl, rfl, rfl, neq_no id⟩
    convs := fun _ he => by cases he
    bytes := fun _ he => by cases he
    slices := fun e he => by
      simp only [tabAw, List.mem_cons, List.not_mem_nil, or_false] at he
      rcases he with rfl | rfl
      . exact ⟨rfl, fun _ h => (by cases h), fun _ h => (by cases h; rfl), rfl, cutHi (l := id) (n := 1) (by omega)⟩
      . exact ⟨rfl, fun _ h => (by cases h; rfl), fun _ h => (by cases h), rfl, cutLo (l := id) (n := 1) (by omega)⟩
    lens := fun e he => by
      simp only [tabAw, List.mem_cons, List.not_mem_nil, or_false] at he
      rcases he with rfl | rfl | rfl
      . exact ⟨rfl, ⟨⟨id⟩⟩, rfl, by show nat 32 = .int .i64 (id.length : Nat); rw [h]; rfl⟩
      . exact ⟨rfl, ⟨⟨pathL id⟩⟩, rfl, by show nat 73 = .int .i64 ((pathL id).length : Nat); rw [pathL_len h]; rfl⟩
      . exact ⟨rfl, ⟨⟨folL id⟩⟩, rfl, by show nat 10 = .int .i64 ((folL id).length : Nat); rw [folL_len h]; rfl⟩
    idx := fun _ he => by cases he
    keys := keysU_ok h }
theorem hex_row {x v : Value} {l : List UInt8} [Sg] (ha : atomC x = true) (hx : den x = str l) (hl : l.length <= 32) (hv : atomT v = true) (hd : denT v = str (hexL l)) : RowOk Tryz.prog 55 ⟨[x], v⟩ :=
  ⟨by show ifB (atomC x) true false = true; rw [ha]; rfl, hv, fun w => by
    show Calls Tryz.prog 55 ⟨[den x]⟩ w fun r w' => r = .returned (denT v) /\ Below w.heap.size w w'
    rw [hx, hd]
    exact hex_walk ⟨⟨l⟩⟩ (Nat.le_trans hl (by decide)) w⟩
theorem specsB_ok (h : id.length = 32) : letI := looSg s room t id pr; ∀ e ∈ specsB, SpecOk Tryz.prog e.1 e.2 := by
  letI := looSg s room t id pr
  intro e he
  simp only [specsB, List.mem_cons, List.not_mem_nil, or_false] at he
  rcases he with rfl | rfl | rfl | rfl | rfl | rfl
  . show SpecOk Tryz.prog 55 (rowsT rows55)
    refine rows_ok (enters_of Tryz.func55 (by kernel_rfl) rfl) fun e he => ?_
    simp only [rows55, List.mem_cons, List.not_mem_nil, or_false] at he
    rcases he with rfl | rfl
    . exact hex_row (l := id.take 1) rfl rfl (by rw [List.length_take]; omega) rfl rfl
    . exact hex_row (l := id.drop 1) rfl rfl (by rw [List.length_drop]; omega) rfl rfl
  . show SpecOk Tryz.prog 69 (rowsT rows69)
    refine rows_ok (enters_of Tryz.func69 (by kernel_rfl) rfl) fun e he => ?_
    simp only [rows69, List.mem_cons, List.not_mem_nil, or_false] at he
    rcases he with rfl | rfl | rfl | rfl
    . exact ⟨rfl, rfl, fun w => path_path h w⟩
    . exact ⟨rfl, rfl, fun w => path_fol h w⟩
    . exact ⟨rfl, rfl, fun w => path_obj w⟩
    . exact ⟨rfl, rfl, fun w => path_inc w⟩
  . show SpecOk Tryz.prog 32 (rowsT rows32)
    refine rows_ok (enters_of Tryz.func32 (by kernel_rfl) rfl) fun e he => ?_
    simp only [rows32, List.mem_cons, List.not_mem_nil, or_false] at he
    rcases he with rfl | rfl | rfl | rfl
    . exact ⟨rfl, rfl, fun w => up_path h w⟩
    . exact ⟨rfl, rfl, fun w => up_fol h w⟩
    . exact ⟨rfl, rfl, fun w => up_inc w⟩
    . exact ⟨rfl, rfl, fun w => up_obj w⟩
  . exact kids83 (szU_ok h)
  . exact used33 (szU_ok h)
  . exact clone_ok ext86
end
theorem shaF_len (l : List UInt8) : (shaF l).length = 32 := by simp [shaF, outL]
end Go.Proofs
namespace Go.Proofs
open Go.Ev Go.RowKit
def bx : List UInt8 := [98, 108, 111, 98, 32, 49, 0, 120]
noncomputable abbrev runRi : Go.Ev.Call := evF (envOf []) 1000000 400
set_option maxRecDepth 1000000 in
theorem rid_b : sameRes (runRi 14 [str bx] Heap.empty) (str (shaF bx)) = true := by kernel_rfl
set_option maxRecDepth 1000000 in
theorem rid_n : sameRes (runRi 14 [str []] Heap.empty) (str (shaF [])) = true := by kernel_rfl
theorem rid_any {l : List UInt8} (h : sameRes (runRi 14 [str l] Heap.empty) (str (shaF l)) = true) (w : World) : Calls Tryz.prog 14 ⟨[str l]⟩ w fun e w' => e = .returned (str (shaF l)) /\ Below w.heap.size w w' := by
 letI : Sg := sgF (fun _ => .int .i64 0) fun _ => rfl
 obtain ⟨H, hrun⟩ := sameRes_ok h
 refine (calls_closed env_ok mixed (funsOk rfl) (specs_of rfl (fun e he => by cases he)) 1000000 400 hrun (.cons (.string _) .nil) w (by rw [Tryz.func14]; rfl)).mono ?_
 rintro e w' ⟨u, rfl, ⟨ρ, hV⟩, hb⟩
 cases hV
 exact ⟨rfl, hb⟩
end Go.Proofs
namespace Go.Proofs
open Go.Ev Go.RowKit
noncomputable def rowsA : List SRow := [⟨[str bx], sy 4⟩]
noncomputable def specsAw : List (FuncId × Spec) := (27, rowsT rowsA) :: (14, rowsT rowsA) :: (152, sIndexByte) :: specsB
noncomputable abbrev runAw : Go.Ev.Call := evF (envOfS tabAw.syms specsAw) 100000 200
set_option maxRecDepth 1000000 in
theorem awake_run : sameRes (runAw 11 [] Heap.empty) (.bool true) = true := by kernel_rfl
theorem specsAw_ok : letI := looSg .empty 0 [] (shaF bx) (prN []); ∀ e ∈ specsAw, SpecOk Tryz.prog e.1 e.2 := by
 letI := looSg .empty 0 [] (shaF bx) (prN [])
 intro e he
 rcases List.mem_cons.1 he with rfl | he
 ·
  show SpecOk Tryz.prog 27 (rowsT rowsA)
  refine rows_ok (enters_of Tryz.func27 (by kernel_rfl) rfl) fun e he => ?_
  simp only [rowsA, List.mem_cons, List.not_mem_nil, or_false] at he
  subst he
  exact ⟨rfl, rfl, fun w => oid_calls ⟨⟨bx⟩⟩ (by decide) w⟩
 rcases List.mem_cons.1 he with rfl | he
 ·
  show SpecOk Tryz.prog 14 (rowsT rowsA)
  refine rows_ok (enters_of Tryz.func14 (by kernel_rfl) rfl) fun e he => ?_
  simp only [rowsA, List.mem_cons, List.not_mem_nil, or_false] at he
  subst he
  exact ⟨rfl, rfl, fun w => rid_any rid_b w⟩
 rcases List.mem_cons.1 he with rfl | he
 ·
  exact indexByte_ok ext152
 ·
  exact specsB_ok (shaF_len bx) e he
theorem awake_calls (w : World) : Calls Tryz.prog 11 ⟨[]⟩ w fun e w' => e = .returned (.bool true) /\ Below w.heap.size w w' := by
 letI := looSg .empty 0 [] (shaF bx) (prN [])
 obtain ⟨H, hrun⟩ := sameRes_ok awake_run
 refine (calls_closed (envS_ok (tabs_ok (tabAw_ok (shaF_len bx)))) mixed (funsSOk rfl) (specs_of rfl specsAw_ok) 100000 200 hrun .nil w (by rw [Tryz.func11]; rfl)).mono ?_
 rintro e w' ⟨u, rfl, ⟨ρ, hV⟩, hb⟩
 cases hV
 exact ⟨rfl, hb⟩
end Go.Proofs
