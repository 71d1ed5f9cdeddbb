/- vfs.up: what lies ahead of the last stroke. -/
import Derived.Test.YthnojgpobfpgeaaGreatDoorTBlob
import Derived.Test.YthnojgpobfpgeaaGreatDoorTRefT
import Derived.Lib.Hide
import Derived.LoopTactic
import Derived.LoopN
import Derived.Test.YthnojgpobfpgeaaGreatDoorTSym
import Derived.Test.YthnojgpobfpgeaaGreatDoorTEnv
namespace Go.Proofs
open Go.Ev Go.RowKit
set_option maxRecDepth 1000000 in
theorem last_calls {s : ByteArray} (hs : s.size <= 1000) {i : Nat} (hi : i < s.size) (h47 : s[i].toNat = 47) (hno : ∀ j (h : j < s.size), i < j -> ¬ s[j].toNat = 47) (w : World) :
  Calls Tryz.prog 114 #[.string s, .int .u8 47] w fun e w' => e = .returned (.int .i64 (i : Int)) /\ w' = w := by
 have hno' := Lib.hid hno
 have e0 : (s.size : Int) - 1 = ((s.size - 1 : Nat) : Int) := by omega
 have e1 : wrap64 ((s.size : Int) - 1) = ((s.size - 1 : Nat) : Int) := by rw [wrapI (by omega) (by omega)]; omega
 have e2 : IntKind.i64.wrap ((s.size - 1 : Nat) : Int) = ((s.size - 1 : Nat) : Int) := wrapI64 _ (by omega)
 clear hno
 go_enter Tryz.func114, Tryz.ntmps114
 go_wp2
 clear e0 e1 e2
 go_loopw [5] (fun v wr => wr = w /\ ∃ j : Nat, v = .int .i64 (j : Int) /\ i <= j /\ j < s.size) (fun v _ => (valOf v).toNat)
 case atStart => exact ⟨rfl, s.size - 1, by first | rfl | (congr 1; omega), by omega, by omega⟩
 case round =>
  obtain ⟨rfl, j, rfl, hij, hjs⟩ := hrel
  have hj0 : (0 : Int) <= (j : Int) := by omega
  have hj1 : (j : Int) < (s.size : Int) := by omega
  by_cases e : j = i
  ·
   subst e
   have hx : ((s[j].toNat : Nat) : Int) = 47 := by omega
   go_wp2
   go_ret
   exact ⟨rfl, rfl⟩
  ·
   have hne := hno'.out j hjs (by omega)
   have hx : ¬ ((s[j].toNat : Nat) : Int) = 47 := by omega
   have e1 : (j : Int) - 1 = ((j - 1 : Nat) : Int) := by omega
   have e2 : IntKind.i64.wrap ((j - 1 : Nat) : Int) = ((j - 1 : Nat) : Int) := wrapI64 _ (by omega)
   go_wp2
   exact ⟨⟨trivial, j - 1, rfl, by omega, by omega⟩, by simp [valOf]; omega⟩
set_option maxRecDepth 1000000 in
theorem up_calls0 {s u : ByteArray} (hs : s.size <= 1000) {i : Nat} (hi : i < s.size) (h47 : s[i].toNat = 47) (hno : ∀ j (h : j < s.size), i < j -> ¬ s[j].toNat = 47) (hu : s.extract 0 i = u) (w : World) :
  Calls Tryz.prog 32 #[.string s] w fun e w' => e = .returned (.string u) /\ Below w.heap.size w w' := by
 have hl := Lib.hid (last_calls hs hi h47 hno)
 have h70 : Hid (∀ w, Calls Tryz.prog 70 #[.string s, .int .u8 47] w fun e w' => e = .returned (.int .i64 (i : Int)) /\ w' = w) := Lib.hid fun w => by
  clear hu h47 hno hi hs
  go_enter Tryz.func70, Tryz.ntmps70
  go_wp2_with (go_at_call 114; refine (hl.out _).mono ?_; rintro r w1 ⟨rfl, hw⟩; rw [hw]; clear hw)
  go_ret
  exact ⟨rfl, rfl⟩
 have h0 : ¬ (i : Int) < 0 := by omega
 have h1 : (0 : Int) <= (i : Int) := by omega
 have h2 : (i : Int) <= (s.size : Int) := by omega
 have h3 : max (i : Int) 0 = (i : Int) := by omega
 clear hl h47 hno hs hi
 go_enter Tryz.func32, Tryz.ntmps32
 go_wp2_with (go_at_call 70; refine (h70.out _).mono ?_; rintro r w1 ⟨rfl, hw⟩; rw [hw]; clear hw)
 go_ret
 exact ⟨rfl, Below.refl _ _⟩
end Go.Proofs
namespace Go.Proofs
open Go.Ev Go.RowKit
theorem ext152 : Go.Ev.Ext Tryz.prog 152 Extern.BytealgIndexByte.indexByte := ⟨Tryz.f152, Tryz.func152, by decide, rfl, by kernel_rfl, by kernel_rfl⟩
theorem ext176 : Go.Ev.Ext Tryz.prog 176 Extern.BytealgCount.count := ⟨Tryz.f176, Tryz.func176, by decide, rfl, by kernel_rfl, by kernel_rfl⟩
abbrev u8 (n : Nat) : Value := .int .u8 (.ofNat n)
theorem rowI [Sg] {x v : Value} {l : List UInt8} {c n : Nat} (ha : atomC x = true) (hx : den x = str l) (hv : atomT v = true) (hn : denT v = nat n) (h : Lib.indexByte l (UInt8.ofNat c) = (n : Int)) : RowX Tryz.prog Extern.BytealgIndexByte.indexByte ⟨[x, u8 c], v⟩ :=
  ⟨by show ifB (atomC x) (ifB true true false) false = true; rw [ha]; rfl, hv, fun w => by
    have e := Lib.run_indexByteString (P := Tryz.prog) ⟨⟨l⟩⟩ (.ofNat c) w
    have e2 : Lib.indexByte (⟨⟨l⟩⟩ : ByteArray).data.toList (Int.ofNat c).toNat.toUInt8 = (n : Int) := h
    rw [e2] at e
    show (Extern.BytealgIndexByte.indexByte ⟨[den x, u8 c]⟩).run Tryz.prog w = .ok (denT v) w
    rw [hx, hn]
    exact e⟩
theorem rowC [Sg] {x v : Value} {l : List UInt8} {c n : Nat} (ha : atomC x = true) (hx : den x = str l) (hv : atomT v = true) (hn : denT v = nat n) (h : l.count (UInt8.ofNat c) = n) : RowX Tryz.prog Extern.BytealgCount.count ⟨[x, u8 c], v⟩ :=
  ⟨by show ifB (atomC x) (ifB true true false) false = true; rw [ha]; rfl, hv, fun w => by
    have e := Lib.run_countString (P := Tryz.prog) ⟨⟨l⟩⟩ (.ofNat c) w
    show (Extern.BytealgCount.count ⟨[den x, u8 c]⟩).run Tryz.prog w = .ok (denT v) w
    rw [hx, hn, <- h]
    exact e⟩
def objL : List UInt8 := [111, 98, 106, 101, 99, 116, 115]
def incL : List UInt8 := [111, 98, 106, 101, 99, 116, 115, 47, 105, 110, 99, 111, 109, 105, 110, 103]
noncomputable def tabP : Tabs :=
  { bins := [⟨.eql, sy 5, str [], .bool false⟩, ⟨.eql, sy 6, str [], .bool false⟩, ⟨.eql, str [47], sy 5, .bool false⟩, ⟨.eql, str [47], sy 6, .bool false⟩, ⟨.eql, str [47], sy 9, .bool false⟩,
      ⟨.eql, sy 10, str [], .bool false⟩, ⟨.eql, sy 10, str [46], .bool false⟩, ⟨.eql, sy 10, str [46, 46], .bool false⟩, ⟨.eql, sy 11, str [], .bool false⟩, ⟨.eql, sy 11, str [46], .bool false⟩, ⟨.eql, sy 11, str [46, 46], .bool false⟩]
    lens := [⟨5, nat 73⟩, ⟨6, nat 10⟩, ⟨9, nat 65⟩, ⟨10, nat 2⟩, ⟨11, nat 62⟩]
    slices := [⟨sy 5, none, some (nat 7), str objL⟩, ⟨sy 5, some (nat 8), none, sy 9⟩, ⟨sy 6, none, some (nat 7), str objL⟩, ⟨sy 6, some (nat 8), none, sy 10⟩, ⟨sy 9, none, some (nat 2), sy 10⟩, ⟨sy 9, some (nat 3), none, sy 11⟩] }
noncomputable def rows152 : List SRow := [⟨[sy 5, u8 47], nat 7⟩, ⟨[sy 6, u8 47], nat 7⟩, ⟨[sy 9, u8 47], nat 2⟩]
noncomputable def rows176 : List SRow := [⟨[sy 5, u8 47], nat 2⟩, ⟨[sy 6, u8 47], nat 1⟩]
abbrev badF : Value := .func (.func 112) ⟨[]⟩ ⟨[]⟩
noncomputable def rows113 : List SRow := [⟨[sy 10, badF], .int .i64 (-1)⟩, ⟨[sy 11, badF], .int .i64 (-1)⟩, ⟨[str objL, badF], .int .i64 (-1)⟩, ⟨[str [105, 110, 99, 111, 109, 105, 110, 103], badF], .int .i64 (-1)⟩]
noncomputable def specsPa : List (FuncId × Spec) := [(152, sOr (rowsT rows152) sIndexByte), (176, sOr (rowsT rows176) sCount), (113, rowsT rows113)]
noncomputable abbrev runPa : Go.Ev.Call := evF (envOfS tabP.syms specsPa) 100000 200
set_option maxRecDepth 1000000 in
theorem path5 : sameRes (runPa 69 [sy 5] Heap.empty) (.bool true) = true := by kernel_rfl
set_option maxRecDepth 1000000 in
theorem path6 : sameRes (runPa 69 [sy 6] Heap.empty) (.bool true) = true := by kernel_rfl
set_option maxRecDepth 1000000 in
theorem pathO : sameRes (runPa 69 [str objL] Heap.empty) (.bool true) = true := by kernel_rfl
set_option maxRecDepth 1000000 in
theorem pathI : sameRes (runPa 69 [str incL] Heap.empty) (.bool true) = true := by kernel_rfl
section
variable {s : ByteArray} {room : Int} {t id : List UInt8} {pr : PrE}
theorem h0_dig : ∀ c ∈ h0L id, Dig c.toNat := hexL_dig _
theorem h1_dig : ∀ c ∈ h1L id, Dig c.toNat := hexL_dig _
theorem h0_47 : ∀ c ∈ h0L id, c ≠ 47 := dig_ne h0_dig (by decide)
theorem h1_47 : ∀ c ∈ h1L id, c ≠ 47 := dig_ne h1_dig (by decide)
theorem path_split : pathL id = objL ++ 47 :: (h0L id ++ [47] ++ h1L id) := rfl
theorem fol_split : folL id = objL ++ 47 :: h0L id := rfl
theorem r1_split : h0L id ++ [47] ++ h1L id = h0L id ++ 47 :: h1L id := by simp
theorem obj_47 : ∀ c ∈ objL, c ≠ 47 := by decide
theorem eql_noL {a b : List UInt8} {n : Nat} (h : a.length = n) (hb : b.length ≠ n) : scalarOp .eql (str a) (str b) = some (.bool false) := eql_no (by rw [h]; exact fun e => hb e.symm)
theorem eql_noR {a b : List UInt8} {n : Nat} (h : b.length = n) (hb : a.length ≠ n) : scalarOp .eql (str a) (str b) = some (.bool false) := eql_no (by rw [h]; exact hb)
theorem r1_len (h : id.length = 32) : (h0L id ++ [47] ++ h1L id).length = 65 := by rw [List.length_append, List.length_append, h0L_len h, h1L_len h]; rfl
theorem dd_no (_h : id.length = 32) : same (h0L id) [46, 46] = false := by
  rw [same_eq]
  cases hb : (h0L id == [46, 46]) with
  | false => rfl
  | true =>
    rw [beq_iff_eq] at hb
    have := h0_dig (id := id) 46 (by rw [hb]; simp)
    unfold Dig at this
    revert this; decide
theorem tabP_ok (h : id.length = 32) : @TabsOk (looSg s room t id pr) tabP :=
  letI := looSg s room t id pr
  { bins := fun e he => by
      simp only [tabP, List.mem_cons, List.not_mem_nil, or_false] at he
      rcases he with rfl | rfl | rfl | rfl | rfl | rfl | rfl | rfl | rfl | rfl | rfl
      . exact ⟨rfl, rfl, rfl, eql_noL (a := pathL id) (b := []) (pathL_len h) (by decide)⟩
      . exact ⟨rfl, rfl, rfl, eql_noL (a := folL id) (b := []) (folL_len h) (by decide)⟩
      . exact ⟨rfl, rfl, rfl, eql_noR (b := pathL id) (a := [47]) (pathL_len h) (by decide)⟩
      . exact ⟨rfl, rfl, rfl, eql_noR (b := folL id) (a := [47]) (folL_len h) (by decide)⟩
      . exact ⟨rfl, rfl, rfl, eql_noR (b := h0L id ++ [47] ++ h1L id) (a := [47]) (r1_len h) (by decide)⟩
      . exact ⟨rfl, rfl, rfl, eql_noL (a := h0L id) (b := []) (h0L_len h) (by decide)⟩
      . exact ⟨rfl, rfl, rfl, eql_noL (a := h0L id) (b := [46]) (h0L_len h) (by decide)⟩
      . refine ⟨rfl, rfl, rfl, ?_⟩
        show mkBool (same (h0L id) [46, 46]) = _
        rw [dd_no h]; rfl
      . exact ⟨rfl, rfl, rfl, eql_noL (a := h1L id) (b := []) (h1L_len h) (by decide)⟩
      . exact ⟨rfl, rfl, rfl, eql_noL (a := h1L id) (b := [46]) (h1L_len h) (by decide)⟩
      . exact ⟨rfl, rfl, rfl, eql_noL (a := h1L id) (b := [46, 46]) (h1L_len h) (by decide)⟩
    convs := fun _ he => by cases he
    bytes := fun _ he => by cases he
    slices := fun e he => by
      simp only [tabP, List.mem_cons, List.not_mem_nil, or_false] at he
      rcases he with rfl | rfl | rfl | rfl | rfl | rfl
      . exact ⟨rfl, fun _ h => (by cases h), fun _ h => (by cases h; rfl), rfl, cutHi (l := pathL id) (n := 7) (by rw [pathL_len h]; decide)⟩
      . exact ⟨rfl, fun _ h => (by cases h; rfl), fun _ h => (by cases h), rfl, cutLo (l := pathL id) (n := 8) (by rw [pathL_len h]; decide)⟩
      . exact ⟨rfl, fun _ h => (by cases h), fun _ h => (by cases h; rfl), rfl, cutHi (l := folL id) (n := 7) (by rw [folL_len h]; decide)⟩
      . exact ⟨rfl, fun _ h => (by cases h; rfl), fun _ h => (by cases h), rfl, cutLo (l := folL id) (n := 8) (by rw [folL_len h]; decide)⟩
      . refine ⟨rfl, fun _ h => (by cases h), fun _ h => (by cases h; rfl), rfl, ?_⟩
        have e := cutHi (l := h0L id ++ [47] ++ h1L id) (n := 2) (by rw [r1_len h]; decide)
        rw [r1_split, List.take_left' (h0L_len h)] at e
        rw [<- r1_split] at e
        exact e
      . refine ⟨rfl, fun _ h => (by cases h; rfl), fun _ h => (by cases h), rfl, ?_⟩
        have e := cutLo (l := h0L id ++ [47] ++ h1L id) (n := 3) (by rw [r1_len h]; decide)
        rw [List.drop_left' (by rw [List.length_append, h0L_len h]; rfl)] at e
        exact e
    lens := fun e he => by
      simp only [tabP, List.mem_cons, List.not_mem_nil, or_false] at he
      rcases he with rfl | rfl | rfl | rfl | rfl
      . exact ⟨rfl, ⟨⟨pathL id⟩⟩, rfl, by show nat 73 = .int .i64 ((pathL id).length : Nat); rw [pathL_len h]; rfl⟩
      . exact ⟨rfl, ⟨⟨folL id⟩⟩, rfl, by show nat 10 = .int .i64 ((folL id).length : Nat); rw [folL_len h]; rfl⟩
      . exact ⟨rfl, ⟨⟨h0L id ++ [47] ++ h1L id⟩⟩, rfl, by show nat 65 = .int .i64 ((h0L id ++ [47] ++ h1L id).length : Nat); rw [r1_len h]; rfl⟩
      . exact ⟨rfl, ⟨⟨h0L id⟩⟩, rfl, by show nat 2 = .int .i64 ((h0L id).length : Nat); rw [h0L_len h]; rfl⟩
      . exact ⟨rfl, ⟨⟨h1L id⟩⟩, rfl, by show nat 62 = .int .i64 ((h1L id).length : Nat); rw [h1L_len h]; rfl⟩
    idx := fun _ he => by cases he
    keys := fun _ he => by cases he }
theorem rows152_ok (h : id.length = 32) : letI := looSg s room t id pr; ∀ e ∈ rows152, RowX Tryz.prog Extern.BytealgIndexByte.indexByte e := by
  letI := looSg s room t id pr
  intro e he
  simp only [rows152, List.mem_cons, List.not_mem_nil, or_false] at he
  rcases he with rfl | rfl | rfl
  . exact rowI (l := pathL id) (n := 7) rfl rfl rfl rfl (by rw [path_split]; exact idx_at obj_47)
  . exact rowI (l := folL id) (n := 7) rfl rfl rfl rfl (by rw [fol_split]; exact idx_at obj_47)
  . exact rowI (l := h0L id ++ [47] ++ h1L id) (n := 2) rfl rfl rfl rfl (by rw [r1_split]; exact (idx_at h0_47).trans (by rw [h0L_len h]))
theorem rows176_ok : letI := looSg s room t id pr; ∀ e ∈ rows176, RowX Tryz.prog Extern.BytealgCount.count e := by
  letI := looSg s room t id pr
  intro e he
  have c0 : (h0L id).count 47 = 0 := count_no h0_47
  have c1 : (h1L id).count 47 = 0 := count_no h1_47
  have co : homeL.count 47 = 1 := by decide
  simp only [rows176, List.mem_cons, List.not_mem_nil, or_false] at he
  rcases he with rfl | rfl
  . exact rowC (l := pathL id) (n := 2) rfl rfl rfl rfl (by show (pathL id).count 47 = 2; unfold pathL folL; rw [List.count_append, List.count_append, List.count_append, c0, c1, co]; rfl)
  . exact rowC (l := folL id) (n := 1) rfl rfl rfl rfl (by show (folL id).count 47 = 1; unfold folL; rw [List.count_append, c0, co])
theorem rowF {x : Value} {l : List UInt8} [Sg] (ha : atomC x = true) (hx : den x = str l) (hd : ∀ c ∈ l, Dig c.toNat) : RowOk Tryz.prog 113 ⟨[x, badF], .int .i64 (-1)⟩ :=
  ⟨by show ifB (atomC x) (ifB true true false) false = true; rw [ha]; rfl, rfl, fun w => by
    have e := indexFunc_calls ⟨⟨l⟩⟩ (digs_at hd) w
    show Calls Tryz.prog 113 ⟨[den x, badF]⟩ w _
    rw [hx]
    exact e⟩
theorem rows113_ok : letI := looSg s room t id pr; ∀ e ∈ rows113, RowOk Tryz.prog 113 e := by
  letI := looSg s room t id pr
  intro e he
  simp only [rows113, List.mem_cons, List.not_mem_nil, or_false] at he
  rcases he with rfl | rfl | rfl | rfl
  . exact rowF (l := h0L id) rfl rfl h0_dig
  . exact rowF (l := h1L id) rfl rfl h1_dig
  . exact rowF (l := objL) rfl rfl (by unfold Dig; decide)
  . exact rowF (l := [105, 110, 99, 111, 109, 105, 110, 103]) rfl rfl (by unfold Dig; decide)
theorem specsPa_ok (h : id.length = 32) : letI := looSg s room t id pr; ∀ e ∈ specsPa, SpecOk Tryz.prog e.1 e.2 := by
  letI := looSg s room t id pr
  intro e he
  simp only [specsPa, List.mem_cons, List.not_mem_nil, or_false] at he
  rcases he with rfl | rfl | rfl
  . exact (rowsX_ok ext152 (rows152_ok h)).or (indexByte_ok ext152)
  . exact (rowsX_ok ext176 rows176_ok).or (count_ok ext176)
  . exact rows_ok (enters_of Tryz.func113 (by kernel_rfl) rfl) rows113_ok
end
theorem path_any {x : Value} (h : sameRes (runPa 69 [x] Heap.empty) (.bool true) = true) (ha : atom x = true) {id : List UInt8} (hid : id.length = 32) (w : World) :
    Calls Tryz.prog 69 ⟨[@den (looSg .empty 0 [] id (prN [])) x]⟩ w fun e w' => e = .returned (.bool true) /\ Below w.heap.size w w' := by
  letI := looSg .empty 0 [] id (prN [])
  obtain ⟨H, hrun⟩ := sameRes_ok h
  refine (calls_closed (envS_ok (tabs_ok (tabP_ok hid))) mixed (funsSOk rfl) (specs_of rfl (specsPa_ok hid)) 100000 200 hrun (.cons (den_V ha) .nil) w (by rw [Tryz.func69]; rfl)).mono ?_
  rintro e w' ⟨u, rfl, ⟨ρ, hV⟩, hb⟩
  cases hV
  exact ⟨rfl, hb⟩
theorem path_path {id : List UInt8} (hid : id.length = 32) (w : World) : Calls Tryz.prog 69 ⟨[str (pathL id)]⟩ w fun e w' => e = .returned (.bool true) /\ Below w.heap.size w w' := path_any path5 rfl hid w
theorem path_fol {id : List UInt8} (hid : id.length = 32) (w : World) : Calls Tryz.prog 69 ⟨[str (folL id)]⟩ w fun e w' => e = .returned (.bool true) /\ Below w.heap.size w w' := path_any path6 rfl hid w
theorem path_obj (w : World) : Calls Tryz.prog 69 ⟨[str objL]⟩ w fun e w' => e = .returned (.bool true) /\ Below w.heap.size w w' := path_any pathO rfl (id := List.replicate 32 0) (by simp) w
theorem path_inc (w : World) : Calls Tryz.prog 69 ⟨[str incL]⟩ w fun e w' => e = .returned (.bool true) /\ Below w.heap.size w w' := path_any pathI rfl (id := List.replicate 32 0) (by simp) w
end Go.Proofs
