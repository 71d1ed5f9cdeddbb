/- LooseSpoilt, run: true, whatever the text and the other bytes are. -/
import Derived.Test.YthnojgpobfpgeaaGreatDoorTLooN
import Derived.Test.YthnojgpobfpgeaaGreatDoorTSprE
import Derived.Test.YthnojgpobfpgeaaGreatDoorTRSpE
import Derived.Test.YthnojgpobfpgeaaGreatDoorEvTab
/-! LooseSpoilt, run: true, whatever the text and the other bytes are. -/
namespace Go.Proofs
open Go.Ev Go.RowKit
theorem wInt_neg {m : Nat} (h : m ≤ 1000000) : wInt .i64 (.negSucc m) = some (.int .i64 (.negSucc m)) := by
  have hu : uns .i64 (.negSucc m) = 18446744073709551615 - m := by
    show Nat.sub (Nat.sub 18446744073709551616 1) (Nat.mod m 18446744073709551616) = _
    rw [show Nat.mod m 18446744073709551616 = m from Nat.mod_eq_of_lt (by omega)]
    rfl
  have hb : Nat.ble 9223372036854775808 (18446744073709551615 - m) = true := by rw [Nat.ble_eq]; omega
  have ho : ofUns .i64 (18446744073709551615 - m) = .negSucc m := by
    show ifB true (ifB (Nat.ble 9223372036854775808 (18446744073709551615 - m)) (Int.negSucc (Nat.sub (Nat.sub 18446744073709551616 1) (18446744073709551615 - m))) _) _ = _
    rw [hb]
    show Int.negSucc (18446744073709551615 - (18446744073709551615 - m)) = _
    congr 1
    omega
  unfold wInt wrapF
  rw [hu, ho, mkInt_eq]
theorem wInt_int {n : Int} (h1 : -1000000 ≤ n) (h2 : n ≤ 1000000) : wInt .i64 n = some (.int .i64 n) := by
  cases n with
  | ofNat k => exact wInt_nat (by have : (k : Int) ≤ 1000000 := h2; omega)
  | negSucc k => exact wInt_neg (by have := h1; omega)
theorem sub_nats {a b : Nat} (h1 : a ≤ 100000) (h2 : b ≤ 100000) : scalarOp .sub (nat a) (nat b) = some (.int .i64 ((a : Int) - (b : Int))) := by
  show wInt .i64 ((a : Int) - (b : Int)) = _
  exact wInt_int (by omega) (by omega)
theorem sub_natN {a b : Nat} (h1 : b ≤ a) (h2 : a ≤ 1048576) : scalarOp .sub (nat a) (nat b) = some (nat (a - b)) := by
  show wInt .i64 ((a : Int) - (b : Int)) = some (.int .i64 ((a - b : Nat) : Int))
  rw [show (a : Int) - (b : Int) = ((a - b : Nat) : Int) by omega]
  have hu : uns .i64 (((a - b : Nat) : Int)) = a - b := Nat.mod_eq_of_lt (by show a - b < 18446744073709551616; omega)
  have hb : Nat.ble 9223372036854775808 (a - b) = false := by
    cases hb : Nat.ble 9223372036854775808 (a - b) with
    | false => rfl
    | true => have := Nat.le_of_ble_eq_true hb; omega
  have ho : ofUns .i64 (a - b) = ((a - b : Nat) : Int) := by
    show ifB true (ifB (Nat.ble 9223372036854775808 (a - b)) _ _) _ = _
    rw [hb]; rfl
  unfold wInt wrapF
  rw [hu, ho, mkInt_eq]
theorem ints_neq {a : Int} (h : a ≠ 0) : scalarOp .neq (.int .i64 a) (nat 0) = some (.bool true) := by
  show mkBool (!(eqI a 0)) = _
  rw [mkBool_eq, eqI_eq]
  have : (a == 0) = false := by
    cases hb : (a == 0) with
    | false => rfl
    | true => rw [beq_iff_eq] at hb; exact absurd hb h
  rw [this]; rfl

theorem used33T [Go.Ev.Sg] {tab : List (Value × Nat)} (ht : Go.Ev.SzOk tab) {lt : List (Value × Value)} (hlt : Go.Ev.LtOk lt) : Go.Ev.SpecOk Tryz.prog 33 (Go.Ev.sUsedT tab lt) :=
  Go.Ev.usedT_ok enters33 ht hlt fun bm es clock fb fo nb no n c g w hb hst h0 h3 hv hs =>
    Calls.mono (used_walk bm es clock fb fo nb no n c g w hb hst h0 h3 hv hs) fun e w' ⟨he, hw⟩ => ⟨fun s hs1 hs2 => by
      have e1 : ((lens g es.toList).map fun e => valOf e.val).sum = (s : Int) := by
        rw [← hs2]
        simp only [lens, List.map_map]
        congr 1
      rw [he, e1, wr64_small hs1], hw⟩

noncomputable def oS (long : Bool) : Value := Bool.rec (motive := fun _ => Value) (sy 24) (sy 26) long
noncomputable def lenO (long : Bool) : Value := Bool.rec (motive := fun _ => Value) (sy 27) (sy 25) long
noncomputable def cutO (long : Bool) : List SSlice := Bool.rec (motive := fun _ => List SSlice) [] [⟨sy 24, none, some (nat 300), sy 26⟩] long
noncomputable def tabS (long pos eq te : Bool) : Tabs :=
  { bins := [⟨.eql, sy 5, str [], .bool false⟩, ⟨.eql, sy 6, str [], .bool false⟩, ⟨.neq, sy 5, str [], .bool true⟩, ⟨.neq, sy 6, str [], .bool true⟩, ⟨.eql, str incL, sy 5, .bool false⟩, ⟨.eql, str objL, sy 6, .bool false⟩, ⟨.eql, sy 6, sy 6, .bool true⟩, ⟨.add, str homeL, sy 10, sy 6⟩, ⟨.add, sy 6, str [47], sy 14⟩, ⟨.add, sy 14, sy 11, sy 5⟩, ⟨.sub, sy 8, nat 0, sy 8⟩, ⟨.gtr, sy 8, nat 0, .bool true⟩, ⟨.gtr, sy 8, nat 1048576, .bool false⟩, ⟨.sub, sy 27, sy 8, sy 28⟩, ⟨.gtr, sy 28, nat 0, .bool pos⟩, ⟨.sub, nat 1048576, sy 8, sy 30⟩, ⟨.gtr, sy 28, sy 30, .bool false⟩, ⟨.sub, nat 1048576, sy 27, sy 29⟩, ⟨.gtr, sy 8, sy 29, .bool false⟩, ⟨.eql, sy 4, sy 4, .bool true⟩, ⟨.neq, sy 4, sy 4, .bool false⟩, ⟨.eql, sy 3, sy 3, .bool true⟩, ⟨.neq, sy 32, nat 0, .bool true⟩, ⟨.eql, sy 32, nat 0, .bool false⟩, ⟨.neq, sy 34, sy 4, .bool (!eq)⟩, ⟨.eql, sy 34, sy 4, .bool eq⟩, ⟨.eql, sy 31, sy 3, .bool te⟩, ⟨.gtr, lenO long, nat 300, .bool long⟩]
    lens := [⟨4, nat 32⟩, ⟨5, nat 73⟩, ⟨6, nat 10⟩, ⟨7, sy 8⟩, ⟨24, lenO long⟩, ⟨26, sy 27⟩]
    slices := ⟨sy 4, none, some (nat 1), sy 12⟩ :: ⟨sy 4, some (nat 1), none, sy 13⟩ :: cutO long
    keys := keysU }
noncomputable def ltS (long : Bool) : List (Value × Value) := [(sy 7, sy 8), (oS long, sy 27)]
noncomputable def spoV (okk : Bool) : Value := Bool.rec (motive := fun _ => Value) (.tuple ⟨[str [], sy 32]⟩) (.tuple ⟨[sy 31, nat 0]⟩) okk
noncomputable def specsS (okk long : Bool) : List (FuncId × Spec) := (7, rowsT [⟨[sy 0], sy 3⟩]) :: (10, rowsT [⟨[sy 3], sy 5⟩]) :: (26, rowsT [⟨[sy 3], .tuple ⟨[.slice none 0 0, nat 0]⟩⟩]) :: (28, rowsT [⟨[sy 3], .tuple ⟨[sy 7, nat 0]⟩⟩]) ::
  (27, rowsT [⟨[sy 3], sy 4⟩, ⟨[sy 31], sy 34⟩]) :: (14, rowsT [⟨[sy 3], sy 4⟩, ⟨[sy 31], sy 34⟩]) :: (38, rowsT [⟨[sy 7, nat 262208], .tuple ⟨[sy 3, nat 0]⟩⟩, ⟨[oS long, nat 262208], spoV okk⟩]) :: (13, rowsT [⟨[oS long, nat 262208], spoV okk⟩]) ::
  (11, rowsT [⟨[], .bool true⟩]) :: (33, sUsedT szU (ltS long)) :: specsB
noncomputable abbrev runSp (okk long pos eq te : Bool) : Go.Ev.Call := evF (envOfS (tabS long pos eq te).syms (specsS okk long)) 100000 200
noncomputable def runSB (okk long pos eq te : Bool) : Bool := sameRes (runSp okk long pos eq te 3 [sy 0, sy 24] Heap.empty) (.bool true)
set_option maxRecDepth 1000000
theorem runA1 : runSB false false false true true = true := by kernel_rfl
theorem runA2 : runSB false false true true true = true := by kernel_rfl
theorem runA3 : runSB false true false true true = true := by kernel_rfl
theorem runA4 : runSB false true true true true = true := by kernel_rfl
theorem runB1 : runSB true false false false false = true := by kernel_rfl
theorem runB2 : runSB true false true false false = true := by kernel_rfl
theorem runB3 : runSB true true false false false = true := by kernel_rfl
theorem runB4 : runSB true true true false false = true := by kernel_rfl
theorem runC1 : runSB true false false true true = true := by kernel_rfl
theorem runC2 : runSB true false true true true = true := by kernel_rfl
theorem runC3 : runSB true true false true true = true := by kernel_rfl
theorem runC4 : runSB true true true true true = true := by kernel_rfl
theorem runD1 : runSB true false false true false = true := by kernel_rfl
theorem runD2 : runSB true false true true false = true := by kernel_rfl
theorem runD3 : runSB true true false true false = true := by kernel_rfl
theorem runD4 : runSB true true true true false = true := by kernel_rfl
theorem runS_all (okk long pos eq te : Bool) (h : (okk = false ∧ eq = true ∧ te = true) ∨ (okk = true ∧ (te = true → eq = true))) : runSB okk long pos eq te = true := by
  rcases h with ⟨rfl, rfl, rfl⟩ | ⟨rfl, h⟩
  · cases long <;> cases pos
    · exact runA1
    · exact runA2
    · exact runA3
    · exact runA4
  · cases eq with
    | false =>
      obtain rfl : te = false := by cases te with
        | false => rfl
        | true => cases h rfl
      cases long <;> cases pos
      · exact runB1
      · exact runB2
      · exact runB3
      · exact runB4
    | true =>
      cases te <;> cases long <;> cases pos
      · exact runD1
      · exact runD2
      · exact runD3
      · exact runD4
      · exact runC1
      · exact runC2
      · exact runC3
      · exact runC4

theorem spreadR_len (n : Nat) : ∀ (f : Nat) (t out x : List UInt8), out.length ≤ n → spreadR n f t out = some x → x.length ≤ n
  | 0, _, _, _, _, h => by cases h
  | f + 1, t, out, x, ho, h => by
    unfold spreadR at h
    split at h
    · split at h
      · cases h; exact ho
      · cases h
    · split at h
      · cases h
      · rename_i c t1 h1
        have hc := takS_le h1
        split at h
        · cases h
        · have hl : (out ++ t1.take c).length ≤ n := by rw [List.length_append, List.length_take]; omega
          split at h
          · split at h
            · cases h; exact hl
            · cases h
          · split at h
            · cases h
            · split at h
              · cases h
              · split at h
                · rename_i hg
                  refine spreadR_len n f _ _ _ ?_ h
                  rw [repS_len]; omega
                · cases h
theorem spreadL_len {p x : List UInt8} {most : Nat} (h : spreadL p most = some x) : x.length ≤ 1048576 := by
  unfold spreadL at h
  split at h
  · cases h
  · rename_i n t h1
    have := takS_le h1
    split at h
    · cases h
    · exact Nat.le_trans (spreadR_len n _ _ _ _ (Nat.zero_le _) h) this

section
variable {s other : ByteArray} {t id ot pr x : List UInt8} {c : Int} {long pos eq te okk : Bool}
noncomputable abbrev spSg (s other : ByteArray) (t id ot pr x : List UInt8) (c : Int) : Sg := looSg s 0 t id (spP other id ot pr x c)
theorem tabS_ok (h : id.length = 32) (hp0 : 0 < pr.length) (hp1 : pr.length ≤ 100000) (hot : ot = other.data.toList.take 300) (hlong : decide (300 < other.size) = long) (hpos : decide (pr.length < ot.length) = pos) (hc0 : c ≠ 0)
    (heq : same (shaF x) id = eq) (hte : same x (blobL t) = te) : @TabsOk (spSg s other t id ot pr x c) (tabS long pos eq te) :=
  letI := spSg s other t id ot pr x c
  have hol : ot.length ≤ 300 := by rw [hot, List.length_take]; omega
  have hos : other.data.toList.length = other.size := by simp
  { bins := fun e he => by
      simp only [tabS, List.mem_cons, List.not_mem_nil, or_false] at he
      rcases he with rfl | rfl | rfl | rfl | rfl | rfl | rfl | rfl | rfl | rfl | rfl | rfl | rfl | rfl | rfl | rfl | rfl | rfl | rfl | rfl | rfl | rfl | rfl | rfl | rfl | rfl | rfl | rfl
      · exact ⟨rfl, rfl, rfl, eql_noL (a := pathL id) (b := []) (pathL_len h) (by decide)⟩
      · exact ⟨rfl, rfl, rfl, eql_noL (a := folL id) (b := []) (folL_len h) (by decide)⟩
      · exact ⟨rfl, rfl, rfl, neq_yes (a := pathL id) (b := []) (by rw [pathL_len h]; decide)⟩
      · exact ⟨rfl, rfl, rfl, neq_yes (a := folL id) (b := []) (by rw [folL_len h]; decide)⟩
      · exact ⟨rfl, rfl, rfl, eql_noR (b := pathL id) (a := incL) (pathL_len h) (by decide)⟩
      · exact ⟨rfl, rfl, rfl, eql_noR (b := folL id) (a := objL) (folL_len h) (by decide)⟩
      · exact ⟨rfl, rfl, rfl, eql_yes (folL id)⟩
      · exact ⟨rfl, rfl, rfl, add_str (x := homeL) (y := h0L id) (by rw [h0L_len h]; decide)⟩
      · exact ⟨rfl, rfl, rfl, add_str (x := folL id) (y := [47]) (by rw [folL_len h]; decide)⟩
      · exact ⟨rfl, rfl, rfl, add_str (x := folL id ++ [47]) (y := h1L id) (by rw [List.length_append, folL_len h, h1L_len h]; decide)⟩
      · exact ⟨rfl, rfl, rfl, sub_nat0 hp1⟩
      · exact ⟨rfl, rfl, rfl, ints_gtr (a := (pr.length : Int)) (b := 0) true (decide_eq_true (by omega))⟩
      · exact ⟨rfl, rfl, rfl, ints_gtr (a := (pr.length : Int)) (b := ((1048576 : Nat) : Int)) false (decide_eq_false (by omega))⟩
      · exact ⟨rfl, rfl, rfl, sub_nats (a := ot.length) (b := pr.length) (by omega) (by omega)⟩
      · exact ⟨rfl, rfl, rfl, ints_gtr (a := (ot.length : Int) - (pr.length : Int)) (b := 0) pos (by rw [← hpos]; congr 1; rw [eq_iff_iff]; omega)⟩
      · exact ⟨rfl, rfl, rfl, sub_natN (a := 1048576) (b := pr.length) (by omega) (by omega)⟩
      · exact ⟨rfl, rfl, rfl, ints_gtr (a := (ot.length : Int) - (pr.length : Int)) (b := ((1048576 - pr.length : Nat) : Int)) false (decide_eq_false (by omega))⟩
      · exact ⟨rfl, rfl, rfl, sub_natN (a := 1048576) (b := ot.length) (by omega) (by omega)⟩
      · exact ⟨rfl, rfl, rfl, ints_gtr (a := (pr.length : Int)) (b := ((1048576 - ot.length : Nat) : Int)) false (decide_eq_false (by omega))⟩
      · exact ⟨rfl, rfl, rfl, eql_yes id⟩
      · exact ⟨rfl, rfl, rfl, neq_no id⟩
      · exact ⟨rfl, rfl, rfl, eql_yes (blobL t)⟩
      · exact ⟨rfl, rfl, rfl, ints_neq hc0⟩
      · exact ⟨rfl, rfl, rfl, ints_eql (a := c) (b := 0) false (decide_eq_false hc0)⟩
      · exact ⟨rfl, rfl, rfl, by
        show mkBool (!(same (shaF x) id)) = _
        rw [heq, mkBool_eq]; rfl⟩
      · exact ⟨rfl, rfl, rfl, by
        show mkBool (same (shaF x) id) = _
        rw [heq, mkBool_eq]; rfl⟩
      · exact ⟨rfl, rfl, rfl, by
        show mkBool (same x (blobL t)) = _
        rw [hte, mkBool_eq]; rfl⟩
      · refine ⟨by cases long <;> rfl, rfl, rfl, ?_⟩
        cases long with
        | true => exact ints_gtr (a := (other.size : Int)) (b := ((300 : Nat) : Int)) true (decide_eq_true (by have := of_decide_eq_true hlong; omega))
        | false => exact ints_gtr (a := (ot.length : Int)) (b := ((300 : Nat) : Int)) false (decide_eq_false (by omega))
    convs := fun _ he => by cases he
    bytes := fun _ he => by cases he
    slices := fun e he => by
      have he' : e ∈ (⟨sy 4, none, some (nat 1), sy 12⟩ : SSlice) :: ⟨sy 4, some (nat 1), none, sy 13⟩ :: cutO long := he
      rcases List.mem_cons.1 he' with rfl | he'
      · exact ⟨rfl, fun _ h => (by cases h), fun _ h => (by cases h; rfl), rfl, cutHi (l := id) (n := 1) (by omega)⟩
      rcases List.mem_cons.1 he' with rfl | he'
      · exact ⟨rfl, fun _ h => (by cases h; rfl), fun _ h => (by cases h), rfl, cutLo (l := id) (n := 1) (by omega)⟩
      cases long with
      | false => cases he'
      | true =>
        rcases List.mem_cons.1 he' with rfl | he'
        · refine ⟨rfl, fun _ h => (by cases h), fun _ h => (by cases h; rfl), rfl, ?_⟩
          have e := cutHi (l := other.data.toList) (n := 300) (by have := of_decide_eq_true hlong; omega)
          rw [← hot] at e
          exact e
        · cases he'
    lens := fun e he => by
      simp only [tabS, List.mem_cons, List.not_mem_nil, or_false] at he
      rcases he with rfl | rfl | rfl | rfl | rfl | rfl
      · exact ⟨rfl, ⟨⟨id⟩⟩, rfl, by show nat 32 = .int .i64 (id.length : Nat); rw [h]; rfl⟩
      · exact ⟨rfl, ⟨⟨pathL id⟩⟩, rfl, by show nat 73 = .int .i64 ((pathL id).length : Nat); rw [pathL_len h]; rfl⟩
      · exact ⟨rfl, ⟨⟨folL id⟩⟩, rfl, by show nat 10 = .int .i64 ((folL id).length : Nat); rw [folL_len h]; rfl⟩
      · exact ⟨rfl, ⟨⟨pr⟩⟩, rfl, rfl⟩
      · refine ⟨by cases long <;> rfl, other, rfl, ?_⟩
        cases long with
        | true => rfl
        | false =>
          have := of_decide_eq_false hlong
          show nat ot.length = .int .i64 (other.size : Nat)
          rw [hot, List.length_take, show min 300 other.data.toList.length = other.size by omega]
          rfl
      · exact ⟨rfl, ⟨⟨ot⟩⟩, rfl, rfl⟩
    idx := fun _ he => by cases he
    keys := keysU_ok h }
theorem oS_den (hot : ot = other.data.toList.take 300) (hlong : decide (300 < other.size) = long) : @den (spSg s other t id ot pr x c) (oS long) = str ot := by
  cases long with
  | true => rfl
  | false =>
    have h1 := of_decide_eq_false hlong
    have hos : other.data.toList.length = other.size := by simp
    have : ot = other.data.toList := by rw [hot, List.take_of_length_le (by omega)]
    show Value.string other = str ot
    rw [this]; rfl
theorem ltS_ok (hp1 : pr.length ≤ 100000) (hot : ot = other.data.toList.take 300) (hlong : decide (300 < other.size) = long) : @LtOk (spSg s other t id ot pr x c) (ltS long) := by
  letI := spSg s other t id ot pr x c
  intro e he
  have hol : ot.length ≤ 300 := by rw [hot, List.length_take]; omega
  simp only [ltS, List.mem_cons, List.not_mem_nil, or_false] at he
  rcases he with rfl | rfl
  · exact ⟨rfl, rfl, ⟨⟨pr⟩⟩, rfl, rfl, Nat.le_trans hp1 (by decide)⟩
  · exact ⟨by cases long <;> rfl, rfl, ⟨⟨ot⟩⟩, oS_den hot hlong, rfl, Nat.le_trans hol (by decide)⟩
theorem row_two {P : Program} [Sg] {f : FuncId} (he : Enters P f) {r q : SRow} (h : RowOk P f r) (k : RowOk P f q) : SpecOk P f (rowsT [r, q]) := rows_ok he fun e he => by
  rcases List.mem_cons.1 he with rfl | he
  · exact h
  · rcases List.mem_cons.1 he with rfl | he
    · exact k
    · cases he
theorem spr_row {f : FuncId} [Sg] {i v : Value} {l : List UInt8} {v' : Value} (ha : atomC i = true) (hv : atomT v = true) (hi : den i = str l) (hd : denT v = v')
    (hc : ∀ w, Calls Tryz.prog f #[.string ⟨⟨l⟩⟩, .int .i64 ((262208 : Nat) : Int)] w fun r w' => SprP l 262208 r ∧ Below w.heap.size w w') (hr : ∀ r, SprP l 262208 r → r = .returned v') : RowOk Tryz.prog f ⟨[i, nat 262208], v⟩ :=
  ⟨by show ifB (atomC i) (ifB true true false) false = true; rw [ha]; rfl, hv, fun w => by
    show Calls Tryz.prog f ⟨[den i, nat 262208]⟩ w fun r w' => r = .returned (denT v) ∧ Below w.heap.size w w'
    rw [hi, hd]
    exact (hc w).mono fun r w' ⟨h1, h2⟩ => ⟨hr r h1, h2⟩⟩
theorem specsS_ok (ht : t = tOf s) (hid : id = shaF (blobL t)) (hpr : pr = pressL (blobL t)) (hot : ot = other.data.toList.take 300) (hlong : decide (300 < other.size) = long) (hx : x.length ≤ 1048576)
    (hsp : (okk = true ∧ spreadL ot 262208 = some x) ∨ (okk = false ∧ spreadL ot 262208 = none ∧ c = sprE ot 262208)) : letI := spSg s other t id ot pr x c; ∀ e ∈ specsS okk long, SpecOk Tryz.prog e.1 e.2 := by
  letI := spSg s other t id ot pr x c
  subst ht
  have hrs : (⟨⟨blobL (tOf s)⟩⟩ : ByteArray).size ≤ 210 := raw_size
  have hol : ot.length ≤ 300 := by rw [hot, List.length_take]; omega
  have hp1 : pr.length ≤ 100000 := hpr ▸ (press_len (Nat.le_trans (blobL_len _ tOf_len) (by decide))).2
  have hspo : ∀ r, SprP ot 262208 r → r = .returned (denT (spoV okk)) := by
    intro r hr
    unfold SprP at hr
    rcases hsp with ⟨rfl, h1⟩ | ⟨rfl, h1, h2⟩
    · rw [h1] at hr; exact hr
    · rw [h1, ← h2] at hr; exact hr
  have hspA : atomT (spoV okk) = true := by cases okk <;> rfl
  intro e he
  rcases List.mem_cons.1 he with rfl | he
  · exact row_one (enters_of Tryz.func7 (by kernel_rfl) rfl) ⟨rfl, rfl, fun w => blob_calls s w⟩
  rcases List.mem_cons.1 he with rfl | he
  · exact row_one (enters_of Tryz.func10 (by kernel_rfl) rfl) ⟨rfl, rfl, fun w => by subst hid; exact file_calls tOf_len w⟩
  rcases List.mem_cons.1 he with rfl | he
  · exact row_one (enters_of Tryz.func26 (by kernel_rfl) rfl) ⟨rfl, rfl, fun w => links_calls tOf_len w⟩
  rcases List.mem_cons.1 he with rfl | he
  · exact row_one (enters_of Tryz.func28 (by kernel_rfl) rfl) ⟨rfl, rfl, fun w => by subst hpr; exact press_calls (s := ⟨⟨blobL (tOf s)⟩⟩) (Nat.le_trans hrs (by decide)) w⟩
  rcases List.mem_cons.1 he with rfl | he
  · exact row_two (enters_of Tryz.func27 (by kernel_rfl) rfl) ⟨rfl, rfl, fun w => by subst hid; exact oid_calls ⟨⟨blobL (tOf s)⟩⟩ (Nat.le_trans hrs (by decide)) w⟩ ⟨rfl, rfl, fun w => oid_calls ⟨⟨x⟩⟩ (Nat.le_trans (show (⟨⟨x⟩⟩ : ByteArray).size ≤ 1048576 from hx) (by decide)) w⟩
  rcases List.mem_cons.1 he with rfl | he
  · exact row_two (enters_of Tryz.func14 (by kernel_rfl) rfl) ⟨rfl, rfl, fun w => by subst hid; exact rid_calls ⟨⟨blobL (tOf s)⟩⟩ (Nat.le_trans hrs (by decide)) w⟩ ⟨rfl, rfl, fun w => rid_calls ⟨⟨x⟩⟩ (Nat.le_trans (show (⟨⟨x⟩⟩ : ByteArray).size ≤ 1048576 from hx) (by decide)) w⟩
  rcases List.mem_cons.1 he with rfl | he
  · refine row_two (enters_of Tryz.func38 (by kernel_rfl) rfl) (spr_row (l := pr) (v' := .tuple ⟨[str (blobL (tOf s)), nat 0]⟩) rfl rfl rfl rfl (fun w => spread_calls (p := ⟨⟨pr⟩⟩) (Nat.le_trans (show (⟨⟨pr⟩⟩ : ByteArray).size ≤ 100000 from hp1) (by decide)) w) fun r hr => ?_) (spr_row (l := ot) (by cases long <;> rfl) hspA (oS_den hot hlong) rfl (fun w => spread_calls (p := ⟨⟨ot⟩⟩) (Nat.le_trans (show (⟨⟨ot⟩⟩ : ByteArray).size ≤ 300 from hol) (by decide)) w) hspo)
    unfold SprP at hr
    rw [hpr, spread_press (by have := blobL_len (tOf s) tOf_len; omega) (by have := blobL_len (tOf s) tOf_len; omega)] at hr
    exact hr
  rcases List.mem_cons.1 he with rfl | he
  · exact row_one (enters_of Tryz.func13 (by kernel_rfl) rfl) (spr_row (l := ot) (by cases long <;> rfl) hspA (oS_den hot hlong) rfl (fun w => rspread_calls (p := ⟨⟨ot⟩⟩) (Nat.le_trans (show (⟨⟨ot⟩⟩ : ByteArray).size ≤ 300 from hol) (by decide)) w) hspo)
  rcases List.mem_cons.1 he with rfl | he
  · exact row_one (enters_of Tryz.func11 (by kernel_rfl) rfl) ⟨rfl, rfl, fun w => awake_calls w⟩
  rcases List.mem_cons.1 he with rfl | he
  · exact used33T (szU_ok (hid ▸ shaF_len _)) (ltS_ok hp1 hot hlong)
  · exact specsB_ok (hid ▸ shaF_len _) e he
end

theorem spoilt_calls (s other : ByteArray) (w : World) : Calls Tryz.prog 3 #[.string s, .string other] w fun e w' => e = .returned (.bool true) ∧ Below w.heap.size w w' := by
  obtain ⟨t, ht⟩ : ∃ t, t = tOf s := ⟨_, rfl⟩
  obtain ⟨id, hid⟩ : ∃ id, id = shaF (blobL t) := ⟨_, rfl⟩
  obtain ⟨pr, hpr⟩ : ∃ pr, pr = pressL (blobL t) := ⟨_, rfl⟩
  obtain ⟨ot, hot⟩ : ∃ ot, ot = other.data.toList.take 300 := ⟨_, rfl⟩
  have htl : (blobL t).length ≤ 210 := blobL_len _ (ht ▸ tOf_len)
  have hp := press_len (l := blobL t) (Nat.le_trans htl (by decide))
  rw [← hpr] at hp
  have key : ∀ (okk : Bool) (x : List UInt8) (c : Int), x.length ≤ 1048576 → c ≠ 0 → ((okk = true ∧ spreadL ot 262208 = some x) ∨ (okk = false ∧ spreadL ot 262208 = none ∧ c = sprE ot 262208)) → (okk = false → x = blobL t) →
      Calls Tryz.prog 3 #[.string s, .string other] w fun e w' => e = .returned (.bool true) ∧ Below w.heap.size w w' := by
    intro okk x c hx hc hsp hxo
    letI := spSg s other t id ot pr x c
    have hcase : (okk = false ∧ same (shaF x) id = true ∧ same x (blobL t) = true) ∨ (okk = true ∧ (same x (blobL t) = true → same (shaF x) id = true)) := by
      cases okk with
      | false =>
        have := hxo rfl
        subst this
        exact .inl ⟨rfl, by rw [hid]; exact same_refl _, same_refl _⟩
      | true =>
        refine .inr ⟨rfl, fun h => ?_⟩
        rw [same_eq, beq_iff_eq] at h
        rw [h, hid]
        exact same_refl _
    obtain ⟨H, hrun⟩ := sameRes_ok (runS_all okk (decide (300 < other.size)) (decide (pr.length < ot.length)) (same (shaF x) id) (same x (blobL t)) hcase)
    refine (calls_closed (envS_ok (tabs_ok (tabS_ok (hid ▸ shaF_len _) hp.1 hp.2 hot rfl rfl hc rfl rfl))) mixed (funsSOk rfl) (specs_of rfl (specsS_ok ht hid hpr hot rfl hx hsp)) 100000 200 hrun (.cons (.sym 0) (.cons (.sym 24) .nil)) w (by rw [Tryz.func3]; rfl)).mono ?_
    rintro e w' ⟨u, rfl, ⟨ρ, hV⟩, hb⟩
    cases hV
    exact ⟨rfl, hb⟩
  cases hsp : spreadL ot 262208 with
  | none => exact key false (blobL t) (sprE ot 262208) (Nat.le_trans htl (by decide)) (sprE_ne _ _) (.inr ⟨rfl, hsp, rfl⟩) fun _ => rfl
  | some x => exact key true x 1 (spreadL_len hsp) (by decide) (.inl ⟨rfl, hsp⟩) fun h => by cases h
end Go.Proofs
