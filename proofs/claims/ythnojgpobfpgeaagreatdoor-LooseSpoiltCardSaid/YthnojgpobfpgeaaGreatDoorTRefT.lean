/- pollardref01.Sum, piece by piece: the runs. -/
import Derived.Test.YthnojgpobfpgeaaGreatDoorTStir
import Derived.Test.YthnojgpobfpgeaaGreatDoorEvPiece
import Derived.IntWalk
/-! pollardref01.Sum, piece by piece: the runs. -/
namespace Go.Proofs
open Go.Ev Go.RowKit

noncomputable def L8 : List Code := codes (Tryz.f40.body.getD .skip)
noncomputable def L8a : List Code := codes (loopB (itemN L8 3))
noncomputable def L8b : List Code := codes (loopB (itemN L8 9))
theorem ok8 : allCode 241 L8 = true := by kernel_rfl
theorem ok8a : allCode 241 L8a = true := by kernel_rfl
theorem ok8b : allCode 241 L8b = true := by kernel_rfl
theorem len8 : lenL L8 = 15 := by kernel_rfl
theorem id8a : loopId (itemN L8 3) = some 0 := by kernel_rfl
theorem id8b : loopId (itemN L8 9) = some 4 := by kernel_rfl

/-! ### Text, length -/
def tabA : Tabs := {
 lens := [⟨0, .float .f64 2⟩]
 convs := [⟨7, .float .f64 2, .float .f64 4⟩]
 bins := [⟨.mul, .float .f64 4, .int .u64 8, .float .f64 3⟩, ⟨.add, .float .f64 0, str [128], .float .f64 1⟩] }
def insA : List (Nat × Value) := [(0, .float .f64 0)]
def outsA : List (Nat × Value) := [(0, .float .f64 1), (3, .float .f64 3)]
theorem runA (j : Nat → Value) : chkR .normal outsA (evL (envOfS tabA.syms []) (evF (envOfS tabA.syms []) 1000 5) 1000 ((L8.drop 0).take 3) (tmOf j insA) Heap.empty) = true := by kernel_rfl

/-! ### Zeros -/
def tabB (c : Bool) : Tabs := {
 lens := [⟨0, .float .f64 2⟩]
 bins := [⟨.rem, .float .f64 2, .int .i64 64, .float .f64 3⟩, ⟨.neq, .float .f64 3, .int .i64 56, .bool c⟩, ⟨.add, .float .f64 0, str [0], .float .f64 1⟩] }
def insB : List (Nat × Value) := [(0, .float .f64 0), (3, .float .f64 4)]
def outsB : List (Nat × Value) := [(0, .float .f64 1), (3, .float .f64 4)]
theorem runB (j : Nat → Value) : chkR .normal outsB (evL (envOfS (tabB true).syms []) (evF (envOfS (tabB true).syms []) 1000 5) 1000 ((L8a.drop 0).take 3) (tmOf j insB) Heap.empty) = true := by kernel_rfl
theorem runB' (j : Nat → Value) : chkR (.exit 0) insB (evL (envOfS (tabB false).syms []) (evF (envOfS (tabB false).syms []) 1000 5) 1000 ((L8a.drop 0).take 3) (tmOf j insB) Heap.empty) = true := by kernel_rfl

/-! ### Eight bytes -/
def tabC : Tabs := {
 bins := ((List.range 8).map fun (i : Nat) => (⟨.shr, .float .f64 10, .int .u64 (Int.ofNat (56 - 8 * i)), .float .f64 (20 + i)⟩ : SBin)) ++ ((List.range 8).map fun (i : Nat) => (⟨.add, .float .f64 (50 + i), .float .f64 (40 + i), .float .f64 (51 + i)⟩ : SBin))
 convs := (List.range 8).map fun i => ⟨4, .float .f64 (20 + i), .float .f64 (30 + i)⟩
 bytes := (List.range 8).map fun i => ⟨[.float .f64 (30 + i)], .float .f64 (40 + i)⟩ }
def insC : List (Nat × Value) := [(0, .float .f64 50), (3, .float .f64 10)]
def outsC : List (Nat × Value) := [(0, .float .f64 58)]
theorem runC (j : Nat → Value) : chkR .normal outsC (evL (envOfS tabC.syms []) (evF (envOfS tabC.syms []) 1000 5) 1000 ((L8.drop 4).take 2) (tmOf j insC) Heap.empty) = true := by kernel_rfl

/-! ### Words, salts -/
def saltsL : List Nat := [1116352408, 1899447441, 3049323471, 3921009573, 961987163, 1508970993, 2453635748, 2870763221, 3624381080, 310598401, 607225278, 1426881987, 1925078388, 2162078206, 2614888103, 3248222580, 3835390401, 4022224774, 264347078, 604807628, 770255983, 1249150122, 1555081692, 1996064986, 2554220882, 2821834349, 2952996808, 3210313671, 3336571891, 3584528711, 113926993, 338241895, 666307205, 773529912, 1294757372, 1396182291, 1695183700, 1986661051, 2177026350, 2456956037, 2730485921, 2820302411, 3259730800, 3345764771, 3516065817, 3600352804, 4094571909, 275423344, 430227734, 506948616, 659060556, 883997877, 958139571, 1322822218, 1537002063, 1747873779, 1955562222, 2024104815, 2227730452, 2361852424, 2428436474, 2756734187, 3204031479, 3329325298]
def saltsV : List Value := saltsL.map fun (n : Nat) => Value.int .u32 (Int.ofNat n)
def firstV : List Value := (List.range 8).map fun (k : Nat) => Value.int .u32 (Int.ofNat (hw0 k))
def insD : List (Nat × Value) := [(0, .float .f64 0)]
def outsD (a b : Nat) : List (Nat × Value) := [(0, .float .f64 0), (5, .pointer (some ⟨a, 0, none⟩)), (6, .pointer (some ⟨b, 0, none⟩)), (7, .int .i64 0)]
def rowsD (a b : Nat) : List (Nat × Row) := [(a, (firstV, 122, .rw)), (b, (saltsV, 123, .rw))]
noncomputable def rawD (j : Nat → Value) : CRes := evL (envOfS ({} : Tabs).syms []) (evF (envOfS ({} : Tabs).syms []) 1000 5) 1000 ((L8.drop 6).take 3) (tmOf j insD) (heapRows [])
theorem runD (j : Nat → Value) : chkRH .normal (outsD 1 4) (rowsD 1 4) (rawD j) = true := by kernel_rfl

/-! ### A block -/
def refX (c : Bool) : Tabs := {
 lens := [⟨9000, .float .f64 9002⟩]
 bins := ⟨.lss, .float .f64 9001, .float .f64 9002, .bool c⟩ :: (List.range 65).map fun (i : Nat) => ⟨.add, .float .f64 9001, .int .i64 (Int.ofNat i), .float .f64 (9100 + i)⟩
 idx := if c then (List.range 64).map fun i => ⟨.float .f64 9000, .float .f64 (9100 + i), .float .f64 (8 + i)⟩ else [] }
def insE : List (Nat × Value) := [(0, .float .f64 9000), (5, .pointer (some ⟨0, 0, none⟩)), (6, .pointer (some ⟨1, 0, none⟩)), (7, .float .f64 9001)]
def outsE : List (Nat × Value) := [(0, .float .f64 9000), (5, .pointer (some ⟨0, 0, none⟩)), (6, .pointer (some ⟨1, 0, none⟩)), (7, .float .f64 9164)]
def rowsE : List Row := [(words8, 122, .rw), (saltsV, 123, .rw)]
def rowsE1 : List (Nat × Row) := [(0, (sums8, 122, .rw)), (1, (saltsV, 123, .rw))]
def rowsE0 : List (Nat × Row) := [(0, (words8, 122, .rw)), (1, (saltsV, 123, .rw))]
set_option maxRecDepth 100000 in
theorem runE (j : Nat → Value) : chkRH .normal outsE rowsE1 (evL (envOfS (shaSyms (refX true)) []) (evF (envOfS (shaSyms (refX true)) []) 100000 20) 100000 ((L8b.drop 0).take 4) (tmOf j insE) (heapRows rowsE)) = true := by kernel_rfl
set_option maxRecDepth 100000 in
theorem runE' (j : Nat → Value) : chkRH (.exit 4) insE rowsE0 (evL (envOfS (shaSyms (refX false)) []) (evF (envOfS (shaSyms (refX false)) []) 100000 20) 100000 ((L8b.drop 0).take 4) (tmOf j insE) (heapRows rowsE)) = true := by kernel_rfl

/-! ### The sum's text -/
def tabF : Tabs := {
 bins := ((List.range 32).map fun (i : Nat) => (⟨.shr, .float .f64 (i / 4), .int .u64 (Int.ofNat (24 - i % 4 * 8)), .float .f64 (10 + i)⟩ : SBin)) ++ (⟨.add, str [], .float .f64 90, .float .f64 131⟩ : SBin) :: ((List.range 31).map fun (i : Nat) => (⟨.add, .float .f64 (131 + i), .float .f64 (91 + i), .float .f64 (132 + i)⟩ : SBin))
 convs := (List.range 32).map fun i => ⟨4, .float .f64 (10 + i), .float .f64 (50 + i)⟩
 bytes := (List.range 32).map fun i => ⟨[.float .f64 (50 + i)], .float .f64 (90 + i)⟩ }
def insF : List (Nat × Value) := [(5, .pointer (some ⟨0, 0, none⟩))]
def outsF : List (Nat × Value) := [(2, .float .f64 162)]
def rowsF : List Row := [(words8, 122, .rw)]
theorem runF (j : Nat → Value) : chkRH .ret outsF [] (evL (envOfS tabF.syms []) (evF (envOfS tabF.syms []) 1000 5) 1000 ((L8.drop 10).take 5) (tmOf j insF) (heapRows rowsF)) = true := by kernel_rfl
end Go.Proofs

/-! pollardref01.Sum: what it answers. -/
namespace Go.Proofs
open Go.Ev Go.RowKit

abbrev sgF (f : Nat → Value) (h : ∀ i, isIS (f i) = true) : Sg := ⟨f, h⟩
abbrev sgL (l : List Value) (h : l.all isIS = true) : Sg := ⟨fun i => l.getD i (.int .i64 0), fun i => by
  rw [List.getD_eq_getElem?_getD]
  cases hx : l[i]? with
  | none => rfl
  | some v => exact List.all_eq_true.1 h v (List.mem_of_getElem? hx)⟩

theorem strAdd {l m : List UInt8} (h : l.length + m.length ≤ 1099511627776) : scalarOp .add (str l) (str m) = some (str (l ++ m)) := by
  show chk (Nat.ble (Nat.add (lenL l) (lenL m)) 1099511627776) (some (str (appL l m))) = _
  rw [lenL_eq, lenL_eq, appL_eq, show Nat.ble (Nat.add l.length m.length) 1099511627776 = true from Nat.ble_eq_true_of_le h]; rfl
theorem intRem {a b : Int} (hb : b ≠ 0) : scalarOp .rem (.int .i64 a) (.int .i64 b) = some (.int .i64 (a.tmod b)) := by
  show ifB (eqI b 0) none (mkInt .i64 (Int.tmod a b)) = _
  rw [eqI_eq, show (b == 0) = false by simpa using hb, ifB_false, mkInt_eq]
theorem intNeq {a b : Int} (c : Bool) (h : decide (a ≠ b) = c) : scalarOp .neq (.int .i64 a) (.int .i64 b) = some (.bool c) := by
  subst h
  show mkBool (!(eqI a b)) = _
  rw [mkBool_eq, eqI_eq]
  congr 2
  by_cases h : a = b <;> simp [h]
theorem int_shr64 (a n : Nat) (k : IntKind) (hn : n ≤ 64) : intOp .shr .u64 a k n = some (.int .u64 ((a / 2 ^ n : Nat) : Int)) := by
  show mkInt .u64 (.ofNat (Nat.div a (Nat.pow 2 (ifB (Nat.ble n 64) n 64)))) = _
  have e : Nat.ble n 64 = true := Nat.ble_eq_true_of_le hn
  rw [e, ifB_true, mkInt_eq]; rfl
theorem wrapU8 (n : Nat) : IntKind.u8.wrap (n : Int) = ((n % 256 : Nat) : Int) := by
  have e : IntKind.u8.wrap (n : Int) = (n : Int) % 256 := by simp [IntKind.wrap, IntKind.signed, IntKind.bits]
  rw [e]; omega
theorem wrapU64 (n : Nat) (h : n < 18446744073709551616) : IntKind.u64.wrap (n : Int) = (n : Int) := by
  have e : IntKind.u64.wrap (n : Int) = (n : Int) % 18446744073709551616 := by simp [IntKind.wrap, IntKind.signed, IntKind.bits]
  rw [e]; omega
theorem wrapI64 (n : Nat) (h : n < 9223372036854775808) : IntKind.i64.wrap (n : Int) = (n : Int) := by
  exact Go.IntWalk.i64_in _ (by omega)
theorem u8_mod (n : Nat) : UInt8.ofNat (n % 256) = UInt8.ofNat n := by
  apply UInt8.toNat_inj.1; simp [UInt8.toNat_ofNat']

theorem eS [Sg] {T : Tabs} (hT : TabsOk T) : EnvOk Tryz.prog (envOfS T.syms []) := envS_ok (tabs_ok hT)
theorem fS {S : Syms} : FunsOk Tryz.prog (envOfS S []) := funsSOk rfl
theorem sS [Sg] {S : Syms} : SpecsOk Tryz.prog (envOfS S []) := specs_of (l := []) rfl (fun _ h => by cases h)

section
variable {Q : Exit → Act → World → Prop} {a : Act} {w : World}

theorem stepA (l : List UInt8) (hl : l.length ≤ 1073741824) (hF : Fr 241 a [(0, str l)])
    (hQ : ∀ a' w', Fr 241 a' [(0, str (l ++ [128])), (3, .int .u64 ((l.length * 8 : Nat) : Int))] → Below w.heap.size w w' → wpL Tryz.prog (L8.drop 3) Q a' w') : wpL Tryz.prog (L8.drop 0) Q a w := by
  letI : Sg := sgL [str l, str (l ++ [128]), .int .i64 l.length, .int .u64 ((l.length * 8 : Nat) : Int), .int .u64 l.length] rfl
  have hT : TabsOk tabA := by
    refine ⟨fun e he => ?_, fun e he => ?_, fun _ h => (by cases h), fun _ h => (by cases h), fun e he => ?_, fun _ h => (by cases h), fun _ h => (by cases h)⟩
    · simp only [tabA, List.mem_cons, List.not_mem_nil, or_false] at he
      rcases he with rfl | rfl
      · refine ⟨rfl, rfl, rfl, ?_⟩
        show wInt .u64 ((l.length : Int) * 8) = _
        rw [wInt_eq]
        have := wrapU64 (l.length * 8) (by omega)
        rw [Int.natCast_mul] at this
        exact congrArg (fun x => some (Value.int .u64 x)) this
      · exact ⟨rfl, rfl, rfl, strAdd (by simp; omega)⟩
    · simp only [tabA, List.mem_cons, List.not_mem_nil, or_false] at he
      subst he
      refine ⟨by decide, rfl, rfl, ?_⟩
      show some (Value.int .u64 (IntKind.u64.wrap (l.length : Int))) = _
      rw [wrapU64 _ (by omega)]; rfl
    · simp only [tabA, List.mem_cons, List.not_mem_nil, or_false] at he
      subst he
      exact ⟨rfl, ⟨⟨l⟩⟩, rfl, rfl⟩
  exact piece (eS hT) mixed fS sS runA ok8 (by decide) (by decide) (by decide) rfl hF fun a' w' h hb => hQ a' w' h hb

/-- The text, and so many zeros. -/
def zt (l : List UInt8) (j : Nat) : List UInt8 := l ++ 128 :: List.replicate j 0
theorem zt_len (l : List UInt8) (j : Nat) : (zt l j).length = l.length + 1 + j := by simp [zt]; omega
theorem zt_succ (l : List UInt8) (j : Nat) : zt l j ++ [0] = zt l (j + 1) := by
  unfold zt
  rw [List.append_assoc, List.cons_append, ← List.replicate_succ']

theorem tabB_ok (t : List UInt8) (n8 : Int) (c : Bool) (ht : t.length ≤ 1073741824 + 200) (hc : decide (t.length % 64 ≠ 56) = c) :
    letI : Sg := sgL [str t, str (t ++ [0]), .int .i64 t.length, .int .i64 ((t.length % 64 : Nat) : Int), .int .u64 n8] rfl; TabsOk (tabB c) := by
  letI : Sg := sgL [str t, str (t ++ [0]), .int .i64 t.length, .int .i64 ((t.length % 64 : Nat) : Int), .int .u64 n8] rfl
  refine ⟨fun e he => ?_, fun _ h => (by cases h), fun _ h => (by cases h), fun _ h => (by cases h), fun e he => ?_, fun _ h => (by cases h), fun _ h => (by cases h)⟩
  · simp only [tabB, List.mem_cons, List.not_mem_nil, or_false] at he
    rcases he with rfl | rfl | rfl
    · refine ⟨rfl, rfl, rfl, ?_⟩
      show scalarOp .rem (.int .i64 (t.length : Int)) (.int .i64 64) = _
      rw [intRem (by decide)]
      rfl
    · refine ⟨rfl, rfl, rfl, intNeq c ?_⟩
      rw [← hc]
      congr 1
      simp only [ne_eq, eq_iff_iff]
      constructor <;> intro h h2 <;> apply h <;> omega
    · exact ⟨rfl, rfl, rfl, strAdd (by simp; omega)⟩
  · simp only [tabB, List.mem_cons, List.not_mem_nil, or_false] at he
    subst he
    exact ⟨rfl, ⟨⟨t⟩⟩, rfl, rfl⟩

theorem stepB (l : List UInt8) (n8 : Int) (hl : l.length ≤ 1073741824) (hF : Fr 241 a [(0, str (l ++ [128])), (3, .int .u64 n8)])
    (hQ : ∀ a' w', Fr 241 a' [(0, str (zt l (padN l.length))), (3, .int .u64 n8)] → Below w.heap.size w w' → wpL Tryz.prog (L8.drop 4) Q a' w') : wpL Tryz.prog (L8.drop 3) Q a w := by
  refine wpL_loop (by rw [len8]; decide) id8a ?_
  refine wp_loop_n (I := fun k a' w' => k ≤ padN l.length ∧ Fr 241 a' [(0, str (zt l (padN l.length - k))), (3, .int .u64 n8)] ∧ Below w.heap.size w w') ?_ (padN l.length) a w ⟨Nat.le_refl _, ?_, Below.refl _ _⟩
  · intro k a' w' ⟨hk, hF', hB⟩
    refine wpL_codes ?_
    have hp : padN l.length < 64 := Nat.mod_lt _ (by decide)
    have hlen := zt_len l (padN l.length - k)
    have hmod : (l.length + 1 + padN l.length) % 64 = 56 := by unfold padN; omega
    generalize hp' : padN l.length = p at *
    by_cases h0 : k = 0
    · subst h0
      have hT := tabB_ok (zt l p) n8 false (by rw [zt_len]; omega) (by rw [zt_len, hmod]; rfl)
      letI : Sg := sgL [str (zt l p), str (zt l p ++ [0]), .int .i64 (zt l p).length, .int .i64 (((zt l p).length % 64 : Nat) : Int), .int .u64 n8] rfl
      exact piece (L := L8a) (m := 0) (eS hT) mixed fS sS runB' ok8a (by decide) (by decide) (by decide) rfl hF' fun a'' w'' h hb => hQ a'' w'' h (hB.trans (hb.mono hB.size))
    · have hT := tabB_ok (zt l (p - k)) n8 true (by rw [zt_len]; omega) (by rw [zt_len]; simp only [ne_eq, decide_not, Bool.not_eq_eq_eq_not, Bool.not_true, decide_eq_false_iff_not]; omega)
      letI : Sg := sgL [str (zt l (p - k)), str (zt l (p - k) ++ [0]), .int .i64 (zt l (p - k)).length, .int .i64 (((zt l (p - k)).length % 64 : Nat) : Int), .int .u64 n8] rfl
      refine piece (L := L8a) (m := 0) (eS hT) mixed fS sS runB ok8a (by decide) (by decide) (by decide) rfl hF' fun a'' w'' h hb => ⟨k - 1, by omega, by omega, ?_, hB.trans (hb.mono hB.size)⟩
      have e : p - (k - 1) = p - k + 1 := by omega
      rw [e, ← zt_succ]
      exact h
  · rw [Nat.sub_self]; exact hF

/-! ### Eight bytes -/
def bC (N i : Nat) : UInt8 := UInt8.ofNat (N / 2 ^ (56 - 8 * i))
def tC (t : List UInt8) (N k : Nat) : List UInt8 := t ++ (List.range k).map (bC N)
theorem tC_succ (t : List UInt8) (N k : Nat) : tC t N k ++ [bC N k] = tC t N (k + 1) := by
  unfold tC
  rw [List.append_assoc, List.range_succ, List.map_append]; rfl
theorem tC_len (t : List UInt8) (N k : Nat) : (tC t N k).length = t.length + k := by simp [tC]
def vC (t : List UInt8) (N i : Nat) : Value :=
  if i < 20 then .int .u64 (N : Int) else if i < 30 then .int .u64 ((N / 2 ^ (56 - 8 * (i - 20)) : Nat) : Int) else if i < 40 then .int .u8 ((N / 2 ^ (56 - 8 * (i - 30)) % 256 : Nat) : Int)
  else if i < 50 then str [bC N (i - 40)] else str (tC t N (i - 50))
theorem vC_is (t : List UInt8) (N i : Nat) : isIS (vC t N i) = true := by
  unfold vC; split
  · rfl
  · split
    · rfl
    · split
      · rfl
      · split <;> rfl
theorem vC20 (t : List UInt8) (N : Nat) {i : Nat} (h : i < 10) : vC t N (20 + i) = .int .u64 ((N / 2 ^ (56 - 8 * i) : Nat) : Int) := by
  unfold vC; rw [if_neg (by omega), if_pos (by omega), Nat.add_sub_cancel_left]
theorem vC30 (t : List UInt8) (N : Nat) {i : Nat} (h : i < 10) : vC t N (30 + i) = .int .u8 ((N / 2 ^ (56 - 8 * i) % 256 : Nat) : Int) := by
  unfold vC; rw [if_neg (by omega), if_neg (by omega), if_pos (by omega), Nat.add_sub_cancel_left]
theorem vC40 (t : List UInt8) (N : Nat) {i : Nat} (h : i < 10) : vC t N (40 + i) = str [bC N i] := by
  unfold vC; rw [if_neg (by omega), if_neg (by omega), if_neg (by omega), if_pos (by omega), Nat.add_sub_cancel_left]
theorem vC50 (t : List UInt8) (N i : Nat) : vC t N (50 + i) = str (tC t N i) := by
  unfold vC; rw [if_neg (by omega), if_neg (by omega), if_neg (by omega), if_neg (by omega), Nat.add_sub_cancel_left]
theorem conv8 {k : IntKind} (m : Nat) : scalarConv (.int .u8) (.int k (m : Int)) = some (.int .u8 ((m % 256 : Nat) : Int)) := by
  show some (Value.int .u8 (IntKind.u8.wrap (m : Int))) = _
  rw [wrapU8]
theorem mapOne {m : Nat} : str ([((m % 256 : Nat) : Int)].map fun n => UInt8.ofNat n.toNat) = str [UInt8.ofNat m] := by
  show str [UInt8.ofNat (m % 256)] = _
  rw [u8_mod]

theorem tabC_ok (t : List UInt8) (N : Nat) (ht : t.length ≤ 1073741824 + 200) : letI : Sg := sgF (vC t N) (vC_is t N); TabsOk tabC := by
  letI : Sg := sgF (vC t N) (vC_is t N)
  refine ⟨fun e he => ?_, fun e he => ?_, fun e he => ?_, fun _ h => (by cases h), fun _ h => (by cases h), fun _ h => (by cases h), fun _ h => (by cases h)⟩
  · simp only [tabC, List.mem_append, List.mem_map, List.mem_range] at he
    rcases he with ⟨i, hi, rfl⟩ | ⟨i, hi, rfl⟩
    · refine ⟨rfl, rfl, rfl, ?_⟩
      show scalarOp .shr (.int .u64 (N : Int)) (.int .u64 ((56 - 8 * i : Nat) : Int)) = some (vC t N (20 + i))
      rw [vC20 t N (by omega)]
      exact int_shr64 N (56 - 8 * i) .u64 (by omega)
    · refine ⟨rfl, rfl, rfl, ?_⟩
      show scalarOp .add (vC t N (50 + i)) (vC t N (40 + i)) = some (vC t N (51 + i))
      have e : 51 + i = 50 + (i + 1) := by omega
      rw [e, vC50, vC50, vC40 t N (by omega), ← tC_succ]
      exact strAdd (by rw [tC_len]; simp; omega)
  · simp only [tabC, List.mem_map, List.mem_range] at he
    obtain ⟨i, hi, rfl⟩ := he
    refine ⟨by show 4 < 9; decide, rfl, rfl, ?_⟩
    show scalarConv (.int .u8) (vC t N (20 + i)) = some (vC t N (30 + i))
    rw [vC20 t N (by omega), vC30 t N (by omega)]
    exact conv8 _
  · simp only [tabC, List.mem_map, List.mem_range] at he
    obtain ⟨i, hi, rfl⟩ := he
    refine ⟨fun v hv => ?_, rfl, [((N / 2 ^ (56 - 8 * i) % 256 : Nat) : Int)], ?_, ?_⟩
    · simp only [List.mem_cons, List.not_mem_nil, or_false] at hv; subst hv; rfl
    · show [vC t N (30 + i)] = _
      rw [vC30 t N (by omega)]; rfl
    · show vC t N (40 + i) = _
      rw [vC40 t N (by omega)]
      exact mapOne.symm

theorem stepC (t : List UInt8) (N : Nat) (ht : t.length ≤ 1073741824 + 200) (hF : Fr 241 a [(0, str t), (3, .int .u64 (N : Int))])
    (hQ : ∀ a' w', Fr 241 a' [(0, str (tC t N 8))] → Below w.heap.size w w' → wpL Tryz.prog (L8.drop 6) Q a' w') : wpL Tryz.prog (L8.drop 4) Q a w := by
  have hT := tabC_ok t N ht
  letI : Sg := sgF (vC t N) (vC_is t N)
  have e0 : tC t N 0 = t := by simp [tC]
  refine piece (eS hT) mixed fS sS runC ok8 (by decide) (by decide) (by decide) ?_ hF fun a' w' h hb => hQ a' w' ?_ hb
  · show [(0, str t), (3, Value.int .u64 (N : Int))] = [(0, vC t N (50 + 0)), (3, vC t N 10)]
    rw [vC50, e0]; rfl
  · have h' : Fr 241 a' [(0, vC t N (50 + 8))] := h
    rwa [vC50] at h'

theorem pad_eq (l : List UInt8) : tC (zt l (padN l.length)) (l.length * 8) 8 = l ++ pad l.length := by
  unfold tC zt pad pad8 bC
  rw [List.append_assoc, List.cons_append]

/-! ### Words, salts -/
def wordsC (hw : Nat → Nat) : List Value := (List.range 8).map fun k => .int .u32 (hw k : Int)
def rowsC (hw : Nat → Nat) : List (Nat × Row) := [(0, (wordsC hw, 122, .rw)), (1, (saltsV, 123, .rw))]
theorem noTabs [Sg] : TabsOk ({} : Tabs) := ⟨fun _ h => (by cases h), fun _ h => (by cases h), fun _ h => (by cases h), fun _ h => (by cases h), fun _ h => (by cases h), fun _ h => (by cases h), fun _ h => (by cases h)⟩
theorem salts_den [Sg] (es : Nat → Emb) : saltsV.map (denE es) = saltsV := by rfl
theorem stepD (t : List UInt8) (hF : Fr 241 a [(0, str t)])
    (hQ : ∀ a' w' (es : Nat → Emb), Fr 241 a' [(0, str t), (5, .pointer (some ⟨(es 0).B, (es 0).base + 0, none⟩)), (6, .pointer (some ⟨(es 1).B, (es 1).base + 0, none⟩)), (7, .int .i64 ((64 * 0 : Nat) : Int))] →
      MemC Tryz.prog w.heap.size es (rowsC hw0) w' → Below w.heap.size w w' → wpL Tryz.prog (L8.drop 9) Q a' w') : wpL Tryz.prog (L8.drop 6) Q a w := by
  letI : Sg := sgL [str t] rfl
  refine pieceR (es := fun _ => ⟨0, 0, 0, 0, 0⟩) (eS noTabs) mixed fS sS runD ok8 (by decide) ?_ (by decide) rfl hF ⟨fun _ h => (by cases h), fun _ h => (by cases h), fun _ h => (by cases h)⟩ (Nat.le_refl _) fun a' w' es' _ h hm hb _ => ?_
  · exact ⟨by decide, by decide, fun _ h => (by cases h), by decide, fun r hr => by
      simp only [rowsD, List.mem_cons, List.not_mem_nil, or_false] at hr
      rcases hr with rfl | rfl
      · exact .inr ⟨(5, .pointer (some ⟨1, 0, none⟩)), by simp [outsD], rfl⟩
      · exact .inr ⟨(6, .pointer (some ⟨4, 0, none⟩)), by simp [outsD], rfl⟩⟩
  · have hm' : MemC Tryz.prog w.heap.size es' (rowsD 1 4) w' := hm.toC rfl
    refine hQ a' w' (fun b => if b = 0 then es' 1 else es' 4) h (hm'.renum (fun b => if b = 1 then 0 else 1) fun q hq => ?_) hb
    simp only [rowsC, List.mem_cons, List.not_mem_nil, or_false] at hq
    rcases hq with rfl | rfl
    · exact ⟨(1, (firstV, 122, .rw)), by simp [rowsD], rfl, rfl, rfl⟩
    · exact ⟨(4, (saltsV, 123, .rw)), by simp [rowsD], rfl, rfl, rfl⟩

/-! ### The blocks -/
/-- What else there is beside words and bytes. -/
def refEx (T : List UInt8) (at_ : Nat) (k : Nat) : Value := if k = 9000 then str T else if k = 9001 then .int .i64 at_ else if k = 9002 then .int .i64 T.length else .int .i64 ((at_ + (k - 9100) : Nat) : Int)
theorem refEx_is (T : List UInt8) (at_ k : Nat) : isIS (refEx T at_ k) = true := by
  unfold refEx
  split
  · rfl
  · split
    · rfl
    · split <;> rfl
def bsAt (T : List UInt8) (at_ : Nat) (k : Nat) : Nat := (((T.drop at_).take 64).getD k 0).toNat

theorem bytes_get (T : List UInt8) (k : Nat) : (⟨⟨T⟩⟩ : ByteArray)[k]? = T[k]? := by
  by_cases h : k < T.length
  · rw [List.getElem?_eq_getElem h, getElem?_pos (⟨⟨T⟩⟩ : ByteArray) k h]; rfl
  · rw [List.getElem?_eq_none (by omega), getElem?_neg (⟨⟨T⟩⟩ : ByteArray) k h]
theorem bsAt_get {T : List UInt8} {at_ i : Nat} (hi : i < 64) (hs : at_ + 64 ≤ T.length) : ∃ b, T[at_ + i]? = some b ∧ bsAt T at_ i = b.toNat := by
  have h : at_ + i < T.length := by omega
  refine ⟨T[at_ + i], List.getElem?_eq_getElem h, ?_⟩
  unfold bsAt
  rw [List.getD_eq_getElem?_getD, List.getElem?_take, if_pos hi, List.getElem?_drop, List.getElem?_eq_getElem h]; rfl
theorem refX_ok {hw : Nat → Nat} {T : List UInt8} {at_ : Nat} {c : Bool} (hc : decide (at_ < T.length) = c) (hs : c = true → at_ + 64 ≤ T.length) (hm : T.length ≤ 1099511627776) (ha : at_ ≤ T.length) :
    letI := shaSg shaL hw (bsAt T at_) (refEx T at_) (refEx_is T at_); TabsOk (refX c) := by
  letI := shaSg shaL hw (bsAt T at_) (refEx T at_) (refEx_is T at_)
  have e0 : den (.float .f64 9000) = str T := by
    show shaV shaL hw (bsAt T at_) (refEx T at_) 9000 = _
    rw [shaV_ex (by decide)]; rfl
  have e1 : den (.float .f64 9001) = .int .i64 at_ := by
    show shaV shaL hw (bsAt T at_) (refEx T at_) 9001 = _
    rw [shaV_ex (by decide)]; rfl
  have e1' : den (.float .f64 9002) = .int .i64 T.length := by
    show shaV shaL hw (bsAt T at_) (refEx T at_) 9002 = _
    rw [shaV_ex (by decide)]; rfl
  have e2 : ∀ i, den (.float .f64 (9100 + i)) = .int .i64 ((at_ + i : Nat) : Int) := fun i => by
    show shaV shaL hw (bsAt T at_) (refEx T at_) (9100 + i) = _
    rw [shaV_ex (by omega)]
    unfold refEx
    rw [if_neg (by omega), if_neg (by omega), if_neg (by omega), Nat.add_sub_cancel_left]
  have e3 : ∀ i, i < 64 → den (.float .f64 (8 + i)) = .int .u8 (bsAt T at_ i : Int) := fun i hi => by
    show shaV shaL hw (bsAt T at_) (refEx T at_) (8 + i) = _
    rw [shaV_byte (by omega) (by omega)]
    unfold sv
    rw [vals_lt _ _ _ (8 + i) (by omega)]
    unfold f0
    rw [if_neg (by omega), if_pos (by omega), Nat.add_sub_cancel_left]
  refine ⟨fun e he => ?_, fun _ h => (by cases h), fun _ h => (by cases h), fun _ h => (by cases h), fun e he => ?_, fun e he => ?_, fun _ h => (by cases h)⟩
  · simp only [refX, List.mem_cons, List.mem_map, List.mem_range] at he
    rcases he with rfl | ⟨i, hi, rfl⟩
    · refine ⟨rfl, rfl, rfl, ?_⟩
      show scalarOp .lss (den (.float .f64 9001)) (den (.float .f64 9002)) = _
      rw [e1, e1']
      refine ints_lss c ?_
      rw [← hc]; congr 1; exact propext Int.ofNat_lt
    · refine ⟨rfl, rfl, rfl, ?_⟩
      show scalarOp .add (den (.float .f64 9001)) _ = some (den (.float .f64 (9100 + i)))
      rw [e1, e2 i]
      show wInt .i64 ((at_ : Int) + (i : Int)) = _
      rw [wInt_eq, ← Int.natCast_add, wrapI64 _ (by omega)]
  · simp only [refX, List.mem_cons, List.not_mem_nil, or_false] at he
    subst he
    refine ⟨rfl, ⟨⟨T⟩⟩, e0, e1'⟩
  · cases c with
    | false => cases he
    | true =>
    have hs := hs rfl
    obtain ⟨i, hi, rfl⟩ := List.mem_map.1 (show e ∈ (List.range 64).map fun i => (⟨.float .f64 9000, .float .f64 (9100 + i), .float .f64 (8 + i)⟩ : SIdx) from he)
    have hi := List.mem_range.1 hi
    refine ⟨rfl, rfl, rfl, ?_⟩
    show scalarIndex (den (.float .f64 9000)) (den (.float .f64 (9100 + i))) = some (den (.float .f64 (8 + i)))
    rw [e0, e2 i, e3 i hi]
    obtain ⟨b, hb, hb'⟩ := bsAt_get (at_ := at_) hi hs
    show (match (⟨⟨T⟩⟩ : ByteArray)[at_ + i]? with | some b => some (Value.int .u8 b.toNat) | none => none) = _
    rw [bytes_get, hb, hb']

theorem words8_sha {hw bs : Nat → Nat} {ex : Nat → Value} (hex : ∀ k, isIS (ex k) = true) (es : Nat → Emb) : letI := shaSg shaL hw bs ex hex; words8.map (denE es) = wordsC hw := by
  letI := shaSg shaL hw bs ex hex
  rw [words8_eq, List.map_map]
  apply List.map_congr_left
  intro k hk
  have hk : k < 8 := by simpa using hk
  show shaV shaL hw bs ex k = _
  rw [shaV_word ⟨.inl hk, by omega⟩]
  unfold sv
  rw [vals_lt _ _ _ k (by omega)]
  unfold f0
  rw [if_pos hk]
theorem sums8_sha {hw bs : Nat → Nat} {ex : Nat → Value} (hex : ∀ k, isIS (ex k) = true) (es : Nat → Emb) : letI := shaSg shaL hw bs ex hex; sums8.map (denE es) = wordsC (stirW hw bs) := by
  letI := shaSg shaL hw bs ex hex
  rw [sums8_eq, List.map_map]
  apply List.map_congr_left
  intro k hk
  have hk : k < 8 := by simpa using hk
  exact shaV_word ⟨.inr (by omega), by omega⟩
theorem eShaS [Sg] {S : Syms} (hS : SymsOk Tryz.prog S) : EnvOk Tryz.prog (envOfS S []) := envS_ok hS

def frE (T : List UInt8) (es : Nat → Emb) (at_ : Nat) : List (Nat × Value) := [(0, str T), (5, .pointer (some ⟨(es 0).B, (es 0).base + 0, none⟩)), (6, .pointer (some ⟨(es 1).B, (es 1).base + 0, none⟩)), (7, .int .i64 (at_ : Int))]

theorem stepE (T : List UInt8) (n : Nat) (hn : T.length = 64 * n) (hT : T.length ≤ 1073741824 + 300) {es : Nat → Emb} {base : Nat} (hbase : base ≤ w.heap.size) (hF : Fr 241 a (frE T es (64 * 0)))
    (hM : MemC Tryz.prog base es (rowsC hw0) w)
    (hQ : ∀ a' w' (es' : Nat → Emb), Fr 241 a' (frE T es' (64 * n)) → MemC Tryz.prog base es' (rowsC (absN n hw0 T)) w' → Below base w w' → wpL Tryz.prog (L8.drop 10) Q a' w') : wpL Tryz.prog (L8.drop 9) Q a w := by
  refine wpL_loop (by rw [len8]; decide) id8b ?_
  refine wp_loop_n (I := fun k a' w' => k ≤ n ∧ ∃ es', Fr 241 a' (frE T es' (64 * (n - k))) ∧ MemC Tryz.prog base es' (rowsC (absN (n - k) hw0 T)) w' ∧ Below base w w') ?_ n a w ⟨Nat.le_refl _, es, ?_, ?_, Below.refl _ _⟩
  · intro k a' w' ⟨hk, es', hF', hM', hB⟩
    refine wpL_codes ?_
    have hlt := absN_lt (n - k) hw0_lt T
    have hb' : base ≤ w'.heap.size := Nat.le_trans hbase hB.size
    generalize hm : n - k = m at *
    have hex := refEx_is T (64 * m)
    have h64 : ∀ k, k < 64 → bsAt T (64 * m) k < 256 := fun k _ => UInt8.toNat_lt _
    letI : Sg := shaSg shaL (absN m hw0 T) (bsAt T (64 * m)) (refEx T (64 * m)) hex
    have hAt : MemAt Tryz.prog base es' (enum 0 rowsE) w' := hM'.toAt (by
      show rowsC (absN m hw0 T) = [(0, (words8.map (denE es'), 122, .rw)), (1, (saltsV.map (denE es'), 123, .rw))]
      rw [words8_sha hex, salts_den]; rfl)
    have hins : frE T es' (64 * m) = insE.map fun p => (p.1, denE es' p.2) := by
      have e0 : shaV shaL (absN m hw0 T) (bsAt T (64 * m)) (refEx T (64 * m)) 9000 = str T := by rw [shaV_ex (by decide)]; rfl
      have e1 : shaV shaL (absN m hw0 T) (bsAt T (64 * m)) (refEx T (64 * m)) 9001 = .int .i64 ((64 * m : Nat) : Int) := by rw [shaV_ex (by decide)]; rfl
      show _ = [(0, shaV shaL (absN m hw0 T) (bsAt T (64 * m)) (refEx T (64 * m)) 9000), (5, _), (6, _), (7, shaV shaL (absN m hw0 T) (bsAt T (64 * m)) (refEx T (64 * m)) 9001)]
      rw [e0, e1]; rfl
    by_cases h0 : k = 0
    · subst h0
      have hmn : m = n := by omega
      have hX := refX_ok (hw := absN m hw0 T) (T := T) (at_ := 64 * m) (c := false) (by simp; omega) (fun h => by cases h) (by omega) (by omega)
      refine pieceR (L := L8b) (m := 0) (rows := rowsE) (rows' := rowsE0) (eShaS (shaSyms_ok hex hlt h64 hX)) mixed fS sS runE' ok8b (by decide) ?_ (by decide) hins hF' hAt hb' fun a'' w'' es'' he h hm hb _ => ?_
      · exact ⟨by decide, by decide, by decide, by decide, by decide⟩
      · refine hQ a'' w'' es'' ?_ ?_ (hB.trans hb)
        · rw [← hmn]
          have e : frE T es'' (64 * m) = insE.map fun p => (p.1, denE es'' p.2) := by
            rw [show frE T es'' (64 * m) = frE T es' (64 * m) by unfold frE; rw [he 0 (by decide), he 1 (by decide)], hins]
            simp only [insE, List.map_cons, List.map_nil, denE, he 0 (by decide), he 1 (by decide)]
          rw [e]; exact h
        · rw [← hmn]
          refine hm.toC ?_
          show rowsC (absN m hw0 T) = [(0, (words8.map (denE es''), 122, .rw)), (1, (saltsV.map (denE es''), 123, .rw))]
          rw [words8_sha hex, salts_den]; rfl
    · have hX := refX_ok (hw := absN m hw0 T) (T := T) (at_ := 64 * m) (c := true) (by simp; omega) (fun _ => by omega) (by omega) (by omega)
      refine pieceR (L := L8b) (m := 0) (rows := rowsE) (rows' := rowsE1) (eShaS (shaSyms_ok hex hlt h64 hX)) mixed fS sS runE ok8b (by decide) ?_ (by decide) hins hF' hAt hb' fun a'' w'' es'' he h hm' hb _ => ⟨k - 1, by omega, by omega, es'', ?_, ?_, hB.trans hb⟩
      · exact ⟨by decide, by decide, by decide, by decide, by decide⟩
      · have e : n - (k - 1) = m + 1 := by omega
        rw [e]
        have e2 : frE T es'' (64 * (m + 1)) = outsE.map fun p => (p.1, denE es'' p.2) := by
          have e0 : shaV shaL (absN m hw0 T) (bsAt T (64 * m)) (refEx T (64 * m)) 9000 = str T := by rw [shaV_ex (by decide)]; rfl
          have e1 : shaV shaL (absN m hw0 T) (bsAt T (64 * m)) (refEx T (64 * m)) 9164 = .int .i64 ((64 * (m + 1) : Nat) : Int) := by rw [shaV_ex (by decide)]; rfl
          show _ = [(0, shaV shaL (absN m hw0 T) (bsAt T (64 * m)) (refEx T (64 * m)) 9000), (5, _), (6, _), (7, shaV shaL (absN m hw0 T) (bsAt T (64 * m)) (refEx T (64 * m)) 9164)]
          rw [e0, e1]; rfl
        rw [e2]; exact h
      · have e : n - (k - 1) = m + 1 := by omega
        rw [e]
        refine hm'.toC ?_
        show rowsC (absN (m + 1) hw0 T) = [(0, (sums8.map (denE es''), 122, .rw)), (1, (saltsV.map (denE es''), 123, .rw))]
        rw [sums8_sha hex, salts_den, absN_succ]; rfl
  · rw [Nat.sub_self]; exact hF
  · rw [Nat.sub_self]; exact hM

/-! ### The sum's text -/
def bF (hw : Nat → Nat) (i : Nat) : UInt8 := UInt8.ofNat (hw (i / 4) / 2 ^ (24 - i % 4 * 8))
def tF (hw : Nat → Nat) (k : Nat) : List UInt8 := (List.range k).map (bF hw)
theorem tF_succ (hw : Nat → Nat) (k : Nat) : tF hw k ++ [bF hw k] = tF hw (k + 1) := by
  unfold tF
  rw [List.range_succ, List.map_append]; rfl
def vF (hw : Nat → Nat) (i : Nat) : Value :=
  if i < 10 then .int .u32 (hw i : Int) else if i < 50 then .int .u32 ((hw ((i - 10) / 4) / 2 ^ (24 - (i - 10) % 4 * 8) : Nat) : Int) else if i < 90 then .int .u8 ((hw ((i - 50) / 4) / 2 ^ (24 - (i - 50) % 4 * 8) % 256 : Nat) : Int)
  else if i < 130 then str [bF hw (i - 90)] else str (tF hw (i - 130))
theorem vF_is (hw : Nat → Nat) (i : Nat) : isIS (vF hw i) = true := by
  unfold vF; split
  · rfl
  · split
    · rfl
    · split
      · rfl
      · split <;> rfl
theorem vF0 (hw : Nat → Nat) {i : Nat} (h : i < 10) : vF hw i = .int .u32 (hw i : Int) := by unfold vF; rw [if_pos h]
theorem vF10 (hw : Nat → Nat) {i : Nat} (h : i < 40) : vF hw (10 + i) = .int .u32 ((hw (i / 4) / 2 ^ (24 - i % 4 * 8) : Nat) : Int) := by
  unfold vF; rw [if_neg (by omega), if_pos (by omega), Nat.add_sub_cancel_left]
theorem vF50 (hw : Nat → Nat) {i : Nat} (h : i < 40) : vF hw (50 + i) = .int .u8 ((hw (i / 4) / 2 ^ (24 - i % 4 * 8) % 256 : Nat) : Int) := by
  unfold vF; rw [if_neg (by omega), if_neg (by omega), if_pos (by omega), Nat.add_sub_cancel_left]
theorem vF90 (hw : Nat → Nat) {i : Nat} (h : i < 40) : vF hw (90 + i) = str [bF hw i] := by
  unfold vF; rw [if_neg (by omega), if_neg (by omega), if_neg (by omega), if_pos (by omega), Nat.add_sub_cancel_left]
theorem vF130 (hw : Nat → Nat) (i : Nat) : vF hw (130 + i) = str (tF hw i) := by
  unfold vF; rw [if_neg (by omega), if_neg (by omega), if_neg (by omega), if_neg (by omega), Nat.add_sub_cancel_left]

theorem tabF_ok (hw : Nat → Nat) : letI : Sg := sgF (vF hw) (vF_is hw); TabsOk tabF := by
  letI : Sg := sgF (vF hw) (vF_is hw)
  refine ⟨fun e he => ?_, fun e he => ?_, fun e he => ?_, fun _ h => (by cases h), fun _ h => (by cases h), fun _ h => (by cases h), fun _ h => (by cases h)⟩
  · simp only [tabF, List.mem_append, List.mem_cons, List.mem_map, List.mem_range] at he
    rcases he with ⟨i, hi, rfl⟩ | rfl | ⟨i, hi, rfl⟩
    · refine ⟨rfl, rfl, rfl, ?_⟩
      show scalarOp .shr (vF hw (i / 4)) (.int .u64 ((24 - i % 4 * 8 : Nat) : Int)) = some (vF hw (10 + i))
      rw [vF0 hw (by omega), vF10 hw (by omega)]
      exact int_shr _ (24 - i % 4 * 8) .u64 (by omega)
    · refine ⟨rfl, rfl, rfl, ?_⟩
      show scalarOp .add (str []) (vF hw (90 + 0)) = some (vF hw (130 + 1))
      rw [vF90 hw (by omega), vF130, ← tF_succ]
      exact strAdd (by simp)
    · refine ⟨rfl, rfl, rfl, ?_⟩
      show scalarOp .add (vF hw (131 + i)) (vF hw (91 + i)) = some (vF hw (132 + i))
      have e1 : 131 + i = 130 + (i + 1) := by omega
      have e2 : 91 + i = 90 + (i + 1) := by omega
      have e3 : 132 + i = 130 + (i + 1 + 1) := by omega
      rw [e1, e2, e3, vF130, vF130, vF90 hw (by omega), ← tF_succ hw (i + 1)]
      exact strAdd (by simp [tF]; omega)
  · simp only [tabF, List.mem_map, List.mem_range] at he
    obtain ⟨i, hi, rfl⟩ := he
    refine ⟨by show 4 < 9; decide, rfl, rfl, ?_⟩
    show scalarConv (.int .u8) (vF hw (10 + i)) = some (vF hw (50 + i))
    rw [vF10 hw (by omega), vF50 hw (by omega)]
    exact conv8 _
  · simp only [tabF, List.mem_map, List.mem_range] at he
    obtain ⟨i, hi, rfl⟩ := he
    refine ⟨fun v hv => ?_, rfl, [((hw (i / 4) / 2 ^ (24 - i % 4 * 8) % 256 : Nat) : Int)], ?_, ?_⟩
    · simp only [List.mem_cons, List.not_mem_nil, or_false] at hv; subst hv; rfl
    · show [vF hw (50 + i)] = _
      rw [vF50 hw (by omega)]; rfl
    · show vF hw (90 + i) = _
      rw [vF90 hw (by omega)]
      exact mapOne.symm

theorem stepF (T : List UInt8) (hw : Nat → Nat) (n : Nat) {es : Nat → Emb} {base : Nat} (hbase : base ≤ w.heap.size) (hF : Fr 241 a (frE T es n)) (hM : MemC Tryz.prog base es (rowsC hw) w)
    (hQ : ∀ a' w', Fr 241 a' [(2, str (outL hw))] → Below base w w' → Q .ret a' w') : wpL Tryz.prog (L8.drop 10) Q a w := by
  have hT := tabF_ok hw
  letI : Sg := sgF (vF hw) (vF_is hw)
  have hF' : Fr 241 a (insF.map fun p => (p.1, denE es p.2)) := ⟨hF.1, hF.2.1, fun p hp => by
    simp only [insF, List.map_cons, List.map_nil, List.mem_cons, List.not_mem_nil, or_false] at hp
    subst hp
    exact hF.2.2 _ (by simp [frE, denE])⟩
  have hM1 : MemC Tryz.prog base es [(0, (wordsC hw, 122, .rw))] w := hM.renum id fun q hq => ⟨q, by simp only [List.mem_cons, List.not_mem_nil, or_false] at hq; subst hq; simp [rowsC], rfl, rfl, rfl⟩
  have hAt : MemAt Tryz.prog base es (enum 0 rowsF) w := hM1.toAt (by
    show [(0, (wordsC hw, 122, Acc.rw))] = [(0, (words8.map (denE es), 122, .rw))]
    have : words8.map (denE es) = wordsC hw := by
      rw [words8_eq, List.map_map]
      apply List.map_congr_left
      intro k hk
      exact vF0 hw (by have : k < 8 := by simpa using hk
                       omega)
    rw [this])
  refine pieceR (rows := rowsF) (rows' := []) (eS hT) mixed fS sS runF ok8 (by decide) ⟨by decide, by decide, by decide, by decide, by decide⟩ (by decide) rfl hF' hAt hbase fun a' w' es' _ h _ hb _ => hQ a' w' ?_ hb
  have h' : Fr 241 a' [(2, vF hw (130 + 32))] := h
  rw [vF130] at h'
  exact h'

end
/-- THE REFERENCE'S SUM. -/
theorem ref_sum (l : List UInt8) (hl : l.length ≤ 1073741824) (w : World) : Calls Tryz.prog 40 #[str l] w fun e w' => e = .returned (str (shaF l)) ∧ Below w.heap.size w w' := by
  have hb : Tryz.f40.body = some (Tryz.f40.body.getD .skip) := by kernel_rfl
  refine calls_of_wp Tryz.func40 hb (wpL_codes ?_)
  have hp : padN l.length < 64 := Nat.mod_lt _ (by decide)
  have hz := zt_len l (padN l.length)
  have hpl := pad_length l.length
  have hpm := pad_mod l.length
  refine stepA l hl (fr_enter (args := [str l]) Tryz.ntmps40 (by simp) fun p hp => ?_) fun a1 w1 h1 b1 => stepB l _ hl h1 fun a2 w2 h2 b2 => stepC (zt l (padN l.length)) (l.length * 8) (by omega) h2 fun a3 w3 h3 b3 => ?_
  · simp only [List.mem_cons, List.not_mem_nil, or_false] at hp
    subst hp; rfl
  · rw [pad_eq] at h3
    have hTl : (l ++ pad l.length).length = 64 * ((l ++ pad l.length).length / 64) := by rw [List.length_append]; omega
    have hTb : (l ++ pad l.length).length ≤ 1073741824 + 300 := by rw [List.length_append]; omega
    refine stepD _ h3 fun a4 w4 es h4 m4 b4 => stepE _ _ hTl hTb b4.size h4 m4 fun a5 w5 es5 h5 m5 b5 => stepF _ _ _ (Nat.le_trans b4.size b5.size) h5 m5 fun a6 w6 h6 b6 => ?_
    have hB : Below w.heap.size w w6 := by
      have s1 := b1.size
      have s2 := b2.size
      have s3 := b3.size
      exact ((((b1.trans (b2.mono s1)).trans (b3.mono (by omega))).trans (b4.mono (by omega))).trans (b5.mono (by omega))).trans (b6.mono (by omega))
    refine ⟨h6.2.1, str (shaF l), ?_, rfl, hB⟩
    have hr : Tryz.f40.results = #[.tmp 2] := by kernel_rfl
    rw [results_tmp hr, h6.2.2 _ (List.mem_cons_self)]
    rfl
end Go.Proofs
