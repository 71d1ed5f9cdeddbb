/- pollardref01.Sum, piece by piece: the runs. -/
import Derived.Test.YthnojgpobfpgeaaDoorTStir
import Derived.Test.YthnojgpobfpgeaaDoorEvPiece
/-! pollardref01.Sum, piece by piece: the runs. -/
namespace Go.Proofs
open Go.Ev Go.RowKit

noncomputable def L8 : List Code := codes (Tryd.f20.body.getD .skip)
noncomputable def L8a : List Code := codes (loopB (itemN L8 3))
noncomputable def L8b : List Code := codes (loopB (itemN L8 9))
theorem ok8 : allCode 241 L8 = true := by kernel_rfl
theorem ok8a : allCode 241 L8a = true := by kernel_rfl
theorem ok8b : allCode 241 L8b = true := by kernel_rfl
theorem len8 : lenL L8 = 15 := by kernel_rfl
theorem id8a : loopId (itemN L8 3) = some 0 := by kernel_rfl
theorem id8b : loopId (itemN L8 9) = some 4 := by kernel_rfl

/-! ### Text, length -/
def tabA : Tabs := {
 lens := [⟨0, .float .f64 2⟩]
 convs := [⟨7, .float .f64 2, .float .f64 4⟩]
 bins := [⟨.mul, .float .f64 4, .int .u64 8, .float .f64 3⟩, ⟨.add, .float .f64 0, str [128], .float .f64 1⟩] }
def insA : List (Nat × Value) := [(0, .float .f64 0)]
def outsA : List (Nat × Value) := [(0, .float .f64 1), (3, .float .f64 3)]
theorem runA (j : Nat → Value) : chkR .normal outsA (evL (envOfS tabA.syms []) (evF (envOfS tabA.syms []) 1000 5) 1000 ((L8.drop 0).take 3) (tmOf j insA) Heap.empty) = true := by kernel_rfl

/-! ### Zeros -/
def tabB (c : Bool) : Tabs := {
 lens := [⟨0, .float .f64 2⟩]
 bins := [⟨.rem, .float .f64 2, .int .i64 64, .float .f64 3⟩, ⟨.neq, .float .f64 3, .int .i64 56, .bool c⟩, ⟨.add, .float .f64 0, str [0], .float .f64 1⟩] }
def insB : List (Nat × Value) := [(0, .float .f64 0), (3, .float .f64 4)]
def outsB : List (Nat × Value) := [(0, .float .f64 1), (3, .float .f64 4)]
theorem runB (j : Nat → Value) : chkR .normal outsB (evL (envOfS (tabB true).syms []) (evF (envOfS (tabB true).syms []) 1000 5) 1000 ((L8a.drop 0).take 3) (tmOf j insB) Heap.empty) = true := by kernel_rfl
theorem runB' (j : Nat → Value) : chkR (.exit 0) insB (evL (envOfS (tabB false).syms []) (evF (envOfS (tabB false).syms []) 1000 5) 1000 ((L8a.drop 0).take 3) (tmOf j insB) Heap.empty) = true := by kernel_rfl

/-! ### Eight bytes -/
def tabC : Tabs := {
 bins := ((List.range 8).map fun (i : Nat) => (⟨.shr, .float .f64 10, .int .u64 (Int.ofNat (56 - 8 * i)), .float .f64 (20 + i)⟩ : SBin)) ++ ((List.range 8).map fun (i : Nat) => (⟨.add, .float .f64 (50 + i), .float .f64 (40 + i), .float .f64 (51 + i)⟩ : SBin))
 convs := (List.range 8).map fun i => ⟨4, .float .f64 (20 + i), .float .f64 (30 + i)⟩
 bytes := (List.range 8).map fun i => ⟨[.float .f64 (30 + i)], .float .f64 (40 + i)⟩ }
def insC : List (Nat × Value) := [(0, .float .f64 50), (3, .float .f64 10)]
def outsC : List (Nat × Value) := [(0, .float .f64 58)]
theorem runC (j : Nat → Value) : chkR .normal outsC (evL (envOfS tabC.syms []) (evF (envOfS tabC.syms []) 1000 5) 1000 ((L8.drop 4).take 2) (tmOf j insC) Heap.empty) = true := by kernel_rfl

/-! ### Words, salts -/
def saltsL : List Nat := [1116352408, 1899447441, 3049323471, 3921009573, 961987163, 1508970993, 2453635748, 2870763221, 3624381080, 310598401, 607225278, 1426881987, 1925078388, 2162078206, 2614888103, 3248222580, 3835390401, 4022224774, 264347078, 604807628, 770255983, 1249150122, 1555081692, 1996064986, 2554220882, 2821834349, 2952996808, 3210313671, 3336571891, 3584528711, 113926993, 338241895, 666307205, 773529912, 1294757372, 1396182291, 1695183700, 1986661051, 2177026350, 2456956037, 2730485921, 2820302411, 3259730800, 3345764771, 3516065817, 3600352804, 4094571909, 275423344, 430227734, 506948616, 659060556, 883997877, 958139571, 1322822218, 1537002063, 1747873779, 1955562222, 2024104815, 2227730452, 2361852424, 2428436474, 2756734187, 3204031479, 3329325298]
def saltsV : List Value := saltsL.map fun (n : Nat) => Value.int .u32 (Int.ofNat n)
def firstV : List Value := (List.range 8).map fun (k : Nat) => Value.int .u32 (Int.ofNat (hw0 k))
def insD : List (Nat × Value) := [(0, .float .f64 0)]
def outsD (a b : Nat) : List (Nat × Value) := [(0, .float .f64 0), (5, .pointer (some ⟨a, 0, none⟩)), (6, .pointer (some ⟨b, 0, none⟩)), (7, .int .i64 0)]
def rowsD (a b : Nat) : List (Nat × Row) := [(a, (firstV, 65, .rw)), (b, (saltsV, 66, .rw))]
noncomputable def rawD (j : Nat → Value) : CRes := evL (envOfS ({} : Tabs).syms []) (evF (envOfS ({} : Tabs).syms []) 1000 5) 1000 ((L8.drop 6).take 3) (tmOf j insD) (heapRows [])
theorem runD (j : Nat → Value) : chkRH .normal (outsD 1 4) (rowsD 1 4) (rawD j) = true := by kernel_rfl

/-! ### A block -/
def refX (c : Bool) : Tabs := {
 lens := [⟨9000, .float .f64 9002⟩]
 bins := ⟨.lss, .float .f64 9001, .float .f64 9002, .bool c⟩ :: (List.range 65).map fun (i : Nat) => ⟨.add, .float .f64 9001, .int .i64 (Int.ofNat i), .float .f64 (9100 + i)⟩
 idx := if c then (List.range 64).map fun i => ⟨.float .f64 9000, .float .f64 (9100 + i), .float .f64 (8 + i)⟩ else [] }
def insE : List (Nat × Value) := [(0, .float .f64 9000), (5, .pointer (some ⟨0, 0, none⟩)), (6, .pointer (some ⟨1, 0, none⟩)), (7, .float .f64 9001)]
def outsE : List (Nat × Value) := [(0, .float .f64 9000), (5, .pointer (some ⟨0, 0, none⟩)), (6, .pointer (some ⟨1, 0, none⟩)), (7, .float .f64 9164)]
def rowsE : List Row := [(words8, 65, .rw), (saltsV, 66, .rw)]
def rowsE1 : List (Nat × Row) := [(0, (sums8, 65, .rw)), (1, (saltsV, 66, .rw))]
def rowsE0 : List (Nat × Row) := [(0, (words8, 65, .rw)), (1, (saltsV, 66, .rw))]
set_option maxRecDepth 100000 in
theorem runE (j : Nat → Value) : chkRH .normal outsE rowsE1 (evL (envOfS (shaSyms (refX true)) []) (evF (envOfS (shaSyms (refX true)) []) 100000 20) 100000 ((L8b.drop 0).take 4) (tmOf j insE) (heapRows rowsE)) = true := by kernel_rfl
set_option maxRecDepth 100000 in
theorem runE' (j : Nat → Value) : chkRH (.exit 4) insE rowsE0 (evL (envOfS (shaSyms (refX false)) []) (evF (envOfS (shaSyms (refX false)) []) 100000 20) 100000 ((L8b.drop 0).take 4) (tmOf j insE) (heapRows rowsE)) = true := by kernel_rfl

/-! ### The sum's text -/
def tabF : Tabs := {
 bins := ((List.range 32).map fun (i : Nat) => (⟨.shr, .float .f64 (i / 4), .int .u64 (Int.ofNat (24 - i % 4 * 8)), .float .f64 (10 + i)⟩ : SBin)) ++ (⟨.add, str [], .float .f64 90, .float .f64 131⟩ : SBin) :: ((List.range 31).map fun (i : Nat) => (⟨.add, .float .f64 (131 + i), .float .f64 (91 + i), .float .f64 (132 + i)⟩ : SBin))
 convs := (List.range 32).map fun i => ⟨4, .float .f64 (10 + i), .float .f64 (50 + i)⟩
 bytes := (List.range 32).map fun i => ⟨[.float .f64 (50 + i)], .float .f64 (90 + i)⟩ }
def insF : List (Nat × Value) := [(5, .pointer (some ⟨0, 0, none⟩))]
def outsF : List (Nat × Value) := [(2, .float .f64 162)]
def rowsF : List Row := [(words8, 65, .rw)]
theorem runF (j : Nat → Value) : chkRH .ret outsF [] (evL (envOfS tabF.syms []) (evF (envOfS tabF.syms []) 1000 5) 1000 ((L8.drop 10).take 5) (tmOf j insF) (heapRows rowsF)) = true := by kernel_rfl
end Go.Proofs
