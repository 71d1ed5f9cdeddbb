/- pollardref01.Sum, piece by piece: the runs. -/
import Derived.Test.YthnojgpobfpgeaaGreatDoorTStir
import Derived.Test.YthnojgpobfpgeaaGreatDoorEvPiece
import Derived.IntWalk
namespace Go.Proofs
open Go.Ev Go.RowKit
def outsF : List (Nat × Value) := [(2, .float .f64 162)]
def rowsF : List Row := [(words8, 122, .rw)]
end Go.Proofs
namespace Go.Proofs
open Go.Ev Go.RowKit
abbrev sgF (f : Nat -> Value) (h : ∀ i, isIS (f i) = true) : Sg := ⟨f, h⟩
theorem wrapU8 (n : Nat) : IntKind.u8.wrap (n : Int) = ((n % 256 : Nat) : Int) := by
 have e : IntKind.u8.wrap (n : Int) = (n : Int) % 256 := by simp [IntKind.wrap, IntKind.signed, IntKind.bits]
 rw [e]; omega
theorem wrapU64 (n : Nat) (h : n < 18446744073709551616) : IntKind.u64.wrap (n : Int) = (n : Int) := by
 have e : IntKind.u64.wrap (n : Int) = (n : Int) % 18446744073709551616 := by simp [IntKind.wrap, IntKind.signed, IntKind.bits]
 rw [e]; omega
theorem wrapI64 (n : Nat) (h : n < 9223372036854775808) : IntKind.i64.wrap (n : Int) = (n : Int) := by
 exact Go.IntWalk.i64_in _ (by omega)
theorem u8_mod (n : Nat) : UInt8.ofNat (n % 256) = UInt8.ofNat n := by
 apply UInt8.toNat_inj.1; simp [UInt8.toNat_ofNat']
theorem eS [Sg] {T : Tabs} (hT : TabsOk T) : EnvOk Tryz.prog (envOfS T.syms []) := envS_ok (tabs_ok hT)
theorem fS {S : Syms} : FunsOk Tryz.prog (envOfS S []) := funsSOk rfl
theorem sS [Sg] {S : Syms} : SpecsOk Tryz.prog (envOfS S []) := specs_of (l := []) rfl (fun _ h => by cases h)
section
variable {Q : Exit -> Act -> World -> Prop} {a : Act} {w : World}
def zt (l : List UInt8) (j : Nat) : List UInt8 := l ++ 128 :: List.replicate j 0
theorem zt_len (l : List UInt8) (j : Nat) : (zt l j).length = l.length + 1 + j := by simp [zt]; omega
theorem zt_succ (l : List UInt8) (j : Nat) : zt l j ++ [0] = zt l (j + 1) := by
 unfold zt
 rw [List.append_assoc, List.cons_append, <- List.replicate_succ']
def bC (N i : Nat) : UInt8 := UInt8.ofNat (N / 2 ^ (56 - 8 * i))
def tC (t : List UInt8) (N k : Nat) : List UInt8 := t ++ (List.range k).map (bC N)
theorem tC_succ (t : List UInt8) (N k : Nat) : tC t N k ++ [bC N k] = tC t N (k + 1) := by
 unfold tC
 rw [List.append_assoc, List.range_succ, List.map_append]; rfl
theorem tC_len (t : List UInt8) (N k : Nat) : (tC t N k).length = t.length + k := by simp [tC]
theorem conv8 {k : IntKind} (m : Nat) : scalarConv (.int .u8) (.int k (m : Int)) = some (.int .u8 ((m % 256 : Nat) : Int)) := by
 show some (Value.int .u8 (IntKind.u8.wrap (m : Int))) = _
 rw [wrapU8]
def wordsC (hw : Nat -> Nat) : List Value := (List.range 8).map fun k => .int .u32 (hw k : Int)
theorem noTabs [Sg] : TabsOk ({} : Tabs) := ⟨fun _ h => (by cases h), fun _ h => (by cases h), fun _ h => (by cases h), fun _ h => (by cases h), fun _ h => (by cases h), fun _ h => (by cases h), fun _ h => (by cases h)⟩
theorem eShaS [Sg] {S : Syms} (hS : SymsOk Tryz.prog S) : EnvOk Tryz.prog (envOfS S []) := envS_ok hS
def bF (hw : Nat -> Nat) (i : Nat) : UInt8 := UInt8.ofNat (hw (i / 4) / 2 ^ (24 - i % 4 * 8))
def tF (hw : Nat -> Nat) (k : Nat) : List UInt8 := (List.range k).map (bF hw)
def vF (hw : Nat -> Nat) (i : Nat) : Value :=
 if i < 10 then .int .u32 (hw i : Int) else if i < 50 then .int .u32 ((hw ((i - 10) / 4) / 2 ^ (24 - (i - 10) % 4 * 8) : Nat) : Int) else if i < 90 then .int .u8 ((hw ((i - 50) / 4) / 2 ^ (24 - (i - 50) % 4 * 8) % 256 : Nat) : Int)
 else if i < 130 then str [bF hw (i - 90)] else str (tF hw (i - 130))
theorem vF_is (hw : Nat -> Nat) (i : Nat) : isIS (vF hw i) = true := by
 unfold vF; split
 ·
  rfl
 ·
  split
  ·
   rfl
  ·
   split
   ·
    rfl
   ·
    split <;> rfl
theorem vF0 (hw : Nat -> Nat) {i : Nat} (h : i < 10) : vF hw i = .int .u32 (hw i : Int) := by unfold vF; rw [if_pos h]
theorem vF10 (hw : Nat -> Nat) {i : Nat} (h : i < 40) : vF hw (10 + i) = .int .u32 ((hw (i / 4) / 2 ^ (24 - i % 4 * 8) : Nat) : Int) := by
 unfold vF; rw [if_neg (by omega), if_pos (by omega), Nat.add_sub_cancel_left]
theorem vF50 (hw : Nat -> Nat) {i : Nat} (h : i < 40) : vF hw (50 + i) = .int .u8 ((hw (i / 4) / 2 ^ (24 - i % 4 * 8) % 256 : Nat) : Int) := by
 unfold vF; rw [if_neg (by omega), if_neg (by omega), if_pos (by omega), Nat.add_sub_cancel_left]
theorem vF130 (hw : Nat -> Nat) (i : Nat) : vF hw (130 + i) = str (tF hw i) := by
 unfold vF; rw [if_neg (by omega), if_neg (by omega), if_neg (by omega), if_neg (by omega), Nat.add_sub_cancel_left]
end
end Go.Proofs
