/- strings.IndexFunc at digits, with vfs.Path's function value. -/
import Derived.Test.YthnojgpobfpgeaaGreatDoorProg
import Derived.Tactics
import Derived.Tactics2
import Derived.StillTactics
import Derived.Laws.Runes
import Derived.Laws.Strings
import Derived.Laws.Strings2
import Derived.Laws.Strings3
import Derived.Laws.RangeString
import Derived.Laws.RangeAny
import Derived.Laws.Sem
import Derived.Laws.Small
import Derived.Laws.World
import Derived.Scope
import Derived.FnLit
import Derived.LoopTactic
import Derived.LoopN
import Derived.Below
import Derived.WalkKit
import Derived.Lib.OthersKept
import Derived.Lib.Hide
import Derived.Shelf.Abstract
import Derived.Test.YthnojgpobfpgeaaGreatDoorEvTab
import Derived.Test.YthnojgpobfpgeaaGreatDoorTBlob
import Derived.Test.YthnojgpobfpgeaaGreatDoorTBuild
namespace Go.Proofs
open Go.RowKit
def Dig (n : Nat) : Prop := (48 <= n /\ n <= 57) \/ (97 <= n /\ n <= 122)
set_option maxRecDepth 1000000 in
theorem bad_48 (w : World) : Calls Tryz.prog 112 #[.int .i32 48] w fun e w' => e = .returned (.bool false) /\ w' = w := by
 go_enter Tryz.func112, Tryz.ntmps112
 go_wp2
 go_ret
 exact ⟨rfl, rfl⟩
set_option maxRecDepth 1000000 in
theorem bad_49 (w : World) : Calls Tryz.prog 112 #[.int .i32 49] w fun e w' => e = .returned (.bool false) /\ w' = w := by
 go_enter Tryz.func112, Tryz.ntmps112
 go_wp2
 go_ret
 exact ⟨rfl, rfl⟩
set_option maxRecDepth 1000000 in
theorem bad_50 (w : World) : Calls Tryz.prog 112 #[.int .i32 50] w fun e w' => e = .returned (.bool false) /\ w' = w := by
 go_enter Tryz.func112, Tryz.ntmps112
 go_wp2
 go_ret
 exact ⟨rfl, rfl⟩
set_option maxRecDepth 1000000 in
theorem bad_51 (w : World) : Calls Tryz.prog 112 #[.int .i32 51] w fun e w' => e = .returned (.bool false) /\ w' = w := by
 go_enter Tryz.func112, Tryz.ntmps112
 go_wp2
 go_ret
 exact ⟨rfl, rfl⟩
set_option maxRecDepth 1000000 in
theorem bad_52 (w : World) : Calls Tryz.prog 112 #[.int .i32 52] w fun e w' => e = .returned (.bool false) /\ w' = w := by
 go_enter Tryz.func112, Tryz.ntmps112
 go_wp2
 go_ret
 exact ⟨rfl, rfl⟩
set_option maxRecDepth 1000000 in
theorem bad_53 (w : World) : Calls Tryz.prog 112 #[.int .i32 53] w fun e w' => e = .returned (.bool false) /\ w' = w := by
 go_enter Tryz.func112, Tryz.ntmps112
 go_wp2
 go_ret
 exact ⟨rfl, rfl⟩
set_option maxRecDepth 1000000 in
theorem bad_54 (w : World) : Calls Tryz.prog 112 #[.int .i32 54] w fun e w' => e = .returned (.bool false) /\ w' = w := by
 go_enter Tryz.func112, Tryz.ntmps112
 go_wp2
 go_ret
 exact ⟨rfl, rfl⟩
set_option maxRecDepth 1000000 in
theorem bad_55 (w : World) : Calls Tryz.prog 112 #[.int .i32 55] w fun e w' => e = .returned (.bool false) /\ w' = w := by
 go_enter Tryz.func112, Tryz.ntmps112
 go_wp2
 go_ret
 exact ⟨rfl, rfl⟩
set_option maxRecDepth 1000000 in
theorem bad_56 (w : World) : Calls Tryz.prog 112 #[.int .i32 56] w fun e w' => e = .returned (.bool false) /\ w' = w := by
 go_enter Tryz.func112, Tryz.ntmps112
 go_wp2
 go_ret
 exact ⟨rfl, rfl⟩
set_option maxRecDepth 1000000 in
theorem bad_57 (w : World) : Calls Tryz.prog 112 #[.int .i32 57] w fun e w' => e = .returned (.bool false) /\ w' = w := by
 go_enter Tryz.func112, Tryz.ntmps112
 go_wp2
 go_ret
 exact ⟨rfl, rfl⟩
set_option maxRecDepth 1000000 in
theorem bad_97 (w : World) : Calls Tryz.prog 112 #[.int .i32 97] w fun e w' => e = .returned (.bool false) /\ w' = w := by
 go_enter Tryz.func112, Tryz.ntmps112
 go_wp2
 go_ret
 exact ⟨rfl, rfl⟩
set_option maxRecDepth 1000000 in
theorem bad_98 (w : World) : Calls Tryz.prog 112 #[.int .i32 98] w fun e w' => e = .returned (.bool false) /\ w' = w := by
 go_enter Tryz.func112, Tryz.ntmps112
 go_wp2
 go_ret
 exact ⟨rfl, rfl⟩
set_option maxRecDepth 1000000 in
theorem bad_99 (w : World) : Calls Tryz.prog 112 #[.int .i32 99] w fun e w' => e = .returned (.bool false) /\ w' = w := by
 go_enter Tryz.func112, Tryz.ntmps112
 go_wp2
 go_ret
 exact ⟨rfl, rfl⟩
set_option maxRecDepth 1000000 in
theorem bad_100 (w : World) : Calls Tryz.prog 112 #[.int .i32 100] w fun e w' => e = .returned (.bool false) /\ w' = w := by
 go_enter Tryz.func112, Tryz.ntmps112
 go_wp2
 go_ret
 exact ⟨rfl, rfl⟩
set_option maxRecDepth 1000000 in
theorem bad_101 (w : World) : Calls Tryz.prog 112 #[.int .i32 101] w fun e w' => e = .returned (.bool false) /\ w' = w := by
 go_enter Tryz.func112, Tryz.ntmps112
 go_wp2
 go_ret
 exact ⟨rfl, rfl⟩
set_option maxRecDepth 1000000 in
theorem bad_102 (w : World) : Calls Tryz.prog 112 #[.int .i32 102] w fun e w' => e = .returned (.bool false) /\ w' = w := by
 go_enter Tryz.func112, Tryz.ntmps112
 go_wp2
 go_ret
 exact ⟨rfl, rfl⟩
set_option maxRecDepth 1000000 in
theorem bad_103 (w : World) : Calls Tryz.prog 112 #[.int .i32 103] w fun e w' => e = .returned (.bool false) /\ w' = w := by
 go_enter Tryz.func112, Tryz.ntmps112
 go_wp2
 go_ret
 exact ⟨rfl, rfl⟩
set_option maxRecDepth 1000000 in
theorem bad_104 (w : World) : Calls Tryz.prog 112 #[.int .i32 104] w fun e w' => e = .returned (.bool false) /\ w' = w := by
 go_enter Tryz.func112, Tryz.ntmps112
 go_wp2
 go_ret
 exact ⟨rfl, rfl⟩
set_option maxRecDepth 1000000 in
theorem bad_105 (w : World) : Calls Tryz.prog 112 #[.int .i32 105] w fun e w' => e = .returned (.bool false) /\ w' = w := by
 go_enter Tryz.func112, Tryz.ntmps112
 go_wp2
 go_ret
 exact ⟨rfl, rfl⟩
set_option maxRecDepth 1000000 in
theorem bad_106 (w : World) : Calls Tryz.prog 112 #[.int .i32 106] w fun e w' => e = .returned (.bool false) /\ w' = w := by
 go_enter Tryz.func112, Tryz.ntmps112
 go_wp2
 go_ret
 exact ⟨rfl, rfl⟩
set_option maxRecDepth 1000000 in
theorem bad_107 (w : World) : Calls Tryz.prog 112 #[.int .i32 107] w fun e w' => e = .returned (.bool false) /\ w' = w := by
 go_enter Tryz.func112, Tryz.ntmps112
 go_wp2
 go_ret
 exact ⟨rfl, rfl⟩
set_option maxRecDepth 1000000 in
theorem bad_108 (w : World) : Calls Tryz.prog 112 #[.int .i32 108] w fun e w' => e = .returned (.bool false) /\ w' = w := by
 go_enter Tryz.func112, Tryz.ntmps112
 go_wp2
 go_ret
 exact ⟨rfl, rfl⟩
set_option maxRecDepth 1000000 in
theorem bad_109 (w : World) : Calls Tryz.prog 112 #[.int .i32 109] w fun e w' => e = .returned (.bool false) /\ w' = w := by
 go_enter Tryz.func112, Tryz.ntmps112
 go_wp2
 go_ret
 exact ⟨rfl, rfl⟩
set_option maxRecDepth 1000000 in
theorem bad_110 (w : World) : Calls Tryz.prog 112 #[.int .i32 110] w fun e w' => e = .returned (.bool false) /\ w' = w := by
 go_enter Tryz.func112, Tryz.ntmps112
 go_wp2
 go_ret
 exact ⟨rfl, rfl⟩
set_option maxRecDepth 1000000 in
theorem bad_111 (w : World) : Calls Tryz.prog 112 #[.int .i32 111] w fun e w' => e = .returned (.bool false) /\ w' = w := by
 go_enter Tryz.func112, Tryz.ntmps112
 go_wp2
 go_ret
 exact ⟨rfl, rfl⟩
set_option maxRecDepth 1000000 in
theorem bad_112 (w : World) : Calls Tryz.prog 112 #[.int .i32 112] w fun e w' => e = .returned (.bool false) /\ w' = w := by
 go_enter Tryz.func112, Tryz.ntmps112
 go_wp2
 go_ret
 exact ⟨rfl, rfl⟩
set_option maxRecDepth 1000000 in
theorem bad_113 (w : World) : Calls Tryz.prog 112 #[.int .i32 113] w fun e w' => e = .returned (.bool false) /\ w' = w := by
 go_enter Tryz.func112, Tryz.ntmps112
 go_wp2
 go_ret
 exact ⟨rfl, rfl⟩
set_option maxRecDepth 1000000 in
theorem bad_114 (w : World) : Calls Tryz.prog 112 #[.int .i32 114] w fun e w' => e = .returned (.bool false) /\ w' = w := by
 go_enter Tryz.func112, Tryz.ntmps112
 go_wp2
 go_ret
 exact ⟨rfl, rfl⟩
set_option maxRecDepth 1000000 in
theorem bad_115 (w : World) : Calls Tryz.prog 112 #[.int .i32 115] w fun e w' => e = .returned (.bool false) /\ w' = w := by
 go_enter Tryz.func112, Tryz.ntmps112
 go_wp2
 go_ret
 exact ⟨rfl, rfl⟩
set_option maxRecDepth 1000000 in
theorem bad_116 (w : World) : Calls Tryz.prog 112 #[.int .i32 116] w fun e w' => e = .returned (.bool false) /\ w' = w := by
 go_enter Tryz.func112, Tryz.ntmps112
 go_wp2
 go_ret
 exact ⟨rfl, rfl⟩
set_option maxRecDepth 1000000 in
theorem bad_117 (w : World) : Calls Tryz.prog 112 #[.int .i32 117] w fun e w' => e = .returned (.bool false) /\ w' = w := by
 go_enter Tryz.func112, Tryz.ntmps112
 go_wp2
 go_ret
 exact ⟨rfl, rfl⟩
set_option maxRecDepth 1000000 in
theorem bad_118 (w : World) : Calls Tryz.prog 112 #[.int .i32 118] w fun e w' => e = .returned (.bool false) /\ w' = w := by
 go_enter Tryz.func112, Tryz.ntmps112
 go_wp2
 go_ret
 exact ⟨rfl, rfl⟩
set_option maxRecDepth 1000000 in
theorem bad_119 (w : World) : Calls Tryz.prog 112 #[.int .i32 119] w fun e w' => e = .returned (.bool false) /\ w' = w := by
 go_enter Tryz.func112, Tryz.ntmps112
 go_wp2
 go_ret
 exact ⟨rfl, rfl⟩
set_option maxRecDepth 1000000 in
theorem bad_120 (w : World) : Calls Tryz.prog 112 #[.int .i32 120] w fun e w' => e = .returned (.bool false) /\ w' = w := by
 go_enter Tryz.func112, Tryz.ntmps112
 go_wp2
 go_ret
 exact ⟨rfl, rfl⟩
set_option maxRecDepth 1000000 in
theorem bad_121 (w : World) : Calls Tryz.prog 112 #[.int .i32 121] w fun e w' => e = .returned (.bool false) /\ w' = w := by
 go_enter Tryz.func112, Tryz.ntmps112
 go_wp2
 go_ret
 exact ⟨rfl, rfl⟩
set_option maxRecDepth 1000000 in
theorem bad_122 (w : World) : Calls Tryz.prog 112 #[.int .i32 122] w fun e w' => e = .returned (.bool false) /\ w' = w := by
 go_enter Tryz.func112, Tryz.ntmps112
 go_wp2
 go_ret
 exact ⟨rfl, rfl⟩
theorem badA {n : Nat} (h1 : 48 <= n) (h2 : n <= 57) (w : World) : Calls Tryz.prog 112 #[.int .i32 n] w fun e w' => e = .returned (.bool false) /\ w' = w := by
 have h : n = 48 \/ n = 49 \/ n = 50 \/ n = 51 \/ n = 52 \/ n = 53 \/ n = 54 \/ n = 55 \/ n = 56 \/ n = 57 := by omega
 rcases h with rfl | rfl | rfl | rfl | rfl | rfl | rfl | rfl | rfl | rfl
 ·
  exact bad_48 w
 ·
  exact bad_49 w
 ·
  exact bad_50 w
 ·
  exact bad_51 w
 ·
  exact bad_52 w
 ·
  exact bad_53 w
 ·
  exact bad_54 w
 ·
  exact bad_55 w
 ·
  exact bad_56 w
 ·
  exact bad_57 w
theorem badB {n : Nat} (h1 : 97 <= n) (h2 : n <= 109) (w : World) : Calls Tryz.prog 112 #[.int .i32 n] w fun e w' => e = .returned (.bool false) /\ w' = w := by
 have h : n = 97 \/ n = 98 \/ n = 99 \/ n = 100 \/ n = 101 \/ n = 102 \/ n = 103 \/ n = 104 \/ n = 105 \/ n = 106 \/ n = 107 \/ n = 108 \/ n = 109 := by omega
 rcases h with rfl | rfl | rfl | rfl | rfl | rfl | rfl | rfl | rfl | rfl | rfl | rfl | rfl
 ·
  exact bad_97 w
 ·
  exact bad_98 w
 ·
  exact bad_99 w
 ·
  exact bad_100 w
 ·
  exact bad_101 w
 ·
  exact bad_102 w
 ·
  exact bad_103 w
 ·
  exact bad_104 w
 ·
  exact bad_105 w
 ·
  exact bad_106 w
 ·
  exact bad_107 w
 ·
  exact bad_108 w
 ·
  exact bad_109 w
theorem badC {n : Nat} (h1 : 110 <= n) (h2 : n <= 122) (w : World) : Calls Tryz.prog 112 #[.int .i32 n] w fun e w' => e = .returned (.bool false) /\ w' = w := by
 have h : n = 110 \/ n = 111 \/ n = 112 \/ n = 113 \/ n = 114 \/ n = 115 \/ n = 116 \/ n = 117 \/ n = 118 \/ n = 119 \/ n = 120 \/ n = 121 \/ n = 122 := by omega
 rcases h with rfl | rfl | rfl | rfl | rfl | rfl | rfl | rfl | rfl | rfl | rfl | rfl | rfl
 ·
  exact bad_110 w
 ·
  exact bad_111 w
 ·
  exact bad_112 w
 ·
  exact bad_113 w
 ·
  exact bad_114 w
 ·
  exact bad_115 w
 ·
  exact bad_116 w
 ·
  exact bad_117 w
 ·
  exact bad_118 w
 ·
  exact bad_119 w
 ·
  exact bad_120 w
 ·
  exact bad_121 w
 ·
  exact bad_122 w
theorem bad_calls {n : Nat} (h : Dig n) (w : World) : Calls Tryz.prog 112 #[.int .i32 n] w fun e w' => e = .returned (.bool false) /\ w' = w := by
 unfold Dig at h
 rcases h with h | h
 ·
  exact badA h.1 h.2 w
 ·
  by_cases h3 : n <= 109
  ·
   exact badB h.1 h3 w
  ·
   exact badC (by omega) h.2 w
end Go.Proofs
namespace Go.Proofs
open Go.RowKit
set_option maxHeartbeats 2000000 in
set_option maxRecDepth 1000000 in
theorem idxF_calls (s : ByteArray) (hs : ∀ (i : Nat) (h : i < s.size), Dig (s[i]'h).toNat) (w : World) :
  Calls Tryz.prog 138 #[.string s, .func (.func 112) #[] #[], .bool true] w fun e w' => e = .returned (.int .i64 (-1)) /\ w' = w.iter s s.size := by
 go_enter Tryz.func138, Tryz.ntmps138
 go_wp2
 go_loopw [] (fun w' => ∃ pos : Nat, pos <= s.size /\ w' = w.iter s pos) (fun w' => s.size - w'.iterPos w.heap.size)
 case atStart => exact ⟨0, Nat.zero_le _, rfl⟩
 case round =>
  obtain ⟨pos, hle, rfl⟩ := hrel
  by_cases hp : pos < s.size
  ·
   have hd := hs pos hp
   have ha : (s[pos]'hp).toNat < 128 := by unfold Dig at hd; omega
   have hnx : ∀ ty, (Instr.next (.pointer (some ⟨w.heap.size, 0, none⟩)) true ty).run Tryz.prog (w.iter s pos) = _ := fun ty => run_next_ascii w s pos ty hp ha
   generalize (s[pos]'hp).toNat = n at hnx hd
   have cS := bad_calls hd (w.iter s (pos + 1))
   clear hd ha hs
   go_wp2_with (fail)
   refine cS.mono ?_
   rintro e w' ⟨rfl, rfl⟩
   clear cS hnx
   go_wp2_with (fail)
   go_roundw
   case rel => exact ⟨pos + 1, by omega, rfl⟩
   case measure =>
    simp
    omega
  ·
   have hnx : ∀ ty, (Instr.next (.pointer (some ⟨w.heap.size, 0, none⟩)) true ty).run Tryz.prog (w.iter s pos) = _ := fun ty => run_next_end w s pos ty hp
   go_wp2
   go_ret
   obtain rfl : pos = s.size := by omega
   exact ⟨rfl, rfl⟩
set_option maxRecDepth 1000000 in
theorem indexFunc_calls (s : ByteArray) (hs : ∀ (i : Nat) (h : i < s.size), Dig (s[i]'h).toNat) (w : World) :
  Calls Tryz.prog 113 #[.string s, .func (.func 112) #[] #[]] w fun e w' => e = .returned (.int .i64 (-1)) /\ Below w.heap.size w w' := by
 go_enter Tryz.func113, Tryz.ntmps113
 go_wp2_with (go_at_call 138; refine (idxF_calls s hs _).mono ?_; rintro e w' ⟨rfl, rfl⟩)
 go_ret
 exact ⟨rfl, (Below.refl _ _).alloc (Nat.le_refl _) _⟩
end Go.Proofs
namespace Go.Proofs
open Go.Ev Go.RowKit
abbrev sy (i : Nat) : Value := .float .f64 i
abbrev nat (n : Nat) : Value := .int .i64 (.ofNat n)
def homeL : List UInt8 := [111, 98, 106, 101, 99, 116, 115, 47]
noncomputable def h0L (id : List UInt8) : List UInt8 := hexL (id.take 1)
noncomputable def h1L (id : List UInt8) : List UInt8 := hexL (id.drop 1)
noncomputable def folL (id : List UInt8) : List UInt8 := homeL ++ h0L id
noncomputable def pathL (id : List UInt8) : List UInt8 := folL id ++ [47] ++ h1L id
noncomputable def r31 (room : Int) : Nat := Nat.land (uns .i64 room) 31
structure PrE where
 l : List UInt8
 ex : Nat -> Value
 hex : ∀ n, isIS (ex n) = true
def prN (l : List UInt8) : PrE := ⟨l, fun _ => nat 0, fun _ => rfl⟩
noncomputable def looV (s : ByteArray) (room : Int) (t id : List UInt8) (pr : PrE) : Nat -> Value
 | 0 => .string s
 | 1 => .int .i64 room
 | 2 => nat (r31 room)
 | 3 => str (blobL t)
 | 4 => str id
 | 5 => str (pathL id)
 | 6 => str (folL id)
 | 7 => str pr.l
 | 8 => nat pr.l.length
 | 9 => str (h0L id ++ [47] ++ h1L id)
 | 10 => str (h0L id)
 | 11 => str (h1L id)
 | 12 => str (id.take 1)
 | 13 => str (id.drop 1)
 | 14 => str (folL id ++ [47])
 | 15 => nat (5 + (decF 2 t.length).length)
 | 16 => nat (6 + (decF 2 t.length).length)
 | 17 => str ([98, 108, 111, 98, 32] ++ decF 2 t.length)
 | 18 => str t
 | 19 => str (decF 2 t.length)
 | 20 => .int .u64 (.ofNat t.length)
 | 21 => nat t.length
 | n => pr.ex n
theorem looV_kind (s : ByteArray) (room : Int) (t id : List UInt8) (pr : PrE) (i : Nat) : isIS (looV s room t id pr i) = true := by
 unfold looV
 split <;> first | rfl | exact pr.hex _
noncomputable abbrev looSg (s : ByteArray) (room : Int) (t id : List UInt8) (pr : PrE) : Sg := ⟨looV s room t id pr, looV_kind s room t id pr⟩
theorem same_len {a b : List UInt8} (h : a.length ≠ b.length) : same a b = false := by
 rw [same_eq]
 cases hb : a == b with
 | false => rfl
 | true => rw [beq_iff_eq] at hb; exact absurd (congrArg List.length hb) h
theorem same_refl (l : List UInt8) : same l l = true := by rw [same_eq]; simp
theorem eql_no {a b : List UInt8} (h : a.length ≠ b.length) : scalarOp .eql (str a) (str b) = some (.bool false) := by
 show mkBool (same a b) = _
 rw [same_len h]; rfl
theorem neq_yes {a b : List UInt8} (h : a.length ≠ b.length) : scalarOp .neq (str a) (str b) = some (.bool true) := by
 show mkBool (!(same a b)) = _
 rw [same_len h]; rfl
theorem eql_yes (a : List UInt8) : scalarOp .eql (str a) (str a) = some (.bool true) := by
 show mkBool (same a a) = _
 rw [same_refl]; rfl
theorem add_str {x y : List UInt8} (h : x.length + y.length <= 100000) : scalarOp .add (str x) (str y) = some (str (x ++ y)) := by
 show sAdd x y = _
 unfold sAdd
 have h1 : Nat.ble (Nat.add (lenL x) (lenL y)) 1099511627776 = true := by
  rw [lenL_eq, lenL_eq, Nat.ble_eq]
  show x.length + y.length <= _
  omega
 rw [h1, chk_true, appL_eq]
theorem ofUns_nat {k : Nat} (h : k <= 1000000) : ofUns .i64 k = .ofNat k := by
 have hb : Nat.ble 9223372036854775808 k = false := by
  cases hb : Nat.ble 9223372036854775808 k with
  | false => rfl
  | true => have := Nat.le_of_ble_eq_true hb; omega
 show ifB true (ifB (Nat.ble 9223372036854775808 k) _ _) _ = _
 rw [hb]; rfl
theorem wInt_nat {k : Nat} (h : k <= 1000000) : wInt .i64 (.ofNat k) = some (nat k) := by
 have hu : uns .i64 (.ofNat k) = k := Nat.mod_eq_of_lt (by show k < 18446744073709551616; omega)
 unfold wInt wrapF
 rw [hu, ofUns_nat h, mkInt_eq]
theorem add_nat {a b : Nat} (h : a + b <= 100000) : scalarOp .add (nat a) (nat b) = some (nat (a + b)) := wInt_nat (k := a + b) (by omega)
theorem cutHi {l : List UInt8} {n : Nat} (h : n <= l.length) : scalarSlice (str l) none (some (nat n)) = some (str (l.take n)) := by
 show bnd (bound (some (nat n)) (lenL l) (lenL l)) (fun h => bnd (bound none h 0) fun m => some (str (dropL m (takeL h l)))) = _
 have h1 : bound (some (nat n)) (lenL l) (lenL l) = some n := by
  show chk (Nat.ble n (lenL l)) (some n) = _
  have : Nat.ble n (lenL l) = true := by rw [lenL_eq, Nat.ble_eq]; omega
  rw [this, chk_true]
 rw [h1, bnd_some]
 show some (str (dropL 0 (takeL n l))) = _
 rw [dropL_eq, takeL_eq, List.drop_zero]
theorem cutLo {l : List UInt8} {n : Nat} (h : n <= l.length) : scalarSlice (str l) (some (nat n)) none = some (str (l.drop n)) := by
 show bnd (bound none (lenL l) (lenL l)) (fun h => bnd (bound (some (nat n)) h 0) fun m => some (str (dropL m (takeL h l)))) = _
 have h0 : bound none (lenL l) (lenL l) = some (lenL l) := rfl
 rw [h0, bnd_some]
 have h1 : bound (some (nat n)) (lenL l) 0 = some n := by
  show chk (Nat.ble n (lenL l)) (some n) = _
  have : Nat.ble n (lenL l) = true := by rw [lenL_eq, Nat.ble_eq]; omega
  rw [this, chk_true]
 rw [h1, bnd_some, dropL_eq, takeL_eq, lenL_eq, List.take_length]
theorem h0L_len {id : List UInt8} (h : id.length = 32) : (h0L id).length = 2 := by unfold h0L; rw [hexL_length, List.length_take]; omega
theorem h1L_len {id : List UInt8} (h : id.length = 32) : (h1L id).length = 62 := by unfold h1L; rw [hexL_length, List.length_drop]; omega
theorem folL_len {id : List UInt8} (h : id.length = 32) : (folL id).length = 10 := by unfold folL; rw [List.length_append, h0L_len h]; rfl
theorem pathL_len {id : List UInt8} (h : id.length = 32) : (pathL id).length = 73 := by unfold pathL; rw [List.length_append, List.length_append, folL_len h, h1L_len h]; rfl
theorem blobL_len (t : List UInt8) (h : t.length <= 200) : (blobL t).length <= 210 := by
 have := decF_len 2 t.length
 unfold blobL
 simp only [List.length_append, List.length_cons, List.length_nil]
 omega
theorem digL_dig {n : Nat} (h : n < 16) : Dig (digL n).toNat := by
 unfold digL Dig
 split
 ·
  left
  show 48 <= (48 + n) % 256 /\ (48 + n) % 256 <= 57
  omega
 ·
  right
  show 97 <= (87 + n) % 256 /\ (87 + n) % 256 <= 122
  omega
theorem hexL_dig (l : List UInt8) : ∀ c ∈ hexL l, Dig c.toNat := by
 intro c hc
 unfold hexL at hc
 obtain ⟨b, _, hb⟩ := List.mem_flatMap.1 hc
 have := b.toNat_lt
 rcases List.mem_cons.1 hb with rfl | hb
 ·
  exact digL_dig (by omega)
 ·
  rcases List.mem_cons.1 hb with rfl | hb
  ·
   exact digL_dig (by omega)
  ·
   cases hb
theorem digs_at {l : List UInt8} (h : ∀ c ∈ l, Dig c.toNat) (i : Nat) (hi : i < (⟨⟨l⟩⟩ : ByteArray).size) : Dig ((⟨⟨l⟩⟩ : ByteArray)[i]'hi).toNat := h _ (by
 show l[i] ∈ l
 exact List.getElem_mem _)
theorem idx_at {c : UInt8} : ∀ {l m : List UInt8}, (∀ a ∈ l, a ≠ c) -> Lib.indexByte (l ++ c :: m) c = (l.length : Int)
 | [], m, _ => by
  show Lib.indexByte (c :: m) c = _
  unfold Lib.indexByte
  simp
 | b :: l, m, h => by
  have hb : (b == c) = false := by
   cases hq : b == c with
   | false => rfl
   | true => exact absurd (beq_iff_eq.1 hq) (h b (by simp))
  have e := idx_at (l := l) (m := m) fun a ha => h a (List.mem_cons_of_mem _ ha)
  show Lib.indexByte (b :: (l ++ c :: m)) c = _
  unfold Lib.indexByte
  rw [hb, e]
  have h2 : ((l.length : Int) == -1) = false := by
   cases hq : ((l.length : Int) == -1) with
   | false => rfl
   | true => rw [beq_iff_eq] at hq; omega
  rw [h2]
  simp
theorem dig_ne {l : List UInt8} {c : UInt8} (h : ∀ a ∈ l, Dig a.toNat) (hc : c.toNat < 48) : ∀ a ∈ l, a ≠ c := by
 rintro a ha rfl
 have := h a ha
 unfold Dig at this
 omega
theorem count_no {c : UInt8} {l : List UInt8} (h : ∀ a ∈ l, a ≠ c) : l.count c = 0 := by
 rw [List.count_eq_zero]
 intro hc
 exact h c hc rfl
end Go.Proofs
