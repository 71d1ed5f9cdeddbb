/- strings.IndexFunc at digits, with vfs.Path's function value. -/
import Derived.Test.YthnojgpobfpgeaaGreatDoorProg
import Derived.Tactics
import Derived.Tactics2
import Derived.StillTactics
import Derived.Laws.Runes
import Derived.Laws.Strings
import Derived.Laws.Strings2
import Derived.Laws.Strings3
import Derived.Laws.RangeString
import Derived.Laws.RangeAny
import Derived.Laws.Sem
import Derived.Laws.Small
import Derived.Laws.World
import Derived.Scope
import Derived.FnLit
import Derived.LoopTactic
import Derived.LoopN
import Derived.Below
import Derived.WalkKit
import Derived.Lib.OthersKept
import Derived.Lib.Hide
import Derived.Shelf.Abstract
/-! strings.IndexFunc at digits, with vfs.Path's function value. -/
namespace Go.Proofs
open Go.RowKit

/-- A digit, or a small letter. -/
def Dig (n : Nat) : Prop := (48 ≤ n ∧ n ≤ 57) ∨ (97 ≤ n ∧ n ≤ 122)

set_option maxRecDepth 1000000 in
theorem bad_48 (w : World) : Calls Tryz.prog 112 #[.int .i32 48] w fun e w' => e = .returned (.bool false) ∧ w' = w := by
 go_enter Tryz.func112, Tryz.ntmps112
 go_wp2
 go_ret
 exact ⟨rfl, rfl⟩
set_option maxRecDepth 1000000 in
theorem bad_49 (w : World) : Calls Tryz.prog 112 #[.int .i32 49] w fun e w' => e = .returned (.bool false) ∧ w' = w := by
 go_enter Tryz.func112, Tryz.ntmps112
 go_wp2
 go_ret
 exact ⟨rfl, rfl⟩
set_option maxRecDepth 1000000 in
theorem bad_50 (w : World) : Calls Tryz.prog 112 #[.int .i32 50] w fun e w' => e = .returned (.bool false) ∧ w' = w := by
 go_enter Tryz.func112, Tryz.ntmps112
 go_wp2
 go_ret
 exact ⟨rfl, rfl⟩
set_option maxRecDepth 1000000 in
theorem bad_51 (w : World) : Calls Tryz.prog 112 #[.int .i32 51] w fun e w' => e = .returned (.bool false) ∧ w' = w := by
 go_enter Tryz.func112, Tryz.ntmps112
 go_wp2
 go_ret
 exact ⟨rfl, rfl⟩
set_option maxRecDepth 1000000 in
theorem bad_52 (w : World) : Calls Tryz.prog 112 #[.int .i32 52] w fun e w' => e = .returned (.bool false) ∧ w' = w := by
 go_enter Tryz.func112, Tryz.ntmps112
 go_wp2
 go_ret
 exact ⟨rfl, rfl⟩
set_option maxRecDepth 1000000 in
theorem bad_53 (w : World) : Calls Tryz.prog 112 #[.int .i32 53] w fun e w' => e = .returned (.bool false) ∧ w' = w := by
 go_enter Tryz.func112, Tryz.ntmps112
 go_wp2
 go_ret
 exact ⟨rfl, rfl⟩
set_option maxRecDepth 1000000 in
theorem bad_54 (w : World) : Calls Tryz.prog 112 #[.int .i32 54] w fun e w' => e = .returned (.bool false) ∧ w' = w := by
 go_enter Tryz.func112, Tryz.ntmps112
 go_wp2
 go_ret
 exact ⟨rfl, rfl⟩
set_option maxRecDepth 1000000 in
theorem bad_55 (w : World) : Calls Tryz.prog 112 #[.int .i32 55] w fun e w' => e = .returned (.bool false) ∧ w' = w := by
 go_enter Tryz.func112, Tryz.ntmps112
 go_wp2
 go_ret
 exact ⟨rfl, rfl⟩
set_option maxRecDepth 1000000 in
theorem bad_56 (w : World) : Calls Tryz.prog 112 #[.int .i32 56] w fun e w' => e = .returned (.bool false) ∧ w' = w := by
 go_enter Tryz.func112, Tryz.ntmps112
 go_wp2
 go_ret
 exact ⟨rfl, rfl⟩
set_option maxRecDepth 1000000 in
theorem bad_57 (w : World) : Calls Tryz.prog 112 #[.int .i32 57] w fun e w' => e = .returned (.bool false) ∧ w' = w := by
 go_enter Tryz.func112, Tryz.ntmps112
 go_wp2
 go_ret
 exact ⟨rfl, rfl⟩
set_option maxRecDepth 1000000 in
theorem bad_97 (w : World) : Calls Tryz.prog 112 #[.int .i32 97] w fun e w' => e = .returned (.bool false) ∧ w' = w := by
 go_enter Tryz.func112, Tryz.ntmps112
 go_wp2
 go_ret
 exact ⟨rfl, rfl⟩
set_option maxRecDepth 1000000 in
theorem bad_98 (w : World) : Calls Tryz.prog 112 #[.int .i32 98] w fun e w' => e = .returned (.bool false) ∧ w' = w := by
 go_enter Tryz.func112, Tryz.ntmps112
 go_wp2
 go_ret
 exact ⟨rfl, rfl⟩
set_option maxRecDepth 1000000 in
theorem bad_99 (w : World) : Calls Tryz.prog 112 #[.int .i32 99] w fun e w' => e = .returned (.bool false) ∧ w' = w := by
 go_enter Tryz.func112, Tryz.ntmps112
 go_wp2
 go_ret
 exact ⟨rfl, rfl⟩
set_option maxRecDepth 1000000 in
theorem bad_100 (w : World) : Calls Tryz.prog 112 #[.int .i32 100] w fun e w' => e = .returned (.bool false) ∧ w' = w := by
 go_enter Tryz.func112, Tryz.ntmps112
 go_wp2
 go_ret
 exact ⟨rfl, rfl⟩
set_option maxRecDepth 1000000 in
theorem bad_101 (w : World) : Calls Tryz.prog 112 #[.int .i32 101] w fun e w' => e = .returned (.bool false) ∧ w' = w := by
 go_enter Tryz.func112, Tryz.ntmps112
 go_wp2
 go_ret
 exact ⟨rfl, rfl⟩
set_option maxRecDepth 1000000 in
theorem bad_102 (w : World) : Calls Tryz.prog 112 #[.int .i32 102] w fun e w' => e = .returned (.bool false) ∧ w' = w := by
 go_enter Tryz.func112, Tryz.ntmps112
 go_wp2
 go_ret
 exact ⟨rfl, rfl⟩
set_option maxRecDepth 1000000 in
theorem bad_103 (w : World) : Calls Tryz.prog 112 #[.int .i32 103] w fun e w' => e = .returned (.bool false) ∧ w' = w := by
 go_enter Tryz.func112, Tryz.ntmps112
 go_wp2
 go_ret
 exact ⟨rfl, rfl⟩
set_option maxRecDepth 1000000 in
theorem bad_104 (w : World) : Calls Tryz.prog 112 #[.int .i32 104] w fun e w' => e = .returned (.bool false) ∧ w' = w := by
 go_enter Tryz.func112, Tryz.ntmps112
 go_wp2
 go_ret
 exact ⟨rfl, rfl⟩
set_option maxRecDepth 1000000 in
theorem bad_105 (w : World) : Calls Tryz.prog 112 #[.int .i32 105] w fun e w' => e = .returned (.bool false) ∧ w' = w := by
 go_enter Tryz.func112, Tryz.ntmps112
 go_wp2
 go_ret
 exact ⟨rfl, rfl⟩
set_option maxRecDepth 1000000 in
theorem bad_106 (w : World) : Calls Tryz.prog 112 #[.int .i32 106] w fun e w' => e = .returned (.bool false) ∧ w' = w := by
 go_enter Tryz.func112, Tryz.ntmps112
 go_wp2
 go_ret
 exact ⟨rfl, rfl⟩
set_option maxRecDepth 1000000 in
theorem bad_107 (w : World) : Calls Tryz.prog 112 #[.int .i32 107] w fun e w' => e = .returned (.bool false) ∧ w' = w := by
 go_enter Tryz.func112, Tryz.ntmps112
 go_wp2
 go_ret
 exact ⟨rfl, rfl⟩
set_option maxRecDepth 1000000 in
theorem bad_108 (w : World) : Calls Tryz.prog 112 #[.int .i32 108] w fun e w' => e = .returned (.bool false) ∧ w' = w := by
 go_enter Tryz.func112, Tryz.ntmps112
 go_wp2
 go_ret
 exact ⟨rfl, rfl⟩
set_option maxRecDepth 1000000 in
theorem bad_109 (w : World) : Calls Tryz.prog 112 #[.int .i32 109] w fun e w' => e = .returned (.bool false) ∧ w' = w := by
 go_enter Tryz.func112, Tryz.ntmps112
 go_wp2
 go_ret
 exact ⟨rfl, rfl⟩
set_option maxRecDepth 1000000 in
theorem bad_110 (w : World) : Calls Tryz.prog 112 #[.int .i32 110] w fun e w' => e = .returned (.bool false) ∧ w' = w := by
 go_enter Tryz.func112, Tryz.ntmps112
 go_wp2
 go_ret
 exact ⟨rfl, rfl⟩
set_option maxRecDepth 1000000 in
theorem bad_111 (w : World) : Calls Tryz.prog 112 #[.int .i32 111] w fun e w' => e = .returned (.bool false) ∧ w' = w := by
 go_enter Tryz.func112, Tryz.ntmps112
 go_wp2
 go_ret
 exact ⟨rfl, rfl⟩
set_option maxRecDepth 1000000 in
theorem bad_112 (w : World) : Calls Tryz.prog 112 #[.int .i32 112] w fun e w' => e = .returned (.bool false) ∧ w' = w := by
 go_enter Tryz.func112, Tryz.ntmps112
 go_wp2
 go_ret
 exact ⟨rfl, rfl⟩
set_option maxRecDepth 1000000 in
theorem bad_113 (w : World) : Calls Tryz.prog 112 #[.int .i32 113] w fun e w' => e = .returned (.bool false) ∧ w' = w := by
 go_enter Tryz.func112, Tryz.ntmps112
 go_wp2
 go_ret
 exact ⟨rfl, rfl⟩
set_option maxRecDepth 1000000 in
theorem bad_114 (w : World) : Calls Tryz.prog 112 #[.int .i32 114] w fun e w' => e = .returned (.bool false) ∧ w' = w := by
 go_enter Tryz.func112, Tryz.ntmps112
 go_wp2
 go_ret
 exact ⟨rfl, rfl⟩
set_option maxRecDepth 1000000 in
theorem bad_115 (w : World) : Calls Tryz.prog 112 #[.int .i32 115] w fun e w' => e = .returned (.bool false) ∧ w' = w := by
 go_enter Tryz.func112, Tryz.ntmps112
 go_wp2
 go_ret
 exact ⟨rfl, rfl⟩
set_option maxRecDepth 1000000 in
theorem bad_116 (w : World) : Calls Tryz.prog 112 #[.int .i32 116] w fun e w' => e = .returned (.bool false) ∧ w' = w := by
 go_enter Tryz.func112, Tryz.ntmps112
 go_wp2
 go_ret
 exact ⟨rfl, rfl⟩
set_option maxRecDepth 1000000 in
theorem bad_117 (w : World) : Calls Tryz.prog 112 #[.int .i32 117] w fun e w' => e = .returned (.bool false) ∧ w' = w := by
 go_enter Tryz.func112, Tryz.ntmps112
 go_wp2
 go_ret
 exact ⟨rfl, rfl⟩
set_option maxRecDepth 1000000 in
theorem bad_118 (w : World) : Calls Tryz.prog 112 #[.int .i32 118] w fun e w' => e = .returned (.bool false) ∧ w' = w := by
 go_enter Tryz.func112, Tryz.ntmps112
 go_wp2
 go_ret
 exact ⟨rfl, rfl⟩
set_option maxRecDepth 1000000 in
theorem bad_119 (w : World) : Calls Tryz.prog 112 #[.int .i32 119] w fun e w' => e = .returned (.bool false) ∧ w' = w := by
 go_enter Tryz.func112, Tryz.ntmps112
 go_wp2
 go_ret
 exact ⟨rfl, rfl⟩
set_option maxRecDepth 1000000 in
theorem bad_120 (w : World) : Calls Tryz.prog 112 #[.int .i32 120] w fun e w' => e = .returned (.bool false) ∧ w' = w := by
 go_enter Tryz.func112, Tryz.ntmps112
 go_wp2
 go_ret
 exact ⟨rfl, rfl⟩
set_option maxRecDepth 1000000 in
theorem bad_121 (w : World) : Calls Tryz.prog 112 #[.int .i32 121] w fun e w' => e = .returned (.bool false) ∧ w' = w := by
 go_enter Tryz.func112, Tryz.ntmps112
 go_wp2
 go_ret
 exact ⟨rfl, rfl⟩
set_option maxRecDepth 1000000 in
theorem bad_122 (w : World) : Calls Tryz.prog 112 #[.int .i32 122] w fun e w' => e = .returned (.bool false) ∧ w' = w := by
 go_enter Tryz.func112, Tryz.ntmps112
 go_wp2
 go_ret
 exact ⟨rfl, rfl⟩
theorem badA {n : Nat} (h1 : 48 ≤ n) (h2 : n ≤ 57) (w : World) : Calls Tryz.prog 112 #[.int .i32 n] w fun e w' => e = .returned (.bool false) ∧ w' = w := by
 have h : n = 48 ∨ n = 49 ∨ n = 50 ∨ n = 51 ∨ n = 52 ∨ n = 53 ∨ n = 54 ∨ n = 55 ∨ n = 56 ∨ n = 57 := by omega
 rcases h with rfl | rfl | rfl | rfl | rfl | rfl | rfl | rfl | rfl | rfl
 ·
  exact bad_48 w
 ·
  exact bad_49 w
 ·
  exact bad_50 w
 ·
  exact bad_51 w
 ·
  exact bad_52 w
 ·
  exact bad_53 w
 ·
  exact bad_54 w
 ·
  exact bad_55 w
 ·
  exact bad_56 w
 ·
  exact bad_57 w
theorem badB {n : Nat} (h1 : 97 ≤ n) (h2 : n ≤ 109) (w : World) : Calls Tryz.prog 112 #[.int .i32 n] w fun e w' => e = .returned (.bool false) ∧ w' = w := by
 have h : n = 97 ∨ n = 98 ∨ n = 99 ∨ n = 100 ∨ n = 101 ∨ n = 102 ∨ n = 103 ∨ n = 104 ∨ n = 105 ∨ n = 106 ∨ n = 107 ∨ n = 108 ∨ n = 109 := by omega
 rcases h with rfl | rfl | rfl | rfl | rfl | rfl | rfl | rfl | rfl | rfl | rfl | rfl | rfl
 ·
  exact bad_97 w
 ·
  exact bad_98 w
 ·
  exact bad_99 w
 ·
  exact bad_100 w
 ·
  exact bad_101 w
 ·
  exact bad_102 w
 ·
  exact bad_103 w
 ·
  exact bad_104 w
 ·
  exact bad_105 w
 ·
  exact bad_106 w
 ·
  exact bad_107 w
 ·
  exact bad_108 w
 ·
  exact bad_109 w
theorem badC {n : Nat} (h1 : 110 ≤ n) (h2 : n ≤ 122) (w : World) : Calls Tryz.prog 112 #[.int .i32 n] w fun e w' => e = .returned (.bool false) ∧ w' = w := by
 have h : n = 110 ∨ n = 111 ∨ n = 112 ∨ n = 113 ∨ n = 114 ∨ n = 115 ∨ n = 116 ∨ n = 117 ∨ n = 118 ∨ n = 119 ∨ n = 120 ∨ n = 121 ∨ n = 122 := by omega
 rcases h with rfl | rfl | rfl | rfl | rfl | rfl | rfl | rfl | rfl | rfl | rfl | rfl | rfl
 ·
  exact bad_110 w
 ·
  exact bad_111 w
 ·
  exact bad_112 w
 ·
  exact bad_113 w
 ·
  exact bad_114 w
 ·
  exact bad_115 w
 ·
  exact bad_116 w
 ·
  exact bad_117 w
 ·
  exact bad_118 w
 ·
  exact bad_119 w
 ·
  exact bad_120 w
 ·
  exact bad_121 w
 ·
  exact bad_122 w
theorem bad_calls {n : Nat} (h : Dig n) (w : World) : Calls Tryz.prog 112 #[.int .i32 n] w fun e w' => e = .returned (.bool false) ∧ w' = w := by
 unfold Dig at h
 rcases h with h | h
 ·
  exact badA h.1 h.2 w
 ·
  by_cases h3 : n ≤ 109
  ·
   exact badB h.1 h3 w
  ·
   exact badC (by omega) h.2 w
end Go.Proofs

namespace Go.Proofs
open Go.RowKit
set_option maxHeartbeats 2000000 in
set_option maxRecDepth 1000000 in
theorem idxF_calls (s : ByteArray) (hs : ∀ (i : Nat) (h : i < s.size), Dig (s[i]'h).toNat) (w : World) :
  Calls Tryz.prog 138 #[.string s, .func (.func 112) #[] #[], .bool true] w fun e w' => e = .returned (.int .i64 (-1)) ∧ w' = w.iter s s.size := by
 go_enter Tryz.func138, Tryz.ntmps138
 go_wp2
 go_loopw [] (fun w' => ∃ pos : Nat, pos ≤ s.size ∧ w' = w.iter s pos) (fun w' => s.size - w'.iterPos w.heap.size)
 case atStart => exact ⟨0, Nat.zero_le _, rfl⟩
 case round =>
  obtain ⟨pos, hle, rfl⟩ := hrel
  by_cases hp : pos < s.size
  ·
   have hd := hs pos hp
   have ha : (s[pos]'hp).toNat < 128 := by unfold Dig at hd; omega
   have hnx : ∀ ty, (Instr.next (.pointer (some ⟨w.heap.size, 0, none⟩)) true ty).run Tryz.prog (w.iter s pos) = _ := fun ty => run_next_ascii w s pos ty hp ha
   generalize (s[pos]'hp).toNat = n at hnx hd
   have cS := bad_calls hd (w.iter s (pos + 1))
   clear hd ha hs
   go_wp2_with (fail)
   refine cS.mono ?_
   rintro e w' ⟨rfl, rfl⟩
   clear cS hnx
   go_wp2_with (fail)
   go_roundw
   case rel => exact ⟨pos + 1, by omega, rfl⟩
   case measure =>
    simp
    omega
  ·
   have hnx : ∀ ty, (Instr.next (.pointer (some ⟨w.heap.size, 0, none⟩)) true ty).run Tryz.prog (w.iter s pos) = _ := fun ty => run_next_end w s pos ty hp
   go_wp2
   go_ret
   obtain rfl : pos = s.size := by omega
   exact ⟨rfl, rfl⟩

set_option maxRecDepth 1000000 in
theorem indexFunc_calls (s : ByteArray) (hs : ∀ (i : Nat) (h : i < s.size), Dig (s[i]'h).toNat) (w : World) :
  Calls Tryz.prog 113 #[.string s, .func (.func 112) #[] #[]] w fun e w' => e = .returned (.int .i64 (-1)) ∧ Below w.heap.size w w' := by
 go_enter Tryz.func113, Tryz.ntmps113
 go_wp2_with (go_at_call 138; refine (idxF_calls s hs _).mono ?_; rintro e w' ⟨rfl, rfl⟩)
 go_ret
 exact ⟨rfl, (Below.refl _ _).alloc (Nat.le_refl _) _⟩
end Go.Proofs
