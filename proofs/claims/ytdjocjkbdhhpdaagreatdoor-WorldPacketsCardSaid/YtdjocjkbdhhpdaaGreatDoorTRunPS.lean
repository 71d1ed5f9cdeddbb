/- WorldPackets' runs, the text short. -/
import Derived.Test.YtdjocjkbdhhpdaaGreatDoorTSymP
/-! WorldPackets' runs, the text short. -/
namespace Go.Proofs
open Go.Ev
set_option maxRecDepth 1000000
theorem rOS : sameRes (runP (tabO false) 3 [sy 0, sy 1, sy 2] (dark 0)) (.bool true) = true := by kernel_rfl
theorem rWS : sameRes (runP (tabW false) 3 [sy 0, sy 1, sy 2] (dark 0)) (.bool true) = true := by kernel_rfl
theorem r0S : sameRes (runP (tabK false [] 9 [1, 0, 0, 0, 0, 0, 0, 0, 0, 11, 7, 46, 34]) 3 [nat 0, sy 1, sy 2] (dark 0)) (.bool true) = true := by kernel_rfl
theorem r1S : sameRes (runP (tabK false [9] 1 [0, 0, 0, 0, 0, 0, 0, 0, 11, 7, 46, 34]) 3 [nat 1, sy 1, sy 2] (dark 0)) (.bool true) = true := by kernel_rfl
theorem r2S : sameRes (runP (tabK false [9, 1] 0 [0, 0, 0, 0, 0, 0, 0, 11, 7, 46, 34]) 3 [nat 2, sy 1, sy 2] (dark 0)) (.bool true) = true := by kernel_rfl
theorem r3S : sameRes (runP (tabK false [9, 1, 0] 0 [0, 0, 0, 0, 0, 0, 11, 7, 46, 34]) 3 [nat 3, sy 1, sy 2] (dark 0)) (.bool true) = true := by kernel_rfl
theorem r4S : sameRes (runP (tabK false [9, 1, 0, 0] 0 [0, 0, 0, 0, 0, 11, 7, 46, 34]) 3 [nat 4, sy 1, sy 2] (dark 0)) (.bool true) = true := by kernel_rfl
theorem r5S : sameRes (runP (tabK false [9, 1, 0, 0, 0] 0 [0, 0, 0, 0, 11, 7, 46, 34]) 3 [nat 5, sy 1, sy 2] (dark 0)) (.bool true) = true := by kernel_rfl
theorem r6S : sameRes (runP (tabK false [9, 1, 0, 0, 0, 0] 0 [0, 0, 0, 11, 7, 46, 34]) 3 [nat 6, sy 1, sy 2] (dark 0)) (.bool true) = true := by kernel_rfl
theorem r7S : sameRes (runP (tabK false [9, 1, 0, 0, 0, 0, 0] 0 [0, 0, 11, 7, 46, 34]) 3 [nat 7, sy 1, sy 2] (dark 0)) (.bool true) = true := by kernel_rfl
theorem r8S : sameRes (runP (tabK false [9, 1, 0, 0, 0, 0, 0, 0] 0 [0, 11, 7, 46, 34]) 3 [nat 8, sy 1, sy 2] (dark 0)) (.bool true) = true := by kernel_rfl
theorem r9S : sameRes (runP (tabK false [9, 1, 0, 0, 0, 0, 0, 0, 0] 0 [11, 7, 46, 34]) 3 [nat 9, sy 1, sy 2] (dark 0)) (.bool true) = true := by kernel_rfl
theorem r10S : sameRes (runP (tabK false [9, 1, 0, 0, 0, 0, 0, 0, 0, 0] 11 [7, 46, 34]) 3 [nat 10, sy 1, sy 2] (dark 0)) (.bool true) = true := by kernel_rfl
theorem r11S : sameRes (runP (tabK false [9, 1, 0, 0, 0, 0, 0, 0, 0, 0, 11] 7 [46, 34]) 3 [nat 11, sy 1, sy 2] (dark 0)) (.bool true) = true := by kernel_rfl
theorem r12S : sameRes (runP (tabK false [9, 1, 0, 0, 0, 0, 0, 0, 0, 0, 11, 7] 46 [34]) 3 [nat 12, sy 1, sy 2] (dark 0)) (.bool true) = true := by kernel_rfl
theorem r13S : sameRes (runP (tabK false [9, 1, 0, 0, 0, 0, 0, 0, 0, 0, 11, 7, 46] 34 []) 3 [nat 13, sy 1, sy 2] (dark 0)) (.bool true) = true := by kernel_rfl
theorem callsS (at_ by_ : Int) (text : List UInt8) (hl : false = decide (100 < text.length)) (w : World) : Calls Tryz.prog 3 #[.int .i64 at_, .int .i64 by_, str text] w fun e w' => e = .returned (.bool true) ∧ Go.RowKit.Below w.heap.size w w' := by
  rcases Int.lt_or_le at_ 0 with h | h
  · exact case_calls (tabO_ok (by_ := by_) hl h) (x := sy 0) ⟨rfl, rfl⟩ rfl rfl rOS w
  rcases Int.lt_or_le at_ 14 with h' | h'
  · have hn : at_ = 0 ∨ at_ = 1 ∨ at_ = 2 ∨ at_ = 3 ∨ at_ = 4 ∨ at_ = 5 ∨ at_ = 6 ∨ at_ = 7 ∨ at_ = 8 ∨ at_ = 9 ∨ at_ = 10 ∨ at_ = 11 ∨ at_ = 12 ∨ at_ = 13 := by omega
    rcases hn with rfl | rfl | rfl | rfl | rfl | rfl | rfl | rfl | rfl | rfl | rfl | rfl | rfl | rfl
    · exact case_calls (tabK_ok (at_ := 0) (by_ := by_) (text := text) (pre := []) (post := [1, 0, 0, 0, 0, 0, 0, 0, 0, 11, 7, 46, 34]) (d := 9) (by decide) hl) (x := nat 0) ⟨rfl, rfl⟩ rfl rfl r0S w
    · exact case_calls (tabK_ok (at_ := 1) (by_ := by_) (text := text) (pre := [9]) (post := [0, 0, 0, 0, 0, 0, 0, 0, 11, 7, 46, 34]) (d := 1) (by decide) hl) (x := nat 1) ⟨rfl, rfl⟩ rfl rfl r1S w
    · exact case_calls (tabK_ok (at_ := 2) (by_ := by_) (text := text) (pre := [9, 1]) (post := [0, 0, 0, 0, 0, 0, 0, 11, 7, 46, 34]) (d := 0) (by decide) hl) (x := nat 2) ⟨rfl, rfl⟩ rfl rfl r2S w
    · exact case_calls (tabK_ok (at_ := 3) (by_ := by_) (text := text) (pre := [9, 1, 0]) (post := [0, 0, 0, 0, 0, 0, 11, 7, 46, 34]) (d := 0) (by decide) hl) (x := nat 3) ⟨rfl, rfl⟩ rfl rfl r3S w
    · exact case_calls (tabK_ok (at_ := 4) (by_ := by_) (text := text) (pre := [9, 1, 0, 0]) (post := [0, 0, 0, 0, 0, 11, 7, 46, 34]) (d := 0) (by decide) hl) (x := nat 4) ⟨rfl, rfl⟩ rfl rfl r4S w
    · exact case_calls (tabK_ok (at_ := 5) (by_ := by_) (text := text) (pre := [9, 1, 0, 0, 0]) (post := [0, 0, 0, 0, 11, 7, 46, 34]) (d := 0) (by decide) hl) (x := nat 5) ⟨rfl, rfl⟩ rfl rfl r5S w
    · exact case_calls (tabK_ok (at_ := 6) (by_ := by_) (text := text) (pre := [9, 1, 0, 0, 0, 0]) (post := [0, 0, 0, 11, 7, 46, 34]) (d := 0) (by decide) hl) (x := nat 6) ⟨rfl, rfl⟩ rfl rfl r6S w
    · exact case_calls (tabK_ok (at_ := 7) (by_ := by_) (text := text) (pre := [9, 1, 0, 0, 0, 0, 0]) (post := [0, 0, 11, 7, 46, 34]) (d := 0) (by decide) hl) (x := nat 7) ⟨rfl, rfl⟩ rfl rfl r7S w
    · exact case_calls (tabK_ok (at_ := 8) (by_ := by_) (text := text) (pre := [9, 1, 0, 0, 0, 0, 0, 0]) (post := [0, 11, 7, 46, 34]) (d := 0) (by decide) hl) (x := nat 8) ⟨rfl, rfl⟩ rfl rfl r8S w
    · exact case_calls (tabK_ok (at_ := 9) (by_ := by_) (text := text) (pre := [9, 1, 0, 0, 0, 0, 0, 0, 0]) (post := [11, 7, 46, 34]) (d := 0) (by decide) hl) (x := nat 9) ⟨rfl, rfl⟩ rfl rfl r9S w
    · exact case_calls (tabK_ok (at_ := 10) (by_ := by_) (text := text) (pre := [9, 1, 0, 0, 0, 0, 0, 0, 0, 0]) (post := [7, 46, 34]) (d := 11) (by decide) hl) (x := nat 10) ⟨rfl, rfl⟩ rfl rfl r10S w
    · exact case_calls (tabK_ok (at_ := 11) (by_ := by_) (text := text) (pre := [9, 1, 0, 0, 0, 0, 0, 0, 0, 0, 11]) (post := [46, 34]) (d := 7) (by decide) hl) (x := nat 11) ⟨rfl, rfl⟩ rfl rfl r11S w
    · exact case_calls (tabK_ok (at_ := 12) (by_ := by_) (text := text) (pre := [9, 1, 0, 0, 0, 0, 0, 0, 0, 0, 11, 7]) (post := [34]) (d := 46) (by decide) hl) (x := nat 12) ⟨rfl, rfl⟩ rfl rfl r12S w
    · exact case_calls (tabK_ok (at_ := 13) (by_ := by_) (text := text) (pre := [9, 1, 0, 0, 0, 0, 0, 0, 0, 0, 11, 7, 46]) (post := []) (d := 34) (by decide) hl) (x := nat 13) ⟨rfl, rfl⟩ rfl rfl r13S w
  · exact case_calls (tabW_ok (by_ := by_) hl h') (x := sy 0) ⟨rfl, rfl⟩ rfl rfl rWS w
end Go.Proofs
