/- WorldPackets' runs, the text long. -/
import Derived.Test.YtdjocjkbdhhpdaaGreatDoorTSymP
/-! WorldPackets' runs, the text long. -/
namespace Go.Proofs
open Go.Ev
set_option maxRecDepth 1000000
theorem rOL : sameRes (runP (tabO true) 3 [sy 0, sy 1, sy 2] (dark 0)) (.bool true) = true := by kernel_rfl
theorem rWL : sameRes (runP (tabW true) 3 [sy 0, sy 1, sy 2] (dark 0)) (.bool true) = true := by kernel_rfl
theorem r0L : sameRes (runP (tabK true [] 9 [1, 0, 0, 0, 0, 0, 0, 0, 0, 11, 7, 46, 34]) 3 [nat 0, sy 1, sy 2] (dark 0)) (.bool true) = true := by kernel_rfl
theorem r1L : sameRes (runP (tabK true [9] 1 [0, 0, 0, 0, 0, 0, 0, 0, 11, 7, 46, 34]) 3 [nat 1, sy 1, sy 2] (dark 0)) (.bool true) = true := by kernel_rfl
theorem r2L : sameRes (runP (tabK true [9, 1] 0 [0, 0, 0, 0, 0, 0, 0, 11, 7, 46, 34]) 3 [nat 2, sy 1, sy 2] (dark 0)) (.bool true) = true := by kernel_rfl
theorem r3L : sameRes (runP (tabK true [9, 1, 0] 0 [0, 0, 0, 0, 0, 0, 11, 7, 46, 34]) 3 [nat 3, sy 1, sy 2] (dark 0)) (.bool true) = true := by kernel_rfl
theorem r4L : sameRes (runP (tabK true [9, 1, 0, 0] 0 [0, 0, 0, 0, 0, 11, 7, 46, 34]) 3 [nat 4, sy 1, sy 2] (dark 0)) (.bool true) = true := by kernel_rfl
theorem r5L : sameRes (runP (tabK true [9, 1, 0, 0, 0] 0 [0, 0, 0, 0, 11, 7, 46, 34]) 3 [nat 5, sy 1, sy 2] (dark 0)) (.bool true) = true := by kernel_rfl
theorem r6L : sameRes (runP (tabK true [9, 1, 0, 0, 0, 0] 0 [0, 0, 0, 11, 7, 46, 34]) 3 [nat 6, sy 1, sy 2] (dark 0)) (.bool true) = true := by kernel_rfl
theorem r7L : sameRes (runP (tabK true [9, 1, 0, 0, 0, 0, 0] 0 [0, 0, 11, 7, 46, 34]) 3 [nat 7, sy 1, sy 2] (dark 0)) (.bool true) = true := by kernel_rfl
theorem r8L : sameRes (runP (tabK true [9, 1, 0, 0, 0, 0, 0, 0] 0 [0, 11, 7, 46, 34]) 3 [nat 8, sy 1, sy 2] (dark 0)) (.bool true) = true := by kernel_rfl
theorem r9L : sameRes (runP (tabK true [9, 1, 0, 0, 0, 0, 0, 0, 0] 0 [11, 7, 46, 34]) 3 [nat 9, sy 1, sy 2] (dark 0)) (.bool true) = true := by kernel_rfl
theorem r10L : sameRes (runP (tabK true [9, 1, 0, 0, 0, 0, 0, 0, 0, 0] 11 [7, 46, 34]) 3 [nat 10, sy 1, sy 2] (dark 0)) (.bool true) = true := by kernel_rfl
theorem r11L : sameRes (runP (tabK true [9, 1, 0, 0, 0, 0, 0, 0, 0, 0, 11] 7 [46, 34]) 3 [nat 11, sy 1, sy 2] (dark 0)) (.bool true) = true := by kernel_rfl
theorem r12L : sameRes (runP (tabK true [9, 1, 0, 0, 0, 0, 0, 0, 0, 0, 11, 7] 46 [34]) 3 [nat 12, sy 1, sy 2] (dark 0)) (.bool true) = true := by kernel_rfl
theorem r13L : sameRes (runP (tabK true [9, 1, 0, 0, 0, 0, 0, 0, 0, 0, 11, 7, 46] 34 []) 3 [nat 13, sy 1, sy 2] (dark 0)) (.bool true) = true := by kernel_rfl
theorem callsL (at_ by_ : Int) (text : List UInt8) (hl : true = decide (100 < text.length)) (w : World) : Calls Tryz.prog 3 #[.int .i64 at_, .int .i64 by_, str text] w fun e w' => e = .returned (.bool true) ∧ Go.RowKit.Below w.heap.size w w' := by
  rcases Int.lt_or_le at_ 0 with h | h
  · exact case_calls (tabO_ok (by_ := by_) hl h) (x := sy 0) ⟨rfl, rfl⟩ rfl rfl rOL w
  rcases Int.lt_or_le at_ 14 with h' | h'
  · have hn : at_ = 0 ∨ at_ = 1 ∨ at_ = 2 ∨ at_ = 3 ∨ at_ = 4 ∨ at_ = 5 ∨ at_ = 6 ∨ at_ = 7 ∨ at_ = 8 ∨ at_ = 9 ∨ at_ = 10 ∨ at_ = 11 ∨ at_ = 12 ∨ at_ = 13 := by omega
    rcases hn with rfl | rfl | rfl | rfl | rfl | rfl | rfl | rfl | rfl | rfl | rfl | rfl | rfl | rfl
    · exact case_calls (tabK_ok (at_ := 0) (by_ := by_) (text := text) (pre := []) (post := [1, 0, 0, 0, 0, 0, 0, 0, 0, 11, 7, 46, 34]) (d := 9) (by decide) hl) (x := nat 0) ⟨rfl, rfl⟩ rfl rfl r0L w
    · exact case_calls (tabK_ok (at_ := 1) (by_ := by_) (text := text) (pre := [9]) (post := [0, 0, 0, 0, 0, 0, 0, 0, 11, 7, 46, 34]) (d := 1) (by decide) hl) (x := nat 1) ⟨rfl, rfl⟩ rfl rfl r1L w
    · exact case_calls (tabK_ok (at_ := 2) (by_ := by_) (text := text) (pre := [9, 1]) (post := [0, 0, 0, 0, 0, 0, 0, 11, 7, 46, 34]) (d := 0) (by decide) hl) (x := nat 2) ⟨rfl, rfl⟩ rfl rfl r2L w
    · exact case_calls (tabK_ok (at_ := 3) (by_ := by_) (text := text) (pre := [9, 1, 0]) (post := [0, 0, 0, 0, 0, 0, 11, 7, 46, 34]) (d := 0) (by decide) hl) (x := nat 3) ⟨rfl, rfl⟩ rfl rfl r3L w
    · exact case_calls (tabK_ok (at_ := 4) (by_ := by_) (text := text) (pre := [9, 1, 0, 0]) (post := [0, 0, 0, 0, 0, 11, 7, 46, 34]) (d := 0) (by decide) hl) (x := nat 4) ⟨rfl, rfl⟩ rfl rfl r4L w
    · exact case_calls (tabK_ok (at_ := 5) (by_ := by_) (text := text) (pre := [9, 1, 0, 0, 0]) (post := [0, 0, 0, 0, 11, 7, 46, 34]) (d := 0) (by decide) hl) (x := nat 5) ⟨rfl, rfl⟩ rfl rfl r5L w
    · exact case_calls (tabK_ok (at_ := 6) (by_ := by_) (text := text) (pre := [9, 1, 0, 0, 0, 0]) (post := [0, 0, 0, 11, 7, 46, 34]) (d := 0) (by decide) hl) (x := nat 6) ⟨rfl, rfl⟩ rfl rfl r6L w
    · exact case_calls (tabK_ok (at_ := 7) (by_ := by_) (text := text) (pre := [9, 1, 0, 0, 0, 0, 0]) (post := [0, 0, 11, 7, 46, 34]) (d := 0) (by decide) hl) (x := nat 7) ⟨rfl, rfl⟩ rfl rfl r7L w
    · exact case_calls (tabK_ok (at_ := 8) (by_ := by_) (text := text) (pre := [9, 1, 0, 0, 0, 0, 0, 0]) (post := [0, 11, 7, 46, 34]) (d := 0) (by decide) hl) (x := nat 8) ⟨rfl, rfl⟩ rfl rfl r8L w
    · exact case_calls (tabK_ok (at_ := 9) (by_ := by_) (text := text) (pre := [9, 1, 0, 0, 0, 0, 0, 0, 0]) (post := [11, 7, 46, 34]) (d := 0) (by decide) hl) (x := nat 9) ⟨rfl, rfl⟩ rfl rfl r9L w
    · exact case_calls (tabK_ok (at_ := 10) (by_ := by_) (text := text) (pre := [9, 1, 0, 0, 0, 0, 0, 0, 0, 0]) (post := [7, 46, 34]) (d := 11) (by decide) hl) (x := nat 10) ⟨rfl, rfl⟩ rfl rfl r10L w
    · exact case_calls (tabK_ok (at_ := 11) (by_ := by_) (text := text) (pre := [9, 1, 0, 0, 0, 0, 0, 0, 0, 0, 11]) (post := [46, 34]) (d := 7) (by decide) hl) (x := nat 11) ⟨rfl, rfl⟩ rfl rfl r11L w
    · exact case_calls (tabK_ok (at_ := 12) (by_ := by_) (text := text) (pre := [9, 1, 0, 0, 0, 0, 0, 0, 0, 0, 11, 7]) (post := [34]) (d := 46) (by decide) hl) (x := nat 12) ⟨rfl, rfl⟩ rfl rfl r12L w
    · exact case_calls (tabK_ok (at_ := 13) (by_ := by_) (text := text) (pre := [9, 1, 0, 0, 0, 0, 0, 0, 0, 0, 11, 7, 46]) (post := []) (d := 34) (by decide) hl) (x := nat 13) ⟨rfl, rfl⟩ rfl rfl r13L w
  · exact case_calls (tabW_ok (by_ := by_) hl h') (x := sy 0) ⟨rfl, rfl⟩ rfl rfl rWL w
end Go.Proofs
