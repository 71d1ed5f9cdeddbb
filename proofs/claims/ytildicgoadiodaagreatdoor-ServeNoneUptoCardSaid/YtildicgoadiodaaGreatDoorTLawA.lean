/- The law's walk: ahead of the sums. -/
import Derived.Test.YtildicgoadiodaaGreatDoorTNew
/-! The law's walk: ahead of the sums. -/
namespace Go.Proofs
open Go.RowKit Go.Ev
theorem list_range {α : Type} (d : α) (l : List α) (n : Nat) (h : l.length = n) : l = (List.range n).map fun i => l.getD i d := by
  apply List.ext_getElem?
  intro i
  by_cases hi : i < n
  · rw [List.getElem?_map, List.getElem?_range hi]
    show l[i]? = some (l.getD i d)
    rw [List.getD_eq_getElem?_getD, List.getElem?_eq_getElem (by omega)]; rfl
  · rw [List.getElem?_eq_none (by omega), List.getElem?_eq_none (by simpa using hi)]
set_option maxRecDepth 100000 in
theorem lit131 {a : Act} (hs : a.tmps.size = 131) (hd : a.defers = []) : ∃ f : Nat → Value, a = ⟨#[f 0, f 1, f 2, f 3, f 4, f 5, f 6, f 7, f 8, f 9, f 10, f 11, f 12, f 13, f 14, f 15, f 16, f 17, f 18, f 19, f 20, f 21, f 22, f 23, f 24, f 25, f 26, f 27, f 28, f 29, f 30, f 31, f 32, f 33, f 34, f 35, f 36, f 37, f 38, f 39, f 40, f 41, f 42, f 43, f 44, f 45, f 46, f 47, f 48, f 49, f 50, f 51, f 52, f 53, f 54, f 55, f 56, f 57, f 58, f 59, f 60, f 61, f 62, f 63, f 64, f 65, f 66, f 67, f 68, f 69, f 70, f 71, f 72, f 73, f 74, f 75, f 76, f 77, f 78, f 79, f 80, f 81, f 82, f 83, f 84, f 85, f 86, f 87, f 88, f 89, f 90, f 91, f 92, f 93, f 94, f 95, f 96, f 97, f 98, f 99, f 100, f 101, f 102, f 103, f 104, f 105, f 106, f 107, f 108, f 109, f 110, f 111, f 112, f 113, f 114, f 115, f 116, f 117, f 118, f 119, f 120, f 121, f 122, f 123, f 124, f 125, f 126, f 127, f 128, f 129, f 130], []⟩ := by
  obtain ⟨⟨l⟩, d⟩ := a
  subst hd
  have e := list_range undef l 131 hs
  exact ⟨fun i => l.getD i undef, congrArg (fun l => (⟨⟨l⟩, []⟩ : Act)) e⟩

set_option maxHeartbeats 1000000 in
set_option maxRecDepth 1000000 in
theorem objects_calls (w : World) (v v' : Value) : Calls Tryz.prog 5 #[.pointer none, v, v'] w fun e w' => e = .returned (.tuple #[.slice none 0 0, .int .i64 7]) ∧ w = w' := by
  go_enter Tryz.func5, Tryz.ntmps5
  go_wp2
  go_ret2
  exact ⟨rfl, rfl⟩
set_option maxHeartbeats 1000000 in
set_option maxRecDepth 1000000 in
theorem server_calls (w : World) : Calls Tryz.prog 6 #[.pointer none] w fun e w' => e = .returned (.tuple #[.pointer none, .int .i64 1]) ∧ w = w' := by
  go_enter Tryz.func6, Tryz.ntmps6
  go_wp2
  go_ret2
  exact ⟨rfl, rfl⟩
set_option maxHeartbeats 1000000 in
set_option maxRecDepth 1000000 in
theorem handle_calls (w : World) (c0 c1 c2 c3 c4 c5 c6 c7 c8 : Value) : Calls Tryz.prog 10 #[.pointer none, .agg #[c0, c1, c2, c3, c4, c5, c6, c7, c8]] w fun e w' => e = .returned (.slice none 0 0) ∧ Below w.heap.size w w' := by
  go_enter Tryz.func10, Tryz.ntmps10
  go_wp2
  go_ret
  exact ⟨rfl, (Below.refl _ _).alloc (Nat.le_refl _) _⟩

noncomputable def L3 : List Code := codes (Tryz.f3.body.getD .skip)
theorem len3 : lenL L3 = 15 := by kernel_rfl
theorem id3a : loopId (itemN L3 6) = some 0 := by kernel_rfl
theorem id3b : loopId (itemN L3 8) = some 2 := by kernel_rfl
noncomputable def L3a : List Code := codes (loopB (itemN L3 6))
noncomputable def L3b : List Code := codes (loopB (itemN L3 8))
def frL (B : Nat) (L M : List UInt8) : List (Nat × Value) := [(1, .pointer (some ⟨B, 0, none⟩)), (3, .pointer none), (5, .int .i64 7), (7, .int .i64 1), (8, str L), (9, str M)]

set_option maxHeartbeats 4000000 in
set_option maxRecDepth 1000000 in
theorem law_head {w : World} {c0 c1 c2 c3 c4 c5 c6 c7 c8 : Value} {a : Act} (hF : Fr 131 a [(0, .agg #[c0, c1, c2, c3, c4, c5, c6, c7, c8])]) {Q : Exit → Act → World → Prop}
    (hQ : ∀ a', Fr 131 a' ((10, .int .i64 ((0 : Nat) : Int)) :: frL w.heap.size [] []) → wpL Tryz.prog (L3.drop 6) Q a' (w.alloc (.cells #[c0, c1, c2, c3, c4, c5, c6, c7, c8] 26))) : wpL Tryz.prog (L3.drop 0) Q a w := by
  have hQ' := Lib.hid hQ
  clear hQ
  obtain ⟨hs, hd, hsl⟩ := hF
  have h0 := hsl _ List.mem_cons_self
  clear hsl
  obtain ⟨f, rfl⟩ := lit131 hs hd
  replace h0 : f 0 = .agg #[c0, c1, c2, c3, c4, c5, c6, c7, c8] := h0
  rw [h0]
  clear hs hd h0
  refine wpL_lit (L' := [_, _, _, _, _, _] ++ L3.drop 6) (by rfl) ?_
  simp only [List.cons_append, List.nil_append, wpL]
  go_wp2_with (first | (go_at_call 5; refine (objects_calls _ _ _).mono ?_; rintro e w' ⟨rfl, rfl⟩) | (go_at_call 6; refine (server_calls _).mono ?_; rintro e w' ⟨rfl, rfl⟩))
  refine hQ'.out _ ⟨rfl, rfl, fun p hp => ?_⟩
  simp only [frL, List.mem_cons, List.not_mem_nil, or_false] at hp
  rcases hp with rfl | rfl | rfl | rfl | rfl | rfl | rfl <;> rfl
end Go.Proofs

/-! The law's walk: the texts. -/
namespace Go.Proofs
open Go.RowKit Go.Ev
theorem add_txt (W : World) {l : List UInt8} {x : ByteArray} (h : l.length + x.size ≤ 1099511627776) : (Go.binOp .add 9 (str l) (.string x)).run Tryz.prog W = .ok (str (l ++ x.data.toList)) W :=
  strOp_ok (x := ⟨⟨l⟩⟩) (y := x) (strAdd (m := x.data.toList) h)

set_option maxHeartbeats 4000000 in
set_option maxRecDepth 1000000 in
theorem loopA_round {B i n bk o c : Nat} {L M : List UInt8} {x : ByteArray} {w : World} {a : Act} (hc : w.cell? ⟨B, 2, none⟩ = some (.slice (some ⟨bk, o, none⟩) n c)) (hx : w.cell? ⟨bk, o + i, none⟩ = some (.string x)) (hi : i < n) (h60 : i < 60) (_hn : n ≤ 9223372036854775807) (hl : L.length + x.size ≤ 1099511627776)
    (hF : Fr 131 a ((10, .int .i64 (i : Int)) :: frL B L M)) {Q : Exit → Act → World → Prop} (hQ : ∀ a', Fr 131 a' ((10, .int .i64 ((i + 1 : Nat) : Int)) :: frL B (L ++ x.data.toList) (M)) → Q .normal a' w) : (loopB (itemN L3 6)).wp Tryz.prog Q a w := by
  refine wpL_codes ?_
  have hQ' := Lib.hid hQ
  clear hQ
  have hadd := fun W => add_txt W (l := L) (x := x) hl
  clear hl
  have hi1 : (i : Int) < (n : Int) := by omega
  have hi2 : (i : Int) < 60 := by omega
  obtain ⟨hs, hd, hsl⟩ := hF
  have h10 := hsl _ List.mem_cons_self
  have h1 := hsl _ (List.mem_cons_of_mem _ List.mem_cons_self)
  have h3 := hsl _ (List.mem_cons_of_mem _ (List.mem_cons_of_mem _ List.mem_cons_self))
  have h5 := hsl _ (List.mem_cons_of_mem _ (List.mem_cons_of_mem _ (List.mem_cons_of_mem _ List.mem_cons_self)))
  have h7 := hsl _ (List.mem_cons_of_mem _ (List.mem_cons_of_mem _ (List.mem_cons_of_mem _ (List.mem_cons_of_mem _ List.mem_cons_self))))
  have h8 := hsl _ (List.mem_cons_of_mem _ (List.mem_cons_of_mem _ (List.mem_cons_of_mem _ (List.mem_cons_of_mem _ (List.mem_cons_of_mem _ List.mem_cons_self)))))
  have h9 := hsl _ (List.mem_cons_of_mem _ (List.mem_cons_of_mem _ (List.mem_cons_of_mem _ (List.mem_cons_of_mem _ (List.mem_cons_of_mem _ (List.mem_cons_of_mem _ List.mem_cons_self))))))
  clear hsl
  obtain ⟨f, rfl⟩ := lit131 hs hd
  replace h10 : f 10 = .int .i64 (i : Int) := h10
  replace h1 : f 1 = .pointer (some ⟨B, 0, none⟩) := h1
  replace h3 : f 3 = .pointer none := h3
  replace h5 : f 5 = .int .i64 7 := h5
  replace h7 : f 7 = .int .i64 1 := h7
  replace h8 : f 8 = str L := h8
  replace h9 : f 9 = str M := h9
  rw [h10, h1, h3, h5, h7, h8, h9]
  clear hs hd h10 h1 h3 h5 h7 h8 h9
  refine wpL_lit (L' := [_, _, _, _]) (by rfl) ?_
  simp only [wpL]
  go_wp2
  refine hQ'.out _ ⟨rfl, rfl, fun p hp => ?_⟩
  simp only [frL, List.mem_cons, List.not_mem_nil, or_false] at hp
  rcases hp with rfl | rfl | rfl | rfl | rfl | rfl | rfl
  · show Value.int .i64 _ = _
    rw [Int.natCast_add]; rfl
  all_goals rfl
set_option maxHeartbeats 4000000 in
set_option maxRecDepth 1000000 in
theorem loopA_end {B i n : Nat} {pa : Option Addr} {c : Nat} {L M : List UInt8} {w : World} {a : Act} (hc : w.cell? ⟨B, 2, none⟩ = some (.slice pa n c)) (hi : ¬ (i < n ∧ i < 60)) (_hn : n ≤ 9223372036854775807)
    (hF : Fr 131 a ((10, .int .i64 (i : Int)) :: frL B L M)) {Q : Exit → Act → World → Prop} (hQ : ∀ a', Fr 131 a' (frL B L M) → Q (.exit 0) a' w) : (loopB (itemN L3 6)).wp Tryz.prog Q a w := by
  refine wpL_codes ?_
  have hQ' := Lib.hid hQ
  clear hQ
  obtain ⟨hs, hd, hsl⟩ := hF
  have h10 := hsl _ List.mem_cons_self
  have h1 := hsl _ (List.mem_cons_of_mem _ List.mem_cons_self)
  have h3 := hsl _ (List.mem_cons_of_mem _ (List.mem_cons_of_mem _ List.mem_cons_self))
  have h5 := hsl _ (List.mem_cons_of_mem _ (List.mem_cons_of_mem _ (List.mem_cons_of_mem _ List.mem_cons_self)))
  have h7 := hsl _ (List.mem_cons_of_mem _ (List.mem_cons_of_mem _ (List.mem_cons_of_mem _ (List.mem_cons_of_mem _ List.mem_cons_self))))
  have h8 := hsl _ (List.mem_cons_of_mem _ (List.mem_cons_of_mem _ (List.mem_cons_of_mem _ (List.mem_cons_of_mem _ (List.mem_cons_of_mem _ List.mem_cons_self)))))
  have h9 := hsl _ (List.mem_cons_of_mem _ (List.mem_cons_of_mem _ (List.mem_cons_of_mem _ (List.mem_cons_of_mem _ (List.mem_cons_of_mem _ (List.mem_cons_of_mem _ List.mem_cons_self))))))
  clear hsl
  obtain ⟨f, rfl⟩ := lit131 hs hd
  replace h10 : f 10 = .int .i64 (i : Int) := h10
  replace h1 : f 1 = .pointer (some ⟨B, 0, none⟩) := h1
  replace h3 : f 3 = .pointer none := h3
  replace h5 : f 5 = .int .i64 7 := h5
  replace h7 : f 7 = .int .i64 1 := h7
  replace h8 : f 8 = str L := h8
  replace h9 : f 9 = str M := h9
  rw [h10, h1, h3, h5, h7, h8, h9]
  clear hs hd h10 h1 h3 h5 h7 h8 h9
  refine wpL_lit (L' := [_, _, itemN L3a 2, itemN L3a 3]) (by rfl) ?_
  simp only [wpL]
  by_cases h1 : i < n
  · have h2 : ¬ i < 60 := fun h => hi ⟨h1, h⟩
    have hi1 : (i : Int) < (n : Int) := by omega
    have hi2 : ¬ (i : Int) < 60 := by omega
    clear hi h1 h2
    go_wp2
    refine hQ'.out _ ⟨rfl, rfl, fun p hp => ?_⟩
    simp only [frL, List.mem_cons, List.not_mem_nil, or_false] at hp
    rcases hp with rfl | rfl | rfl | rfl | rfl | rfl <;> rfl
  · have hi1 : ¬ (i : Int) < (n : Int) := by omega
    clear hi h1
    go_wp2
    refine hQ'.out _ ⟨rfl, rfl, fun p hp => ?_⟩
    simp only [frL, List.mem_cons, List.not_mem_nil, or_false] at hp
    rcases hp with rfl | rfl | rfl | rfl | rfl | rfl <;> rfl
end Go.Proofs

/-! The law's walk: the texts. -/
namespace Go.Proofs
open Go.RowKit Go.Ev

set_option maxHeartbeats 4000000 in
set_option maxRecDepth 1000000 in
theorem loopB_round {B i n bk o c : Nat} {L M : List UInt8} {x : ByteArray} {w : World} {a : Act} (hc : w.cell? ⟨B, 3, none⟩ = some (.slice (some ⟨bk, o, none⟩) n c)) (hx : w.cell? ⟨bk, o + i, none⟩ = some (.string x)) (hi : i < n) (h60 : i < 60) (_hn : n ≤ 9223372036854775807) (hl : M.length + x.size ≤ 1099511627776)
    (hF : Fr 131 a ((11, .int .i64 (i : Int)) :: frL B L M)) {Q : Exit → Act → World → Prop} (hQ : ∀ a', Fr 131 a' ((11, .int .i64 ((i + 1 : Nat) : Int)) :: frL B (L) (M ++ x.data.toList)) → Q .normal a' w) : (loopB (itemN L3 8)).wp Tryz.prog Q a w := by
  refine wpL_codes ?_
  have hQ' := Lib.hid hQ
  clear hQ
  have hadd := fun W => add_txt W (l := M) (x := x) hl
  clear hl
  have hi1 : (i : Int) < (n : Int) := by omega
  have hi2 : (i : Int) < 60 := by omega
  obtain ⟨hs, hd, hsl⟩ := hF
  have h11 := hsl _ List.mem_cons_self
  have h1 := hsl _ (List.mem_cons_of_mem _ List.mem_cons_self)
  have h3 := hsl _ (List.mem_cons_of_mem _ (List.mem_cons_of_mem _ List.mem_cons_self))
  have h5 := hsl _ (List.mem_cons_of_mem _ (List.mem_cons_of_mem _ (List.mem_cons_of_mem _ List.mem_cons_self)))
  have h7 := hsl _ (List.mem_cons_of_mem _ (List.mem_cons_of_mem _ (List.mem_cons_of_mem _ (List.mem_cons_of_mem _ List.mem_cons_self))))
  have h8 := hsl _ (List.mem_cons_of_mem _ (List.mem_cons_of_mem _ (List.mem_cons_of_mem _ (List.mem_cons_of_mem _ (List.mem_cons_of_mem _ List.mem_cons_self)))))
  have h9 := hsl _ (List.mem_cons_of_mem _ (List.mem_cons_of_mem _ (List.mem_cons_of_mem _ (List.mem_cons_of_mem _ (List.mem_cons_of_mem _ (List.mem_cons_of_mem _ List.mem_cons_self))))))
  clear hsl
  obtain ⟨f, rfl⟩ := lit131 hs hd
  replace h11 : f 11 = .int .i64 (i : Int) := h11
  replace h1 : f 1 = .pointer (some ⟨B, 0, none⟩) := h1
  replace h3 : f 3 = .pointer none := h3
  replace h5 : f 5 = .int .i64 7 := h5
  replace h7 : f 7 = .int .i64 1 := h7
  replace h8 : f 8 = str L := h8
  replace h9 : f 9 = str M := h9
  rw [h11, h1, h3, h5, h7, h8, h9]
  clear hs hd h11 h1 h3 h5 h7 h8 h9
  refine wpL_lit (L' := [_, _, _, _]) (by rfl) ?_
  simp only [wpL]
  go_wp2
  refine hQ'.out _ ⟨rfl, rfl, fun p hp => ?_⟩
  simp only [frL, List.mem_cons, List.not_mem_nil, or_false] at hp
  rcases hp with rfl | rfl | rfl | rfl | rfl | rfl | rfl
  · show Value.int .i64 _ = _
    rw [Int.natCast_add]; rfl
  all_goals rfl
set_option maxHeartbeats 4000000 in
set_option maxRecDepth 1000000 in
theorem loopB_end {B i n : Nat} {pa : Option Addr} {c : Nat} {L M : List UInt8} {w : World} {a : Act} (hc : w.cell? ⟨B, 3, none⟩ = some (.slice pa n c)) (hi : ¬ (i < n ∧ i < 60)) (_hn : n ≤ 9223372036854775807)
    (hF : Fr 131 a ((11, .int .i64 (i : Int)) :: frL B L M)) {Q : Exit → Act → World → Prop} (hQ : ∀ a', Fr 131 a' (frL B L M) → Q (.exit 2) a' w) : (loopB (itemN L3 8)).wp Tryz.prog Q a w := by
  refine wpL_codes ?_
  have hQ' := Lib.hid hQ
  clear hQ
  obtain ⟨hs, hd, hsl⟩ := hF
  have h11 := hsl _ List.mem_cons_self
  have h1 := hsl _ (List.mem_cons_of_mem _ List.mem_cons_self)
  have h3 := hsl _ (List.mem_cons_of_mem _ (List.mem_cons_of_mem _ List.mem_cons_self))
  have h5 := hsl _ (List.mem_cons_of_mem _ (List.mem_cons_of_mem _ (List.mem_cons_of_mem _ List.mem_cons_self)))
  have h7 := hsl _ (List.mem_cons_of_mem _ (List.mem_cons_of_mem _ (List.mem_cons_of_mem _ (List.mem_cons_of_mem _ List.mem_cons_self))))
  have h8 := hsl _ (List.mem_cons_of_mem _ (List.mem_cons_of_mem _ (List.mem_cons_of_mem _ (List.mem_cons_of_mem _ (List.mem_cons_of_mem _ List.mem_cons_self)))))
  have h9 := hsl _ (List.mem_cons_of_mem _ (List.mem_cons_of_mem _ (List.mem_cons_of_mem _ (List.mem_cons_of_mem _ (List.mem_cons_of_mem _ (List.mem_cons_of_mem _ List.mem_cons_self))))))
  clear hsl
  obtain ⟨f, rfl⟩ := lit131 hs hd
  replace h11 : f 11 = .int .i64 (i : Int) := h11
  replace h1 : f 1 = .pointer (some ⟨B, 0, none⟩) := h1
  replace h3 : f 3 = .pointer none := h3
  replace h5 : f 5 = .int .i64 7 := h5
  replace h7 : f 7 = .int .i64 1 := h7
  replace h8 : f 8 = str L := h8
  replace h9 : f 9 = str M := h9
  rw [h11, h1, h3, h5, h7, h8, h9]
  clear hs hd h11 h1 h3 h5 h7 h8 h9
  refine wpL_lit (L' := [_, _, itemN L3b 2, itemN L3b 3]) (by rfl) ?_
  simp only [wpL]
  by_cases h1 : i < n
  · have h2 : ¬ i < 60 := fun h => hi ⟨h1, h⟩
    have hi1 : (i : Int) < (n : Int) := by omega
    have hi2 : ¬ (i : Int) < 60 := by omega
    clear hi h1 h2
    go_wp2
    refine hQ'.out _ ⟨rfl, rfl, fun p hp => ?_⟩
    simp only [frL, List.mem_cons, List.not_mem_nil, or_false] at hp
    rcases hp with rfl | rfl | rfl | rfl | rfl | rfl <;> rfl
  · have hi1 : ¬ (i : Int) < (n : Int) := by omega
    clear hi h1
    go_wp2
    refine hQ'.out _ ⟨rfl, rfl, fun p hp => ?_⟩
    simp only [frL, List.mem_cons, List.not_mem_nil, or_false] at hp
    rcases hp with rfl | rfl | rfl | rfl | rfl | rfl <;> rfl
end Go.Proofs
