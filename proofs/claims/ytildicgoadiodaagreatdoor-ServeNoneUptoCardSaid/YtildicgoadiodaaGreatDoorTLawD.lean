/- The runs of awake (serve) and of Bind at nothing. -/
import Derived.Test.YtildicgoadiodaaGreatDoorTS3
import Derived.Test.YtildicgoadiodaaGreatDoorTLawA
/-! The runs of awake (serve) and of Bind at nothing. -/
namespace Go.Proofs
open Go.Ev
set_option maxRecDepth 1000000
theorem aw7 : sameRes (run8 7 [] Heap.empty) (.bool true) = true := by kernel_rfl
def bindL : List UInt8 := [112, 111, 108, 108, 97, 114, 100, 32, 112, 97, 99, 107, 10, 0, 170, 139, 11, 255, 198, 99, 5, 156, 88, 169, 71, 192, 19, 66, 113, 164, 154, 252, 62, 100, 117, 48, 235, 15, 116, 205, 185, 237, 253, 6, 62, 172]
theorem aw9 : sameRes (run8 9 [.slice none 0 0] Heap.empty) (.tuple ⟨[str bindL, .int .i64 0]⟩) = true := by kernel_rfl
end Go.Proofs

/-! The law's walk. -/
namespace Go.Proofs
open Go.RowKit Go.Ev
theorem catL_take (xs : List ByteArray) (i : Nat) (h : i < xs.length) : catL (xs.take (i + 1)) = catL (xs.take i) ++ xs[i].data.toList := by
  unfold catL
  rw [List.take_add_one, List.getElem?_eq_getElem h, List.map_append, List.flatten_append]
  simp only [Option.toList_some, List.map_cons, List.map_nil, List.flatten_cons, List.flatten_nil, List.append_nil]
theorem catL_take_len (xs : List ByteArray) (i : Nat) : (catL (xs.take i)).length ≤ (catL xs).length := by
  have : catL xs = catL (xs.take i) ++ catL (xs.drop i) := by
    unfold catL
    rw [← List.flatten_append, ← List.map_append, List.take_append_drop]
  rw [this, List.length_append]; omega

theorem law_loopA {B n : Nat} {pa : Option Addr} {c : Nat} {xs : List ByteArray} {w : World} {a : Act} (hX : StrsAt w (.slice pa n c) xs) (hn : n = xs.length) (hc : w.cell? ⟨B, 2, none⟩ = some (.slice pa n c)) (hxl : (catL xs).length ≤ 268435456)
    (hF : Fr 131 a ((10, .int .i64 ((0 : Nat) : Int)) :: frL B [] [])) {Q : Exit → Act → World → Prop} (hQ : ∀ a', Fr 131 a' (frL B (catL (xs.take 60)) []) → wpL Tryz.prog (L3.drop 7) Q a' w) : wpL Tryz.prog (L3.drop 6) Q a w := by
  have hn63 : n ≤ 9223372036854775807 := by
    rcases hX with ⟨rfl, _⟩ | ⟨_, _, _, _, _, h, _⟩
    · rw [hn]; decide
    · omega
  refine wpL_loop (by rw [len3]; decide) id3a ?_
  refine wp_loop_n (I := fun k a' w' => w' = w ∧ ∃ i, i + k = min n 60 ∧ Fr 131 a' ((10, .int .i64 (i : Int)) :: frL B (catL (xs.take i)) [])) ?_ (min n 60) a w ⟨rfl, 0, by omega, hF⟩
  rintro k a' w' ⟨rfl, i, hi, hF'⟩
  by_cases h : i < n ∧ i < 60
  · have hix : i < xs.length := by omega
    rcases hX with ⟨rfl, _⟩ | ⟨bk, o, c', hv, hc', hN, hb, hcell⟩
    · simp at hix
    · cases hv
      have hsz : xs[i].size = xs[i].data.toList.length := rfl
      have hl := catL_take_len xs (i + 1)
      rw [catL_take xs i hix, List.length_append] at hl
      exact loopA_round hc (hcell i xs[i] (List.getElem?_eq_getElem hix)) (by omega) h.2 (by omega) (by rw [hsz]; omega) hF' fun a2 hF2 => ⟨k - 1, by omega, rfl, i + 1, by omega, by rw [catL_take xs i hix]; exact hF2⟩
  · refine loopA_end hc h hn63 hF' fun a2 hF2 => hQ a2 ?_
    have : catL (xs.take i) = catL (xs.take 60) := by
      by_cases h60 : n ≤ 60
      · rw [List.take_of_length_le (by omega), List.take_of_length_le (by omega)]
      · have : i = 60 := by omega
        rw [this]
    rw [← this]; exact hF2

set_option maxHeartbeats 4000000 in
set_option maxRecDepth 1000000 in
theorem law_mid {B : Nat} {L M : List UInt8} {w : World} {a : Act} (hF : Fr 131 a (frL B L M)) {Q : Exit → Act → World → Prop} (hQ : ∀ a', Fr 131 a' ((11, .int .i64 ((0 : Nat) : Int)) :: frL B L M) → wpL Tryz.prog (L3.drop 8) Q a' w) : wpL Tryz.prog (L3.drop 7) Q a w := by
  have hQ' := Lib.hid hQ
  clear hQ
  obtain ⟨hs, hd, hsl⟩ := hF
  have h1 := hsl _ List.mem_cons_self
  have h3 := hsl _ (List.mem_cons_of_mem _ List.mem_cons_self)
  have h5 := hsl _ (List.mem_cons_of_mem _ (List.mem_cons_of_mem _ List.mem_cons_self))
  have h7 := hsl _ (List.mem_cons_of_mem _ (List.mem_cons_of_mem _ (List.mem_cons_of_mem _ List.mem_cons_self)))
  have h8 := hsl _ (List.mem_cons_of_mem _ (List.mem_cons_of_mem _ (List.mem_cons_of_mem _ (List.mem_cons_of_mem _ List.mem_cons_self))))
  have h9 := hsl _ (List.mem_cons_of_mem _ (List.mem_cons_of_mem _ (List.mem_cons_of_mem _ (List.mem_cons_of_mem _ (List.mem_cons_of_mem _ List.mem_cons_self)))))
  clear hsl
  obtain ⟨f, rfl⟩ := lit131 hs hd
  replace h1 : f 1 = .pointer (some ⟨B, 0, none⟩) := h1
  replace h3 : f 3 = .pointer none := h3
  replace h5 : f 5 = .int .i64 7 := h5
  replace h7 : f 7 = .int .i64 1 := h7
  replace h8 : f 8 = str L := h8
  replace h9 : f 9 = str M := h9
  rw [h1, h3, h5, h7, h8, h9]
  clear hs hd h1 h3 h5 h7 h8 h9
  refine wpL_lit (L' := [_] ++ L3.drop 8) (by rfl) ?_
  simp only [List.cons_append, List.nil_append, wpL]
  go_wp2
  refine hQ'.out _ ⟨rfl, rfl, fun p hp => ?_⟩
  simp only [frL, List.mem_cons, List.not_mem_nil, or_false] at hp
  rcases hp with rfl | rfl | rfl | rfl | rfl | rfl | rfl <;> rfl

theorem law_loopB {B n : Nat} {pa : Option Addr} {c : Nat} {L : List UInt8} {xs : List ByteArray} {w : World} {a : Act} (hX : StrsAt w (.slice pa n c) xs) (hn : n = xs.length) (hc : w.cell? ⟨B, 3, none⟩ = some (.slice pa n c)) (hxl : (catL xs).length ≤ 268435456)
    (hF : Fr 131 a ((11, .int .i64 ((0 : Nat) : Int)) :: frL B L [])) {Q : Exit → Act → World → Prop} (hQ : ∀ a', Fr 131 a' (frL B L (catL (xs.take 60))) → wpL Tryz.prog (L3.drop 9) Q a' w) : wpL Tryz.prog (L3.drop 8) Q a w := by
  have hn63 : n ≤ 9223372036854775807 := by
    rcases hX with ⟨rfl, _⟩ | ⟨_, _, _, _, _, h, _⟩
    · rw [hn]; decide
    · omega
  refine wpL_loop (by rw [len3]; decide) id3b ?_
  refine wp_loop_n (I := fun k a' w' => w' = w ∧ ∃ i, i + k = min n 60 ∧ Fr 131 a' ((11, .int .i64 (i : Int)) :: frL B L (catL (xs.take i)))) ?_ (min n 60) a w ⟨rfl, 0, by omega, hF⟩
  rintro k a' w' ⟨rfl, i, hi, hF'⟩
  by_cases h : i < n ∧ i < 60
  · have hix : i < xs.length := by omega
    rcases hX with ⟨rfl, _⟩ | ⟨bk, o, c', hv, hc', hN, hb, hcell⟩
    · simp at hix
    · cases hv
      have hsz : xs[i].size = xs[i].data.toList.length := rfl
      have hl := catL_take_len xs (i + 1)
      rw [catL_take xs i hix, List.length_append] at hl
      exact loopB_round hc (hcell i xs[i] (List.getElem?_eq_getElem hix)) (by omega) h.2 (by omega) (by rw [hsz]; omega) hF' fun a2 hF2 => ⟨k - 1, by omega, rfl, i + 1, by omega, by rw [catL_take xs i hix]; exact hF2⟩
  · refine loopB_end hc h hn63 hF' fun a2 hF2 => hQ a2 ?_
    have : catL (xs.take i) = catL (xs.take 60) := by
      by_cases h60 : n ≤ 60
      · rw [List.take_of_length_le (by omega), List.take_of_length_le (by omega)]
      · have : i = 60 := by omega
        rw [this]
    rw [← this]; exact hF2

/-! ### awake, Bind -/
theorem awake_calls (w : World) : Calls Tryz.prog 7 #[] w fun e w' => e = .returned (.bool true) ∧ Below w.heap.size w w' := by
  letI : Sg := sgF (fun _ => .int .i64 0) fun _ => rfl
  obtain ⟨H, hrun⟩ := sameRes_ok aw7
  refine (calls_closed env_ok mixed (funsOk rfl) (specs_of rfl specs8_ok) 100000 200 hrun .nil w (by rw [Tryz.func7]; rfl)).mono ?_
  rintro e w' ⟨u, rfl, ⟨ρ, hV⟩, hb⟩
  cases hV
  exact ⟨rfl, hb⟩
theorem bind_calls (w : World) : Calls Tryz.prog 9 #[.slice none 0 0] w fun e w' => e = .returned (.tuple #[str bindL, .int .i64 0]) ∧ Below w.heap.size w w' := by
  letI : Sg := sgF (fun _ => .int .i64 0) fun _ => rfl
  obtain ⟨H, hrun⟩ := sameRes_ok aw9
  refine (calls_closed env_ok mixed (funsOk rfl) (specs_of rfl specs8_ok) 100000 200 hrun (.cons .nilSlice .nil) w (by rw [Tryz.func9]; rfl)).mono ?_
  rintro e w' ⟨u, rfl, ⟨ρ, hV⟩, hb⟩
  cases hV with
  | tuple h => cases h with
    | cons h1 h2 => cases h2 with
      | cons h3 h4 => cases h4; cases h1; cases h3; exact ⟨rfl, hb⟩
end Go.Proofs

/-! The law's walk: its end. -/
namespace Go.Proofs
open Go.RowKit Go.Ev
theorem bodyTrue {a : Act} {w w0 : World} (hd : a.defers = []) (h2 : a.tmps.getD 2 undef = .bool true) (hb : Below w0.heap.size w0 w) : bodyPost Tryz.prog Tryz.f3 (fun e w' => e = .returned (.bool true) ∧ Below w0.heap.size w0 w') .ret a w := by
  have hres : Tryz.f3.results = #[.tmp 2] := by kernel_rfl
  exact bodyPost_ret (v := .bool true) (by rw [results_tmp hres, h2]) hd ⟨rfl, hb⟩

set_option maxHeartbeats 4000000 in
set_option maxRecDepth 1000000 in
theorem law_much {B n m : Nat} {pa qa : Option Addr} {pc qc : Nat} {L M : List UInt8} {w0 w : World} {a : Act} (hb0 : Below w0.heap.size w0 w) (hc2 : w.cell? ⟨B, 2, none⟩ = some (.slice pa n pc)) (hc3 : w.cell? ⟨B, 3, none⟩ = some (.slice qa m qc)) (hn : n ≤ 9223372036854775807) (hm : m ≤ 9223372036854775807)
    (h60 : 60 < n ∨ 60 < m) (hF : Fr 131 a (frL B L M)) : wpL Tryz.prog (L3.drop 9) (bodyPost Tryz.prog Tryz.f3 (fun e w' => e = .returned (.bool true) ∧ Below w0.heap.size w0 w')) a w := by
  obtain ⟨hs, hd, hsl⟩ := hF
  have h1 := hsl _ List.mem_cons_self
  have h3 := hsl _ (List.mem_cons_of_mem _ List.mem_cons_self)
  have h5 := hsl _ (List.mem_cons_of_mem _ (List.mem_cons_of_mem _ List.mem_cons_self))
  have h7 := hsl _ (List.mem_cons_of_mem _ (List.mem_cons_of_mem _ (List.mem_cons_of_mem _ List.mem_cons_self)))
  have h8 := hsl _ (List.mem_cons_of_mem _ (List.mem_cons_of_mem _ (List.mem_cons_of_mem _ (List.mem_cons_of_mem _ List.mem_cons_self))))
  have h9 := hsl _ (List.mem_cons_of_mem _ (List.mem_cons_of_mem _ (List.mem_cons_of_mem _ (List.mem_cons_of_mem _ (List.mem_cons_of_mem _ List.mem_cons_self)))))
  clear hsl
  obtain ⟨f, rfl⟩ := lit131 hs hd
  replace h1 : f 1 = .pointer (some ⟨B, 0, none⟩) := h1
  replace h3 : f 3 = .pointer none := h3
  replace h5 : f 5 = .int .i64 7 := h5
  replace h7 : f 7 = .int .i64 1 := h7
  replace h8 : f 8 = str L := h8
  replace h9 : f 9 = str M := h9
  rw [h1, h3, h5, h7, h8, h9]
  clear hs hd h1 h3 h5 h7 h8 h9
  have hb0' := Lib.hid hb0
  clear hb0
  refine wpL_lit (L' := [_, _] ++ L3.drop 11) (by rfl) ?_
  simp only [List.cons_append, List.nil_append, wpL]
  by_cases h1 : 60 < n
  · have hi1 : (60 : Int) < (n : Int) := by omega
    clear h60 h1
    go_wp2_with (go_at_call 7; refine (awake_calls _).mono ?_; rintro e w' ⟨rfl, hb⟩; have hb' := Lib.hid hb; clear hb)
    exact bodyTrue rfl rfl (hb0'.out.trans (hb'.out.mono (Below.size hb0'.out)))
  · have hi1 : ¬ (60 : Int) < (n : Int) := by omega
    have hi2 : (60 : Int) < (m : Int) := by omega
    clear h60 h1
    go_wp2_with (go_at_call 7; refine (awake_calls _).mono ?_; rintro e w' ⟨rfl, hb⟩; have hb' := Lib.hid hb; clear hb)
    exact bodyTrue rfl rfl (hb0'.out.trans (hb'.out.mono (Below.size hb0'.out)))
end Go.Proofs
