/- sum.New. -/
import Derived.Test.YtildicgoadiodaaGreatDoorTTick
/-! sum.New. -/
namespace Go.Proofs
open Go.RowKit Go.Ev
set_option maxHeartbeats 1000000 in
set_option maxRecDepth 1000000 in
theorem begin_calls (w : World) : Calls Tryz.prog 79 #[] w fun e w' => e = .returned (.agg ⟨wordsC hw0⟩) ∧ Below w.heap.size w w' := by
  go_enter Tryz.func79, Tryz.ntmps79
  go_wp2
  have hres : Tryz.f79.results = #[.cell 0 83] := by kernel_rfl
  refine bodyPost_ret (v := .agg ⟨wordsC hw0⟩) ?_ rfl ⟨rfl, (Below.refl _ _).alloc (Nat.le_refl _) _⟩
  exact results_cell_row hres _ _ w.heap.size 83 _ (0, 0) _ rfl (heap_alloc_new w _) Tryz.underlying83 rfl info83s
set_option maxHeartbeats 1000000 in
set_option maxRecDepth 1000000 in
theorem new_calls (w : World) : Calls Tryz.prog 41 #[] w fun e w' => ∃ b, e = .returned (.pointer (some ⟨b, 0, none⟩)) ∧ StAt w' b hw0 (.slice none 0 0) 0 ∧ w.heap.size ≤ b ∧ b < w'.heap.size ∧ Below w.heap.size w w' := by
  go_enter Tryz.func41, Tryz.ntmps41
  go_wp2_with (go_at_call 79; refine (begin_calls _).mono ?_; rintro e w' ⟨rfl, hb⟩)
  have hres : Tryz.f41.results = #[.tmp 0] := by kernel_rfl
  refine bodyPost_ret (v := .pointer (some ⟨w'.heap.size, 0, none⟩)) ?_ rfl ⟨_, rfl, ⟨(0, 0), ?_, fun j _ => by omega⟩, Below.size hb, ?_, hb.alloc (Below.size hb) _⟩
  · rw [results_tmp hres]; rfl
  · rw [heap_alloc_new]; rfl
  · simp

theorem blk11 : itemN L11a 2 = .block 1 (blockB (itemN L11a 2)) := by rfl
theorem id11 : loopId (itemN L11 3) = some 0 := by kernel_rfl
theorem len11 : lenL L11 = 6 := by kernel_rfl
def frT (b bb : Nat) (i : Nat) : List (Nat × Value) := [(5, .pointer (some ⟨b, 0, none⟩)), (11, .slice (some ⟨bb, 0, none⟩) 2 2), (13, .int .i64 (i : Int)), (12, .int .i64 2)]
theorem But_strs {B b : Nat} {w w' : World} (h : ButB B b w w') {v : Value} {xs : List ByteArray} (hX : StrsAt w v xs) (hlt : ∀ a n c, v = .slice (some a) n c → 0 < xs.length → a.block < B ∧ a.block ≠ b) : StrsAt w' v xs := by
  rcases hX with h0 | ⟨bk, o, c, hv, hc, hn, hb, hcell⟩
  · exact .inl h0
  · by_cases h0 : xs.length = 0
    · have hx : xs = [] := List.eq_nil_of_length_eq_zero h0
      subst hx
      exact .inl ⟨rfl, _, _, hv⟩
    · obtain ⟨h1, h2⟩ := hlt _ _ _ hv (by omega)
      refine .inr ⟨bk, o, c, hv, hc, hn, Nat.lt_of_lt_of_le hb h.size, fun j x hx => ?_⟩
      rw [World.cell?_of_block (w := w) (a := ⟨bk, o + j, none⟩) (h.block bk h1 h2)]
      exact hcell j x hx

set_option maxHeartbeats 1000000 in
set_option maxRecDepth 1000000 in
theorem tick_round {b base bb i : Nat} {T : List UInt8} {xs : List ByteArray} {lv : Value} {w : World} {a : Act} (hI : InvT b base T w) (hX : StrsAt w lv xs) (hc : w.cell? ⟨bb, i, none⟩ = some lv) (hxl : (catL xs).length ≤ 1073741824) (hT : T.length ≤ 1099511627776 - 1073741825) (hi2 : i < 2) (hbb : bb < base) (hbn : bb ≠ b)
    (hF : Fr 30 a (frT b bb i)) {Q : Exit → Act → World → Prop}
    (hQ : ∀ a' w', Fr 30 a' (frT b bb (i + 1)) → InvT b base (T ++ (catL xs ++ [UInt8.ofNat xs.length])) w' → ButB base b w w' → Q .normal a' w') : (loopB (itemN L11 3)).wp Tryz.prog Q a w := by
  refine wpL_codes ?_
  have hI' := Lib.hid hI
  have hX' := Lib.hid hX
  have hc' := Lib.hid hc
  have hQ' := Lib.hid hQ
  clear hI hX hc hQ
  have hi3 : (i : Int) < 2 := by omega
  obtain ⟨hs, hd, hsl⟩ := hF
  have h5 := hsl _ List.mem_cons_self
  have h11 := hsl _ (List.mem_cons_of_mem _ List.mem_cons_self)
  have h13 := hsl _ (List.mem_cons_of_mem _ (List.mem_cons_of_mem _ List.mem_cons_self))
  have h12 := hsl _ (List.mem_cons_of_mem _ (List.mem_cons_of_mem _ (List.mem_cons_of_mem _ List.mem_cons_self)))
  clear hsl
  obtain ⟨x0, x1, x2, x3, x4, x5, x6, x7, x8, x9, x10, x11, x12, x13, x14, x15, x16, x17, x18, x19, x20, x21, x22, x23, x24, x25, x26, x27, x28, x29, rfl⟩ := lit30 hs hd
  replace h5 : x5 = .pointer (some ⟨b, 0, none⟩) := h5
  replace h11 : x11 = .slice (some ⟨bb, 0, none⟩) 2 2 := h11
  replace h13 : x13 = .int .i64 (i : Int) := h13
  replace h12 : x12 = .int .i64 2 := h12
  subst h5
  subst h11
  subst h13
  subst h12
  clear hs hd
  refine wpL_lit (L' := [_, _, itemN L11a 2, itemN L11a 3]) (by rfl) ?_
  simp only [wpL]
  go_wp2
  rw [blk11]
  refine wp_block (wpL_codes ?_)
  show wpL _ L11b _ _ _
  refine tick_mid hI'.out hX'.out hc'.out hxl hT hi2 hbb hbn ⟨rfl, rfl, fun p hp => ?_⟩ fun a' w' hF' hI2 hbut => ?_
  · simp only [List.mem_cons, List.not_mem_nil, or_false] at hp
    rcases hp with rfl | rfl | rfl | rfl <;> rfl
  · show wpL Tryz.prog (L11a.drop 3) _ a' w'
    have hI2' := Lib.hid hI2
    have hbut' := Lib.hid hbut
    clear hI2 hbut hI' hX' hc'
    have hF := hF'
    clear hF'
    obtain ⟨hs, hd, hsl⟩ := hF
    have h5 := hsl _ List.mem_cons_self
    have h11 := hsl _ (List.mem_cons_of_mem _ List.mem_cons_self)
    have h13 := hsl _ (List.mem_cons_of_mem _ (List.mem_cons_of_mem _ List.mem_cons_self))
    have h12 := hsl _ (List.mem_cons_of_mem _ (List.mem_cons_of_mem _ (List.mem_cons_of_mem _ List.mem_cons_self)))
    clear hsl
    obtain ⟨x0, x1, x2, x3, x4, x5, x6, x7, x8, x9, x10, x11, x12, x13, x14, x15, x16, x17, x18, x19, x20, x21, x22, x23, x24, x25, x26, x27, x28, x29, rfl⟩ := lit30 hs hd
    replace h5 : x5 = .pointer (some ⟨b, 0, none⟩) := h5
    replace h11 : x11 = .slice (some ⟨bb, 0, none⟩) 2 2 := h11
    replace h13 : x13 = .int .i64 (i : Int) := h13
    replace h12 : x12 = .int .i64 2 := h12
    subst h5
    subst h11
    subst h13
    subst h12
    clear hs hd
    refine wpL_lit (L' := [_]) (by rfl) ?_
    simp only [wpL]
    go_wp2
    refine hQ'.out _ _ ⟨rfl, rfl, fun p hp => ?_⟩ hI2'.out hbut'.out
    simp only [frT, List.mem_cons, List.not_mem_nil, or_false] at hp
    rcases hp with rfl | rfl | rfl | rfl
    · rfl
    · rfl
    · show Value.int .i64 _ = _
      rw [Int.natCast_add]; rfl
    · rfl

set_option maxHeartbeats 1000000 in
set_option maxRecDepth 1000000 in
theorem tick_end {w : World} {b bb : Nat} {a : Act} (hF : Fr 30 a (frT b bb 2)) {Q : Exit → Act → World → Prop} (hQ : ∀ a', Fr 30 a' (frT b bb 2) → Q (.exit 0) a' w) : (loopB (itemN L11 3)).wp Tryz.prog Q a w := by
  refine wpL_codes ?_
  have hQ' := Lib.hid hQ
  clear hQ
  obtain ⟨hs, hd, hsl⟩ := hF
  have h5 := hsl _ List.mem_cons_self
  have h11 := hsl _ (List.mem_cons_of_mem _ List.mem_cons_self)
  have h13 := hsl _ (List.mem_cons_of_mem _ (List.mem_cons_of_mem _ List.mem_cons_self))
  have h12 := hsl _ (List.mem_cons_of_mem _ (List.mem_cons_of_mem _ (List.mem_cons_of_mem _ List.mem_cons_self)))
  clear hsl
  obtain ⟨x0, x1, x2, x3, x4, x5, x6, x7, x8, x9, x10, x11, x12, x13, x14, x15, x16, x17, x18, x19, x20, x21, x22, x23, x24, x25, x26, x27, x28, x29, rfl⟩ := lit30 hs hd
  replace h5 : x5 = .pointer (some ⟨b, 0, none⟩) := h5
  replace h11 : x11 = .slice (some ⟨bb, 0, none⟩) 2 2 := h11
  replace h13 : x13 = .int .i64 ((2 : Nat) : Int) := h13
  replace h12 : x12 = .int .i64 2 := h12
  subst h5
  subst h11
  subst h13
  subst h12
  clear hs hd
  refine wpL_lit (L' := [_, _, itemN L11a 2, itemN L11a 3]) (by rfl) ?_
  simp only [wpL]
  go_wp2
  refine hQ'.out _ ⟨rfl, rfl, fun p hp => ?_⟩
  simp only [frT, List.mem_cons, List.not_mem_nil, or_false] at hp
  rcases hp with rfl | rfl | rfl | rfl <;> rfl

/-- The text of which a ticket is the sum. -/
def tickL (xs ys : List ByteArray) : List UInt8 := catL xs ++ [UInt8.ofNat xs.length] ++ (catL ys ++ [UInt8.ofNat ys.length])

theorem sum_inv {b base : Nat} {T : List UInt8} {w : World} (hI : InvT b base T w) (hT : T.length ≤ 1073741824) : Calls Tryz.prog 44 #[.pointer (some ⟨b, 0, none⟩)] w fun e w' => e = .returned (str (shaF T)) ∧ Below w.heap.size w w' := by
  obtain ⟨h1, h2, held, hSt, hB⟩ := hI
  have hdl : (T.drop (64 * (T.length / 64))).length = T.length - 64 * (T.length / 64) := List.length_drop
  refine (sum_calls (absN_lt (T.length / 64) hw0_lt T) hSt hB (by omega) (by omega) (by omega)).mono ?_
  rintro e w' ⟨rfl, hb⟩
  refine ⟨?_, hb⟩
  have e1 : T.drop (64 * (T.length / 64)) ++ pad T.length = (T ++ pad T.length).drop (64 * (T.length / 64)) := by rw [List.drop_append_of_le_length (by omega)]
  have e2 : absN (T.length / 64) hw0 T = absN (T.length / 64) hw0 (T ++ pad T.length) := (absN_app _ _ _ _ (by omega)).symm
  have e3 : (T ++ pad T.length).length = T.length + (pad T.length).length := List.length_append
  rw [e1, e2, ← absN_add, List.length_drop, e3, show T.length / 64 + (T.length + (pad T.length).length - 64 * (T.length / 64)) / 64 = (T.length + (pad T.length).length) / 64 by omega]
  unfold shaF
  rw [e3]

set_option maxHeartbeats 1000000 in
set_option maxRecDepth 1000000 in
theorem ticket_calls {xs ys : List ByteArray} {v0 v1 : Value} {w : World} (hX : StrsAt w v0 xs) (hY : StrsAt w v1 ys) (hxl : (catL xs).length ≤ 268435456) (hyl : (catL ys).length ≤ 268435456) :
    Calls Tryz.prog 11 #[v0, v1] w fun e w' => e = .returned (str (shaF (tickL xs ys))) ∧ Below w.heap.size w w' := by
  have hbody : Tryz.f11.body = some (Tryz.f11.body.getD .skip) := by kernel_rfl
  have hres : Tryz.f11.results = #[.tmp 4] := by kernel_rfl
  have hlit : ∀ {v : Value} {zs : List ByteArray}, StrsAt w v zs → ∃ la n lc, v = .slice la n lc := by
    rintro v zs (⟨_, a, c, rfl⟩ | ⟨bk, o, c, rfl, _⟩)
    · exact ⟨_, _, _, rfl⟩
    · exact ⟨_, _, _, rfl⟩
  obtain ⟨la0, n0, lc0, rfl⟩ := hlit hX
  obtain ⟨la1, n1, lc1, rfl⟩ := hlit hY
  refine calls_of_wp Tryz.func11 hbody (wpL_codes ?_)
  have hF := fr_enter (args := [.slice la0 n0 lc0, .slice la1 n1 lc1]) (l := [(0, .slice la0 n0 lc0), (1, .slice la1 n1 lc1)]) Tryz.ntmps11 (by simp) (fun p hp => by
    simp only [List.mem_cons, List.not_mem_nil, or_false] at hp
    rcases hp with rfl | rfl <;> rfl)
  generalize hA : (⟨(⟨[.slice la0 n0 lc0, .slice la1 n1 lc1]⟩ : Array Value) ++ Array.replicate (Tryz.f11.ntmps - (⟨[.slice la0 n0 lc0, .slice la1 n1 lc1]⟩ : Array Value).size) undef, []⟩ : Act) = A at *
  clear hA
  have hX' := Lib.hid hX
  have hY' := Lib.hid hY
  clear hX hY hlit
  obtain ⟨hs, hd, hsl⟩ := hF
  have h0 := hsl _ List.mem_cons_self
  have h1 := hsl _ (List.mem_cons_of_mem _ List.mem_cons_self)
  clear hsl
  obtain ⟨x0, x1, x2, x3, x4, x5, x6, x7, x8, x9, x10, x11, x12, x13, x14, x15, x16, x17, x18, x19, x20, x21, x22, x23, x24, x25, x26, x27, x28, x29, rfl⟩ := lit30 hs hd
  replace h0 : x0 = .slice la0 n0 lc0 := h0
  replace h1 : x1 = .slice la1 n1 lc1 := h1
  subst h0
  subst h1
  clear hs hd
  refine wpL_lit (L' := [_, _, _] ++ L11.drop 3) (by rfl) ?_
  simp only [List.cons_append, List.nil_append, wpL]
  go_wp2_with (go_at_call 41; refine (new_calls _).mono ?_; rintro e w' ⟨b, rfl, hSt, hwb, hb, hbel⟩; have hSt' := Lib.hid hSt; have hbel' := Lib.hid hbel; clear hSt hbel)
  obtain ⟨bb, hbb⟩ : ∃ bb, bb = w'.heap.size := ⟨_, rfl⟩
  have hW : ∃ W, W = w'.alloc (.cells #[.slice la0 n0 lc0, .slice la1 n1 lc1] 23) := ⟨_, rfl⟩
  obtain ⟨W, hW⟩ := hW
  rw [← hbb, ← hW]
  have hbW : Below w.heap.size w W := by rw [hW]; exact hbel'.out.alloc (Below.size hbel'.out) _
  have hWs : W.heap.size = bb + 1 := by rw [hW, hbb]; simp
  have hWb : W.heap[bb]? = some (.cells #[.slice la0 n0 lc0, .slice la1 n1 lc1] 23 (0, 0)) := by rw [hW, hbb]; exact heap_alloc_new w' _
  have hblt : b < bb := by omega
  have hI0 : InvT b (bb + 1) [] W := by
    refine ⟨by omega, by omega, .slice none 0 0, ?_, .inl ⟨rfl, rfl⟩⟩
    exact hSt'.out.but (by rw [hW]; exact Below.heap_alloc _ _ _ (by omega))
  have hX2 : StrsAt W (.slice la0 n0 lc0) xs := hX'.out.below (w' := W) hbW
  have hY2 : StrsAt W (.slice la1 n1 lc1) ys := hY'.out.below (w' := W) hbW
  have hfar : ∀ {v : Value} {zs : List ByteArray}, StrsAt w v zs → ∀ a n c, v = .slice (some a) n c → 0 < zs.length → a.block < bb + 1 ∧ a.block ≠ b := by
    rintro v zs (⟨rfl, _⟩ | ⟨bk, o, c', rfl, _, _, hb', _⟩) a n c hv hz
    · simp at hz
    · cases hv
      constructor
      · show bk < bb + 1; omega
      · show bk ≠ b; omega
  have hcell : ∀ w2, ButB (bb + 1) b W w2 → w2.cell? ⟨bb, 0, none⟩ = some (.slice la0 n0 lc0) ∧ w2.cell? ⟨bb, 1, none⟩ = some (.slice la1 n1 lc1) := fun w2 h => by
    have := h.block bb (by omega) (by omega)
    rw [hWb] at this
    exact ⟨by rw [cell_of_row w2 bb 0 _ _ _ this]; rfl, by rw [cell_of_row w2 bb 1 _ _ _ this]; rfl⟩
  have hXf := hfar hX'.out
  have hYf := hfar hY'.out
  clear hfar
  refine wpL_loop (by rw [len11]; decide) id11 ?_
  refine wp_loop_n (I := fun k a' w2 => ButB (bb + 1) b W w2 ∧ ((k = 2 ∧ Fr 30 a' (frT b bb 0) ∧ InvT b (bb + 1) [] w2) ∨ (k = 1 ∧ Fr 30 a' (frT b bb 1) ∧ InvT b (bb + 1) ([] ++ (catL xs ++ [UInt8.ofNat xs.length])) w2) ∨ (k = 0 ∧ Fr 30 a' (frT b bb 2) ∧ InvT b (bb + 1) ([] ++ (catL xs ++ [UInt8.ofNat xs.length]) ++ (catL ys ++ [UInt8.ofNat ys.length])) w2))) ?_ 2 _ _ ⟨ButB.refl _ _ _, .inl ⟨rfl, ⟨rfl, rfl, fun p hp => ?_⟩, hI0⟩⟩
  · rintro k a' w2 ⟨hB2, ⟨rfl, hF2, hI2⟩ | ⟨rfl, hF2, hI2⟩ | ⟨rfl, hF2, hI2⟩⟩
    · exact tick_round hI2 (But_strs hB2 hX2 hXf) (hcell w2 hB2).1 (by omega) (by simp) (by decide) (by omega) (by omega) hF2 fun a3 w3 hF3 hI3 hB3 => ⟨1, by decide, hB2.trans hB3, .inr (.inl ⟨rfl, hF3, hI3⟩)⟩
    · exact tick_round hI2 (But_strs hB2 hY2 hYf) (hcell w2 hB2).2 (by omega) (by simp; omega) (by decide) (by omega) (by omega) hF2 fun a3 w3 hF3 hI3 hB3 => ⟨0, by decide, hB2.trans hB3, .inr (.inr ⟨rfl, hF3, hI3⟩)⟩
    · refine tick_end hF2 fun a3 hF3 => ?_
      show wpL Tryz.prog (L11.drop 4) _ a3 w2
      have hT : (tickL xs ys).length ≤ 1073741824 := by unfold tickL; simp; omega
      have hsum := sum_inv (T := tickL xs ys) hI2 hT
      have hsum' := Lib.hid hsum
      have hB2' := Lib.hid hB2
      clear hsum hI2 hB2 hF2
      have hF := hF3
      clear hF3
      obtain ⟨hs, hd, hsl⟩ := hF
      have h5 := hsl _ List.mem_cons_self
      have h11 := hsl _ (List.mem_cons_of_mem _ List.mem_cons_self)
      have h13 := hsl _ (List.mem_cons_of_mem _ (List.mem_cons_of_mem _ List.mem_cons_self))
      have h12 := hsl _ (List.mem_cons_of_mem _ (List.mem_cons_of_mem _ (List.mem_cons_of_mem _ List.mem_cons_self)))
      clear hsl
      obtain ⟨x0, x1, x2, x3, x4, x5, x6, x7, x8, x9, x10, x11, x12, x13, x14, x15, x16, x17, x18, x19, x20, x21, x22, x23, x24, x25, x26, x27, x28, x29, rfl⟩ := lit30 hs hd
      replace h5 : x5 = .pointer (some ⟨b, 0, none⟩) := h5
      replace h11 : x11 = .slice (some ⟨bb, 0, none⟩) 2 2 := h11
      replace h13 : x13 = .int .i64 ((2 : Nat) : Int) := h13
      replace h12 : x12 = .int .i64 2 := h12
      subst h5
      subst h11
      subst h13
      subst h12
      clear hs hd
      refine wpL_lit (L' := [_, _]) (by rfl) ?_
      simp only [wpL]
      go_wp2_with (go_at_call 44; refine hsum'.out.mono ?_; rintro e w3 ⟨rfl, hb3⟩)
      refine bodyPost_ret (v := str (shaF (tickL xs ys))) ?_ rfl ⟨rfl, ?_⟩
      · rw [results_tmp hres]; rfl
      · have hsz := hB2'.out.size
        have hsw := Below.size hbW
        exact (hbW.trans ⟨hB2'.out.os, hB2'.out.tape, hB2'.out.output, hB2'.out.size, fun k hk => hB2'.out.block k (by omega) (by omega)⟩).trans (hb3.mono (by omega))
  · simp only [frT, List.mem_cons, List.not_mem_nil, or_false] at hp
    rcases hp with rfl | rfl | rfl | rfl <;> rfl
end Go.Proofs
