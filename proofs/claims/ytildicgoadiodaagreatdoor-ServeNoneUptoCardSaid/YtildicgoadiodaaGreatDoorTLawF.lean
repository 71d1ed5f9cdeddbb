/- The law's walk: the sums held against each other. -/
import Derived.Test.YtildicgoadiodaaGreatDoorTLawD
/-! The law's walk: the sums held against each other. -/
namespace Go.Proofs
open Go.RowKit Go.Ev
theorem sum_txt {T : List UInt8} (hT : T.length ≤ 1073741824) (S : ByteArray) (hS : S = ⟨⟨shaF T⟩⟩) (w : World) : Calls Tryz.prog 8 #[str T] w fun e w' => e = .returned (.string S) ∧ Below w.heap.size w w' := by
  subst hS; exact ref_sum T hT w
theorem bind_txt (P : ByteArray) (hP : P = ⟨⟨bindL⟩⟩) (w : World) : Calls Tryz.prog 9 #[.slice none 0 0] w fun e w' => e = .returned (.tuple #[.string P, .int .i64 0]) ∧ Below w.heap.size w w' := by
  subst hP; exact bind_calls w

set_option maxHeartbeats 4000000 in
set_option maxRecDepth 1000000 in
theorem law_tail {B n m : Nat} {pa qa : Option Addr} {pc qc : Nat} {xs ys : List ByteArray} {c0 c1 c4 c5 c6 c7 c8 : Value} {w0 w : World} {a : Act} (hb0 : Below w0.heap.size w0 w) (hBs : B < w.heap.size)
    (hB : w.heap[B]? = some (.cells #[c0, c1, .slice pa n pc, .slice qa m qc, c4, c5, c6, c7, c8] 26 (0, 0))) (hX : StrsAt w (.slice pa n pc) xs) (hY : StrsAt w (.slice qa m qc) ys)
    (hxl : (catL xs).length ≤ 268435456) (hyl : (catL ys).length ≤ 268435456) (S : ByteArray) (hS : S = ⟨⟨shaF (tickL xs ys)⟩⟩) {L M : List UInt8} (hF : Fr 131 a ((12, .string S) :: frL B L M)) : wpL Tryz.prog (L3.drop 12) (bodyPost Tryz.prog Tryz.f3 (fun e w' => e = .returned (.bool true) ∧ Below w0.heap.size w0 w')) a w := by
  have hcl : ∀ j v, ([c0, c1, .slice pa n pc, .slice qa m qc, c4, c5, c6, c7, c8] : List Value)[j]? = some v → w.cell? ⟨B, j, none⟩ = some v := fun j v h => by
    rw [cell_of_row w B j _ _ _ hB]
    simpa using h
  have hc2 := hcl 2 _ rfl
  have hc3 := hcl 3 _ rfl
  have hc0 := hcl 0 _ rfl
  have hc1 := hcl 1 _ rfl
  have hc4 := hcl 4 _ rfl
  have hc5 := hcl 5 _ rfl
  have hc6 := hcl 6 _ rfl
  have hc7 := hcl 7 _ rfl
  have hc8 := hcl 8 _ rfl
  clear hcl
  obtain ⟨P, hP⟩ : ∃ P : ByteArray, P = ⟨⟨bindL⟩⟩ := ⟨_, rfl⟩
  have hPs : (32 : Int) < (P.size : Int) := by rw [hP]; decide
  have hPs2 : (P.size : Int) ≤ 9223372036854775807 := by rw [hP]; decide
  have hbind := fun W => bind_txt P hP W
  have htick : ∀ W, Sb w W → Calls Tryz.prog 11 #[.slice pa n pc, .slice qa m qc] W fun e w' => e = .returned (.string S) ∧ Below W.heap.size W w' := fun W hW => by
    rw [hS]; exact ticket_calls (hX.below hW) (hY.below hW) hxl hyl
  have hbind' := Lib.hid hbind
  have htick' := Lib.hid htick
  have hb0' := Lib.hid hb0
  clear hb0 hbind htick hX hY hB hS hP
  obtain ⟨hs, hd, hsl⟩ := hF
  have h12 := hsl _ List.mem_cons_self
  have h1 := hsl _ (List.mem_cons_of_mem _ List.mem_cons_self)
  have h3 := hsl _ (List.mem_cons_of_mem _ (List.mem_cons_of_mem _ List.mem_cons_self))
  have h5 := hsl _ (List.mem_cons_of_mem _ (List.mem_cons_of_mem _ (List.mem_cons_of_mem _ List.mem_cons_self)))
  have h7 := hsl _ (List.mem_cons_of_mem _ (List.mem_cons_of_mem _ (List.mem_cons_of_mem _ (List.mem_cons_of_mem _ List.mem_cons_self))))
  have h8 := hsl _ (List.mem_cons_of_mem _ (List.mem_cons_of_mem _ (List.mem_cons_of_mem _ (List.mem_cons_of_mem _ (List.mem_cons_of_mem _ List.mem_cons_self)))))
  have h9 := hsl _ (List.mem_cons_of_mem _ (List.mem_cons_of_mem _ (List.mem_cons_of_mem _ (List.mem_cons_of_mem _ (List.mem_cons_of_mem _ (List.mem_cons_of_mem _ List.mem_cons_self))))))
  clear hsl
  obtain ⟨f, rfl⟩ := lit131 hs hd
  replace h12 : f 12 = .string S := h12
  replace h1 : f 1 = .pointer (some ⟨B, 0, none⟩) := h1
  replace h3 : f 3 = .pointer none := h3
  replace h5 : f 5 = .int .i64 7 := h5
  replace h7 : f 7 = .int .i64 1 := h7
  replace h8 : f 8 = str L := h8
  replace h9 : f 9 = str M := h9
  rw [h12, h1, h3, h5, h7, h8, h9]
  clear hs hd h12 h1 h3 h5 h7 h8 h9
  refine wpL_lit (L' := [_, _, _]) (by rfl) ?_
  simp only [wpL]
  go_wp2_with (first
    | (go_at_call 9; refine (hbind'.out _).mono ?_; rintro e w1 ⟨rfl, hb1⟩; obtain ⟨hcc1, hff1⟩ := bcell hb1; have hBs1 := Nat.lt_of_lt_of_le hBs (Below.size hb1); have hb1' := Lib.hid hb1; clear hb1)
    | (go_at_call 7; refine (awake_calls _).mono ?_; rintro e w2 ⟨rfl, hb2⟩; obtain ⟨hcc2, hff2⟩ := bcell hb2; have hBs2 := Nat.lt_of_lt_of_le hBs1 (Below.size hb2); have hb2' := Lib.hid hb2; clear hb2)
    | (go_at_call 10; refine (handle_calls _ _ _ _ _ _ _ _ _ _).mono ?_; rintro e w3 ⟨rfl, hb3⟩; obtain ⟨hcc3, hff3⟩ := bcell hb3; have hBs3 := Nat.lt_of_lt_of_le hBs2 (Below.size hb3); have hb3' := Lib.hid hb3; clear hb3)
    | (go_at_call 11; refine (htick'.out _ (Sb.trans (Sb.trans (Sb.trans (Sb.refl _) hb1'.out) hb2'.out) hb3'.out)).mono ?_; rintro e w4 ⟨rfl, hb4⟩; have hb4' := Lib.hid hb4; clear hb4))
  have hsz0 := Below.size hb0'.out
  have hsz1 := Below.size hb1'.out
  have hsz2 := Below.size hb2'.out
  have hsz3 := Below.size hb3'.out
  exact bodyTrue rfl rfl ((((hb0'.out.trans (hb1'.out.mono hsz0)).trans (hb2'.out.mono (by omega))).trans (hb3'.out.mono (by omega))).trans (hb4'.out.mono (by omega)))

set_option maxHeartbeats 4000000 in
set_option maxRecDepth 1000000 in
theorem law_few {B n m : Nat} {pa qa : Option Addr} {pc qc : Nat} {xs ys : List ByteArray} {c0 c1 c4 c5 c6 c7 c8 : Value} {w0 w : World} {a : Act} (hb0 : Below w0.heap.size w0 w) (hBs : B < w.heap.size)
    (hB : w.heap[B]? = some (.cells #[c0, c1, .slice pa n pc, .slice qa m qc, c4, c5, c6, c7, c8] 26 (0, 0))) (hn : n = xs.length) (hm : m = ys.length) (hX : StrsAt w (.slice pa n pc) xs) (hY : StrsAt w (.slice qa m qc) ys)
    (hxl : (catL xs).length ≤ 268435456) (hyl : (catL ys).length ≤ 268435456) (hn60 : n ≤ 60) (hm60 : m ≤ 60) (hF : Fr 131 a (frL B (catL xs) (catL ys))) : wpL Tryz.prog (L3.drop 9) (bodyPost Tryz.prog Tryz.f3 (fun e w' => e = .returned (.bool true) ∧ Below w0.heap.size w0 w')) a w := by
  have hc2 : w.cell? ⟨B, 2, none⟩ = some (.slice pa n pc) := by rw [cell_of_row w B 2 _ _ _ hB]; rfl
  have hc3 : w.cell? ⟨B, 3, none⟩ = some (.slice qa m qc) := by rw [cell_of_row w B 3 _ _ _ hB]; rfl
  have hcs : ∀ j v, ([c0, c1, .slice pa n pc, .slice qa m qc, c4, c5, c6, c7, c8] : List Value)[j]? = some v → w.cell? ((⟨B, 0, none⟩ : Addr).add j) = some v := fun j v h => by
    have hadd : (⟨B, 0, none⟩ : Addr).add j = ⟨B, j, none⟩ := by unfold Addr.add; split <;> simp_all
    rw [hadd, cell_of_row w B j _ _ _ hB]
    simpa using h
  have hcv0 := conv_one (n : Int) (by omega)
  have hcv1 := conv_one (m : Int) (by omega)
  obtain ⟨b0, hb0e⟩ : ∃ b0 : UInt8, b0 = UInt8.ofNat (n : Int).toNat := ⟨_, rfl⟩
  obtain ⟨b1, hb1e⟩ : ∃ b1 : UInt8, b1 = UInt8.ofNat (m : Int).toNat := ⟨_, rfl⟩
  rw [← hb0e] at hcv0
  rw [← hb1e] at hcv1
  have hadd1 := fun W => add_str W (l := catL xs) (m := [b0]) (by simp; omega)
  have hadd2 := fun W => add_str W (l := catL xs ++ [b0]) (m := catL ys) (by simp; omega)
  have hadd3 := fun W => add_str W (l := catL xs ++ b0 :: catL ys) (m := [b1]) (by simp; omega)
  have e0 : b0 = UInt8.ofNat xs.length := by rw [hb0e, hn]; rfl
  have e1 : b1 = UInt8.ofNat ys.length := by rw [hb1e, hm]; rfl
  have hT : catL xs ++ b0 :: (catL ys ++ [b1]) = tickL xs ys := by rw [e0, e1]; unfold tickL; simp
  have hTl : (catL xs ++ b0 :: (catL ys ++ [b1])).length ≤ 1073741824 := by simp; omega
  obtain ⟨S, hS⟩ : ∃ S : ByteArray, S = ⟨⟨shaF (tickL xs ys)⟩⟩ := ⟨_, rfl⟩
  have hsum := fun W => sum_txt hTl S (by rw [hS, hT]) W
  have htail : ∀ W, Sb w W → ∀ a', Fr 131 a' ((12, .string S) :: frL B (catL xs) (catL ys)) → wpL Tryz.prog (L3.drop 12) (bodyPost Tryz.prog Tryz.f3 (fun e w' => e = .returned (.bool true) ∧ Below w0.heap.size w0 w')) a' W := fun W hW a' hF' =>
    law_tail (hb0.trans (Below.mono hW (Below.size hb0))) (Nat.lt_of_lt_of_le hBs (Below.size hW)) (by rw [Below.block hW B hBs]; exact hB) (hX.below hW) (hY.below hW) hxl hyl S hS hF'
  have htail' := Lib.hid htail
  have hcs' := Lib.hid hcs
  have hsum' := Lib.hid hsum
  clear hb0 hcs hsum htail hX hY hB hn hm hb0e hb1e e0 e1 hT hTl hS
  have hn1 : ¬ (60 : Int) < (n : Int) := by omega
  have hm1 : ¬ (60 : Int) < (m : Int) := by omega
  obtain ⟨hs, hd, hsl⟩ := hF
  have h1 := hsl _ List.mem_cons_self
  have h3 := hsl _ (List.mem_cons_of_mem _ List.mem_cons_self)
  have h5 := hsl _ (List.mem_cons_of_mem _ (List.mem_cons_of_mem _ List.mem_cons_self))
  have h7 := hsl _ (List.mem_cons_of_mem _ (List.mem_cons_of_mem _ (List.mem_cons_of_mem _ List.mem_cons_self)))
  have h8 := hsl _ (List.mem_cons_of_mem _ (List.mem_cons_of_mem _ (List.mem_cons_of_mem _ (List.mem_cons_of_mem _ List.mem_cons_self))))
  have h9 := hsl _ (List.mem_cons_of_mem _ (List.mem_cons_of_mem _ (List.mem_cons_of_mem _ (List.mem_cons_of_mem _ (List.mem_cons_of_mem _ List.mem_cons_self)))))
  clear hsl
  obtain ⟨f, rfl⟩ := lit131 hs hd
  replace h1 : f 1 = .pointer (some ⟨B, 0, none⟩) := h1
  replace h3 : f 3 = .pointer none := h3
  replace h5 : f 5 = .int .i64 7 := h5
  replace h7 : f 7 = .int .i64 1 := h7
  replace h8 : f 8 = str (catL xs) := h8
  replace h9 : f 9 = str (catL ys) := h9
  rw [h1, h3, h5, h7, h8, h9]
  clear hs hd h1 h3 h5 h7 h8 h9
  refine wpL_lit (L' := [_, _, _] ++ L3.drop 12) (by rfl) ?_
  simp only [List.cons_append, List.nil_append, wpL]
  go_wp2_with (go_at_call 8; refine (hsum'.out _).mono ?_; rintro e w1 ⟨rfl, hb1⟩; obtain ⟨hcc1, hff1⟩ := bcell hb1; have hb1' := Lib.hid hb1; clear hb1)
  refine htail'.out _ (Sb.trans (((Sb.refl w).alloc _).alloc _) hb1'.out) _ ⟨rfl, rfl, fun p hp => ?_⟩
  simp only [frL, List.mem_cons, List.not_mem_nil, or_false] at hp
  rcases hp with rfl | rfl | rfl | rfl | rfl | rfl | rfl <;> rfl

/-- THE LAW: it answers true. -/
theorem law_calls {xs ys : List ByteArray} {c0 c1 c2 c3 c4 c5 c6 c7 c8 : Value} {w : World} (hX : StrsAt w c2 xs) (hY : StrsAt w c3 ys) (hxl : (catL xs).length ≤ 268435456) (hyl : (catL ys).length ≤ 268435456) (hxn : xs.length ≤ 140737488355328) (hyn : ys.length ≤ 140737488355328) :
    Calls Tryz.prog 3 #[.agg #[c0, c1, c2, c3, c4, c5, c6, c7, c8]] w fun e w' => e = .returned (.bool true) ∧ Below w.heap.size w w' := by
  have hbody : Tryz.f3.body = some (Tryz.f3.body.getD .skip) := by kernel_rfl
  have hlit : ∀ {v : Value} {zs : List ByteArray}, StrsAt w v zs → ∃ la lc, v = .slice la zs.length lc := by
    rintro v zs (⟨rfl, a, c, rfl⟩ | ⟨bk, o, c, rfl, _⟩)
    · exact ⟨_, _, rfl⟩
    · exact ⟨_, _, rfl⟩
  obtain ⟨pa, pc, rfl⟩ := hlit hX
  obtain ⟨qa, qc, rfl⟩ := hlit hY
  refine calls_of_wp Tryz.func3 hbody (wpL_codes ?_)
  refine law_head (fr_enter (args := [.agg #[c0, c1, .slice pa xs.length pc, .slice qa ys.length qc, c4, c5, c6, c7, c8]]) Tryz.ntmps3 (by simp) fun p hp => by
    simp only [List.mem_cons, List.not_mem_nil, or_false] at hp
    subst hp; rfl) fun a1 hF1 => ?_
  obtain ⟨W, hW⟩ : ∃ W, W = w.alloc (.cells #[c0, c1, .slice pa xs.length pc, .slice qa ys.length qc, c4, c5, c6, c7, c8] 26) := ⟨_, rfl⟩
  have hB : W.heap[w.heap.size]? = some (.cells #[c0, c1, .slice pa xs.length pc, .slice qa ys.length qc, c4, c5, c6, c7, c8] 26 (0, 0)) := by rw [hW]; exact heap_alloc_new w _
  have hBs : w.heap.size < W.heap.size := by rw [hW]; simp
  have hbel : Below w.heap.size w W := by rw [hW]; exact (Below.refl _ _).alloc (Nat.le_refl _) _
  have hc2 : W.cell? ⟨w.heap.size, 2, none⟩ = some (.slice pa xs.length pc) := by rw [cell_of_row W _ 2 _ _ _ hB]; rfl
  have hc3 : W.cell? ⟨w.heap.size, 3, none⟩ = some (.slice qa ys.length qc) := by rw [cell_of_row W _ 3 _ _ _ hB]; rfl
  have hX2 : StrsAt W (.slice pa xs.length pc) xs := hX.below (w' := W) hbel
  have hY2 : StrsAt W (.slice qa ys.length qc) ys := hY.below (w' := W) hbel
  rw [← hW]
  refine law_loopA hX2 rfl hc2 hxl hF1 fun a2 hF2 => law_mid hF2 fun a3 hF3 => law_loopB hY2 rfl hc3 hyl hF3 fun a4 hF4 => ?_
  by_cases h60 : 60 < xs.length ∨ 60 < ys.length
  · exact law_much hbel hc2 hc3 (by omega) (by omega) h60 hF4
  · have e1 : xs.take 60 = xs := List.take_of_length_le (by omega)
    have e2 : ys.take 60 = ys := List.take_of_length_le (by omega)
    rw [e1, e2] at hF4
    exact law_few hbel hBs hB rfl rfl hX2 hY2 hxl hyl (by omega) (by omega) hF4
end Go.Proofs
