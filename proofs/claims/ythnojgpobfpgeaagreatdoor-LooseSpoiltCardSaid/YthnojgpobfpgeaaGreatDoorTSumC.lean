/- (*State).Sum: eight bytes. -/
import Derived.Test.YthnojgpobfpgeaaGreatDoorTSumA
import Derived.Test.YthnojgpobfpgeaaGreatDoorTSumR
/-! (*State).Sum: eight bytes. -/
namespace Go.Proofs
open Go.RowKit Go.Ev
noncomputable def L44e : List Code := codes (loopB (itemN L44 7))
theorem id44e : loopId (itemN L44 7) = some 2 := by kernel_rfl
theorem byte_eq (many i : Nat) (hi : i < 8) : (many : Int) * 8 / 2 ^ (8 * (7 - i)) % 256 = ((bC (many * 8) i).toNat : Int) := by
 unfold bC
 rw [UInt8.toNat_ofNat', show 56 - 8 * i = 8 * (7 - i) by omega, Int.natCast_emod, Int.natCast_ediv, Int.natCast_mul, Int.natCast_pow]
 rfl
structure InvI (b many : Nat) (hw : Nat → Nat) (held : Value) (w0 : World) (l : List UInt8) (i : Nat) (a : Act) (w : World) : Prop where
 fr : ∃ p, Fr 75 a [(0, .pointer (some ⟨b, 0, none⟩)), (3, p), (28, .int .i64 (i : Int))] ∧ BytesAt w w0.heap.size 5 p l
 st : StAt w b hw held many
 below : Below w0.heap.size w0 w
set_option maxHeartbeats 1000000 in
set_option maxRecDepth 1000000 in
theorem sum_byte {b many : Nat} {hw : Nat → Nat} {held : Value} {l : List UInt8} {w0 w : World} (hm : many ≤ 1099511627776) (hl : l.length ≤ 1099511627776) (i : Nat) (hi8 : i < 8) {a : Act} (hI : InvI b many hw held w0 l i a w) (hblt : b < w0.heap.size) {Q : Exit → Act → World → Prop}
  (hQ : ∀ a' w', InvI b many hw held w0 (l ++ [bC (many * 8) i]) (i + 1) a' w' → Q .normal a' w') : (loopB (itemN L44 7)).wp Tryz.prog Q a w := by
 refine wpL_codes ?_
 obtain ⟨i0, hi, hz0, hz1, hz2⟩ := info_parts infoB
 obtain ⟨⟨p, hF, hB⟩, hS, hbel⟩ := hI
 have hsz := hbel.size
 obtain ⟨pa, pc, hv, hnc⟩ := hB.len
 obtain ⟨n, hn⟩ : ∃ n, n = l.length := ⟨_, rfl⟩
 rw [← hn] at hv hnc
 subst hv
 have hc9 := hS.cell9
 have hbv : (bcells [bC (many * 8) i]).toArray = #[Value.int .u8 ((many : Int) * 8 / 2 ^ (8 * (7 - i)) % 256)] := by rw [byte_eq many i hi8]; rfl
 obtain ⟨hs, hd, hsl⟩ := hF
 have h0 := hsl _ List.mem_cons_self
 have h3 := hsl _ (List.mem_cons_of_mem _ List.mem_cons_self)
 have h28 := hsl _ (List.mem_cons_of_mem _ (List.mem_cons_of_mem _ List.mem_cons_self))
 clear hsl
 obtain ⟨x0, x1, x2, x3, x4, x5, x6, x7, x8, x9, x10, x11, x12, x13, x14, x15, x16, x17, x18, x19, x20, x21, x22, x23, x24, x25, x26, x27, x28, x29, x30, x31, x32, x33, x34, x35, x36, x37, x38, x39, x40, x41, x42, x43, x44, x45, x46, x47, x48, x49, x50, x51, x52, x53, x54, x55, x56, x57, x58, x59, x60, x61, x62, x63, x64, x65, x66, x67, x68, x69, x70, x71, x72, x73, x74, rfl⟩ := lit75 hs hd
 replace h0 : x0 = .pointer (some ⟨b, 0, none⟩) := h0
 replace h3 : x3 = .slice pa n pc := h3
 replace h28 : x28 = .int .i64 (i : Int) := h28
 subst h0
 subst h3
 subst h28
 clear hs hd
 have hbw : Below w0.heap.size w0 (w.alloc (.cells #[.int .u8 ((many : Int) * 8 / 2 ^ (8 * (7 - i)) % 256)] 5)) := hbel.alloc hsz _
 have hBa := Lib.hid (bytes_alloc hB (.cells #[.int .u8 ((many : Int) * 8 / 2 ^ (8 * (7 - i)) % 256)] 5))
 have hsrc : Src Tryz.prog 1 71 (.slice (some ⟨w.heap.size, 0, none⟩) 1 1) [bC (many * 8) i].length (bcells [bC (many * 8) i]) (w.alloc (.cells #[.int .u8 ((many : Int) * 8 / 2 ^ (8 * (7 - i)) % 256)] 5)) := BytesAt.src _ Tryz.underlying71 (bytes_new w w.heap.size 5 [bC (many * 8) i] (Nat.le_refl _) (show 1 ≤ maxLen by decide) 1 rfl _ hbv.symm)
 have hsrc' := Lib.hid hsrc
 have hlb : l.length + [bC (many * 8) i].length ≤ 140737488355328 := by simp; omega
 have hlb' := Lib.hid hlb
 have hS' := Lib.hid hS
 have hbw' := Lib.hid hbw
 have hrow := Lib.hid fun k hk => (hB.lt k hk).1
 have hQ' := Lib.hid hQ
 clear hS hB hQ hsrc hlb hbw hbel hn hbv
 refine wpL_lit (L' := [_, _, _, _]) (by rfl) ?_
 simp only [wpL]
 go_wp2_with (at_builtin; refine wpList_append_src _ rfl (.tmp 31) (.tmp 42) 71 71 rfl w0.heap.size 5 i0 Tryz.underlying71 hi hz0 hz1 hz2 (.slice pa n pc) l rfl hBa.out [bC (many * 8) i] hsrc'.out hlb'.out (by simp; omega) ?_; intro v' w1 hB1 hg1 hn1; have hB1' := Lib.hid hB1; have hg1' := Lib.hid hg1; clear hB1 hg1 hn1)
 have hbw1 : Below w0.heap.size w0 w1 := hbw'.out.grown hg1'.out (by simp; omega) hrow.out
 have hbw2 : Below w0.heap.size w w1 := ((Below.refl w0.heap.size w).alloc hsz _).grown hg1'.out (by simp; omega) hrow.out
 refine hQ'.out _ _ ⟨⟨v', ⟨rfl, rfl, fun p hp => ?_⟩, hB1'.out⟩, hS'.out.below hbw2 hblt, hbw1⟩
 simp only [List.mem_cons, List.not_mem_nil, or_false] at hp
 rcases hp with rfl | rfl | rfl
 ·
  rfl
 ·
  rfl
 ·
  show Value.int .i64 _ = _
  rw [Int.natCast_add]; rfl

set_option maxHeartbeats 1000000 in
set_option maxRecDepth 1000000 in
theorem sum_byte_end {b many : Nat} {hw : Nat → Nat} {held : Value} {l : List UInt8} {w0 w : World} {a : Act} (hI : InvI b many hw held w0 l 8 a w) {Q : Exit → Act → World → Prop}
  (hQ : ∀ a', InvP b many hw held w0 l a' w → Q (.exit 2) a' w) : (loopB (itemN L44 7)).wp Tryz.prog Q a w := by
 refine wpL_codes ?_
 obtain ⟨⟨p, hF, hB⟩, hS, hbel⟩ := hI
 have hB' := Lib.hid hB
 have hS' := Lib.hid hS
 have hbel' := Lib.hid hbel
 have hQ' := Lib.hid hQ
 clear hB hS hbel hQ
 obtain ⟨hs, hd, hsl⟩ := hF
 have h0 := hsl _ List.mem_cons_self
 have h3 := hsl _ (List.mem_cons_of_mem _ List.mem_cons_self)
 have h28 := hsl _ (List.mem_cons_of_mem _ (List.mem_cons_of_mem _ List.mem_cons_self))
 clear hsl
 obtain ⟨x0, x1, x2, x3, x4, x5, x6, x7, x8, x9, x10, x11, x12, x13, x14, x15, x16, x17, x18, x19, x20, x21, x22, x23, x24, x25, x26, x27, x28, x29, x30, x31, x32, x33, x34, x35, x36, x37, x38, x39, x40, x41, x42, x43, x44, x45, x46, x47, x48, x49, x50, x51, x52, x53, x54, x55, x56, x57, x58, x59, x60, x61, x62, x63, x64, x65, x66, x67, x68, x69, x70, x71, x72, x73, x74, rfl⟩ := lit75 hs hd
 replace h0 : x0 = .pointer (some ⟨b, 0, none⟩) := h0
 replace h3 : x3 = p := h3
 replace h28 : x28 = .int .i64 ((8 : Nat) : Int) := h28
 subst h0
 subst h3
 subst h28
 clear hs hd
 refine wpL_lit (L' := [_, _, itemN L44e 2, itemN L44e 3]) (by rfl) ?_
 simp only [wpL]
 go_wp2
 refine hQ'.out _ ⟨⟨_, ⟨rfl, rfl, fun p hp => ?_⟩, hB'.out⟩, hS'.out, hbel'.out⟩
 simp only [List.mem_cons, List.not_mem_nil, or_false] at hp
 rcases hp with rfl | rfl <;> rfl

set_option maxHeartbeats 1000000 in
set_option maxRecDepth 1000000 in
theorem sum_eight {b many : Nat} {hw : Nat → Nat} {held : Value} {l : List UInt8} {w0 w : World} (hm : many ≤ 1099511627776) (hl : l.length ≤ 1073741824 + 200) {a : Act} (hI : InvP b many hw held w0 l a w) (hblt : b < w0.heap.size) {Q : Exit → Act → World → Prop}
  (hQ : ∀ a' w', InvP b many hw held w0 (tC l (many * 8) 8) a' w' → wpL Tryz.prog (L44.drop 8) Q a' w') : wpL Tryz.prog (L44.drop 6) Q a w := by
 obtain ⟨⟨p, hF, hB⟩, hS, hbel⟩ := hI
 have hB' := Lib.hid hB
 have hS' := Lib.hid hS
 have hbel' := Lib.hid hbel
 have hQ' := Lib.hid hQ
 clear hB hS hbel hQ
 obtain ⟨hs, hd, hsl⟩ := hF
 have h0 := hsl _ List.mem_cons_self
 have h3 := hsl _ (List.mem_cons_of_mem _ List.mem_cons_self)
 clear hsl
 obtain ⟨x0, x1, x2, x3, x4, x5, x6, x7, x8, x9, x10, x11, x12, x13, x14, x15, x16, x17, x18, x19, x20, x21, x22, x23, x24, x25, x26, x27, x28, x29, x30, x31, x32, x33, x34, x35, x36, x37, x38, x39, x40, x41, x42, x43, x44, x45, x46, x47, x48, x49, x50, x51, x52, x53, x54, x55, x56, x57, x58, x59, x60, x61, x62, x63, x64, x65, x66, x67, x68, x69, x70, x71, x72, x73, x74, rfl⟩ := lit75 hs hd
 replace h0 : x0 = .pointer (some ⟨b, 0, none⟩) := h0
 replace h3 : x3 = p := h3
 subst h0
 subst h3
 clear hs hd
 refine wpL_lit (L' := [_] ++ L44.drop 7) (by rfl) ?_
 simp only [List.cons_append, List.nil_append, wpL]
 go_wp2
 refine wpL_loop (by rw [len44]; decide) id44e ?_
 refine wp_loop_n (I := fun k a' w' => k ≤ 8 ∧ InvI b many hw held w0 (tC l (many * 8) (8 - k)) (8 - k) a' w') ?_ 8 _ _ ⟨Nat.le_refl _, ⟨⟨x3, ⟨rfl, rfl, fun p hp => ?_⟩, ?_⟩, hS'.out, hbel'.out⟩⟩
 ·
  intro k a' w' ⟨hk, hI'⟩
  by_cases h0 : k = 0
  ·
   subst h0
   exact sum_byte_end hI' fun a'' hI'' => hQ'.out _ _ hI''
  ·
   refine sum_byte hm (by rw [tC_len]; omega) (8 - k) (by omega) hI' hblt fun a'' w'' hI'' => ⟨k - 1, by omega, by omega, ?_⟩
   have e : 8 - (k - 1) = 8 - k + 1 := by omega
   rw [e, ← tC_succ]; exact hI''
 ·
  simp only [List.mem_cons, List.not_mem_nil, or_false] at hp
  rcases hp with rfl | rfl | rfl <;> rfl
 ·
  have : tC l (many * 8) (8 - 8) = l := by simp [tC]
  rw [this]; exact hB'.out
end Go.Proofs

/-! (*State).Sum: the text of the words. -/
namespace Go.Proofs
open Go.Ev Go.RowKit
theorem ok44 : allCode 75 L44 = true := by kernel_rfl
def tabG : Tabs := {
  bins := (List.range 32).map fun (i : Nat) => (⟨.shr, .float .f64 (i / 4), .int .i64 (Int.ofNat (24 - i % 4 * 8)), .float .f64 (10 + i)⟩ : SBin)
  convs := (List.range 32).map fun i => ⟨4, .float .f64 (10 + i), .float .f64 (50 + i)⟩
  bytes := [⟨(List.range 32).map fun i => .float .f64 (50 + i), .float .f64 162⟩] }
def insG : List (Nat × Value) := [(5, .pointer (some ⟨0, 0, none⟩))]
theorem runG (j : Nat → Value) : chkRH .ret outsF [] (evL (envOfS tabG.syms []) (evF (envOfS tabG.syms []) 1000 5) 1000 ((L44.drop 10).take 5) (tmOf j insG) (heapRows rowsF)) = true := by kernel_rfl
theorem tabG_ok (hw : Nat → Nat) : letI : Sg := sgF (vF hw) (vF_is hw); TabsOk tabG := by
  letI : Sg := sgF (vF hw) (vF_is hw)
  refine ⟨fun e he => ?_, fun e he => ?_, fun e he => ?_, fun _ h => (by cases h), fun _ h => (by cases h), fun _ h => (by cases h), fun _ h => (by cases h)⟩
  · simp only [tabG, List.mem_map, List.mem_range] at he
    obtain ⟨i, hi, rfl⟩ := he
    refine ⟨rfl, rfl, rfl, ?_⟩
    show scalarOp .shr (vF hw (i / 4)) (.int .i64 ((24 - i % 4 * 8 : Nat) : Int)) = some (vF hw (10 + i))
    rw [vF0 hw (by omega), vF10 hw (by omega)]
    exact int_shr _ (24 - i % 4 * 8) .i64 (by omega)
  · simp only [tabG, List.mem_map, List.mem_range] at he
    obtain ⟨i, hi, rfl⟩ := he
    refine ⟨by show 4 < 9; decide, rfl, rfl, ?_⟩
    show scalarConv (.int .u8) (vF hw (10 + i)) = some (vF hw (50 + i))
    rw [vF10 hw (by omega), vF50 hw (by omega)]
    exact conv8 _
  · simp only [tabG, List.mem_cons, List.not_mem_nil, or_false] at he
    subst he
    refine ⟨fun v hv => ?_, rfl, (List.range 32).map fun i => ((hw (i / 4) / 2 ^ (24 - i % 4 * 8) % 256 : Nat) : Int), ?_, ?_⟩
    · obtain ⟨i, _, rfl⟩ := List.mem_map.1 hv; rfl
    · rw [List.map_map, List.map_map]
      apply List.map_congr_left
      intro i hi
      have hi : i < 32 := by simpa using hi
      show vF hw (50 + i) = _
      rw [vF50 hw (by omega)]; rfl
    · show vF hw (130 + 32) = _
      rw [vF130, List.map_map]
      unfold tF
      congr 1
      apply List.map_congr_left
      intro i hi
      show bF hw i = UInt8.ofNat (hw (i / 4) / 2 ^ (24 - i % 4 * 8) % 256)
      rw [u8_mod]; rfl
theorem stepG {Q : Exit → Act → World → Prop} {a : Act} {w : World} (hw : Nat → Nat) {b base : Nat} (hb : base ≤ b) (hbase : base ≤ w.heap.size) (hF : Fr 75 a [(5, .pointer (some ⟨b, 0, none⟩))]) (hM : WoAt w b hw)
    (hQ : ∀ a' w', Fr 75 a' [(2, str (outL hw))] → Below base w w' → Q .ret a' w') : wpL Tryz.prog (L44.drop 10) Q a w := by
  have hT := tabG_ok hw
  letI : Sg := sgF (vF hw) (vF_is hw)
  obtain ⟨fr, hg, hfr⟩ := hM
  obtain ⟨i8, hi8, hs8⟩ := Option.map_eq_some_iff.1 info83
  let es : Nat → Emb := fun _ => ⟨b, 0, 8, 8, 8⟩
  have hwd : words8.map (denE es) = wordsC hw := by
    rw [words8_eq, List.map_map]
    apply List.map_congr_left
    intro k hk
    exact vF0 hw (by have : k < 8 := by simpa using hk
                     omega)
  have hAt : MemAt Tryz.prog base es (enum 0 rowsF) w := by
    have hone : ∀ p ∈ enum 0 rowsF, p = (0, (words8, 122, Acc.rw)) := fun p hp => by
      simp only [enum, rowsF, List.mem_cons, List.not_mem_nil, or_false] at hp; exact hp
    refine ⟨fun p hp => ?_, fun p hp q hq _ _ => ?_, fun p hp _ => ?_⟩
    · rw [hone p hp]
      show RowAt Tryz.prog w.heap[b]? ⟨b, 0, 8, 8, 8⟩ (words8.map (denE es)) 122 .rw
      rw [hwd, hg]
      exact ⟨_, fr, i8, rfl, hi8, hs8, rfl, Nat.le_refl 8, rfl, fun _ j hj => hfr j hj, rfl, rfl⟩
    · rw [hone p hp, hone q hq]
    · exact hb
  refine pieceR (L := L44) (rows := rowsF) (rows' := []) (ins := insG) (es := es) (eS hT) mixed fS sS runG ok44 (by decide) ⟨by decide, by decide, by decide, by decide, by decide⟩ (by decide) rfl hF hAt hbase fun a' w' es' _ h _ hb _ => hQ a' w' ?_ hb
  have h' : Fr 75 a' [(2, vF hw (130 + 32))] := h
  rw [vF130] at h'
  exact h'
end Go.Proofs
