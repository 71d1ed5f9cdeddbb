/- (*State).Sum: eight bytes. -/
import Derived.Test.YthnojgpobfpgeaaGreatDoorTSumA
import Derived.Test.YthnojgpobfpgeaaGreatDoorTSumR
namespace Go.Proofs
open Go.RowKit Go.Ev
noncomputable def L44e : List Code := codes (loopB (itemN L44 7))
theorem id44e : loopId (itemN L44 7) = some 2 := by kernel_rfl
theorem byte_eq (many i : Nat) (hi : i < 8) : (many : Int) * 8 / 2 ^ (8 * (7 - i)) % 256 = ((bC (many * 8) i).toNat : Int) := by
 unfold bC
 rw [UInt8.toNat_ofNat', show 56 - 8 * i = 8 * (7 - i) by omega, Int.natCast_emod, Int.natCast_ediv, Int.natCast_mul, Int.natCast_pow]
 rfl
structure InvI (b many : Nat) (hw : Nat -> Nat) (held : Value) (w0 : World) (l : List UInt8) (i : Nat) (a : Act) (w : World) : Prop where
 fr : ∃ p, Fr 75 a [(0, .pointer (some ⟨b, 0, none⟩)), (3, p), (28, .int .i64 (i : Int))] /\ BytesAt w w0.heap.size 5 p l
 st : StAt w b hw held many
 below : Below w0.heap.size w0 w
set_option maxHeartbeats 1000000 in
set_option maxRecDepth 1000000 in
theorem sum_byte {b many : Nat} {hw : Nat -> Nat} {held : Value} {l : List UInt8} {w0 w : World} (hm : many <= 1099511627776) (hl : l.length <= 1099511627776) (i : Nat) (hi8 : i < 8) {a : Act} (hI : InvI b many hw held w0 l i a w) (hblt : b < w0.heap.size) {Q : Exit -> Act -> World -> Prop}
  (hQ : ∀ a' w', InvI b many hw held w0 (l ++ [bC (many * 8) i]) (i + 1) a' w' -> Q .normal a' w') : (loopB (itemN L44 7)).wp Tryz.prog Q a w := by
 refine wpL_codes ?_
 obtain ⟨i0, hi, hz0, hz1, hz2⟩ := info_parts infoB
 obtain ⟨⟨p, hF, hB⟩, hS, hbel⟩ := hI
 have hsz := hbel.size
 obtain ⟨pa, pc, hv, hnc⟩ := hB.len
 obtain ⟨n, hn⟩ : ∃ n, n = l.length := ⟨_, rfl⟩
 rw [<- hn] at hv hnc
 subst hv
 have hc9 := hS.cell9
 have hbv : (bcells [bC (many * 8) i]).toArray = #[Value.int .u8 ((many : Int) * 8 / 2 ^ (8 * (7 - i)) % 256)] := by rw [byte_eq many i hi8]; rfl
 obtain ⟨hs, hd, hsl⟩ := hF
 have h0 := hsl _ List.mem_cons_self
 have h3 := hsl _ (List.mem_cons_of_mem _ List.mem_cons_self)
 have h28 := hsl _ (List.mem_cons_of_mem _ (List.mem_cons_of_mem _ List.mem_cons_self))
 clear hsl
 obtain ⟨x0, x1, x2, x3, x4, x5, x6, x7, x8, x9, x10, x11, x12, x13, x14, x15, x16, x17, x18, x19, x20, x21, x22, x23, x24, x25, x26, x27, x28, x29, x30, x31, x32, x33, x34, x35, x36, x37, x38, x39, x40, x41, x42, x43, x44, x45, x46, x47, x48, x49, x50, x51, x52, x53, x54, x55, x56, x57, x58, x59, x60, x61, x62, x63, x64, x65, x66, x67, x68, x69, x70, x71, x72, x73, x74, rfl⟩ := lit75 hs hd
 replace h0 : x0 = .pointer (some ⟨b, 0, none⟩) := h0
 replace h3 : x3 = .slice pa n pc := h3
 replace h28 : x28 = .int .i64 (i : Int) := h28
 subst h0
 subst h3
 subst h28
 clear hs hd
 have hbw : Below w0.heap.size w0 (w.alloc (.cells #[.int .u8 ((many : Int) * 8 / 2 ^ (8 * (7 - i)) % 256)] 5)) := hbel.alloc hsz _
 have hBa := Lib.hid (bytes_alloc hB (.cells #[.int .u8 ((many : Int) * 8 / 2 ^ (8 * (7 - i)) % 256)] 5))
 have hsrc : Src Tryz.prog 1 71 (.slice (some ⟨w.heap.size, 0, none⟩) 1 1) [bC (many * 8) i].length (bcells [bC (many * 8) i]) (w.alloc (.cells #[.int .u8 ((many : Int) * 8 / 2 ^ (8 * (7 - i)) % 256)] 5)) := BytesAt.src _ Tryz.underlying71 (bytes_new w w.heap.size 5 [bC (many * 8) i] (Nat.le_refl _) (show 1 <= maxLen by decide) 1 rfl _ hbv.symm)
 have hsrc' := Lib.hid hsrc
 have hlb : l.length + [bC (many * 8) i].length <= 140737488355328 := by simp; omega
 have hlb' := Lib.hid hlb
 have hS' := Lib.hid hS
 have hbw' := Lib.hid hbw
 have hrow := Lib.hid fun k hk => (hB.lt k hk).1
 have hQ' := Lib.hid hQ
 clear hS hB hQ hsrc hlb hbw hbel hn hbv
 refine wpL_lit (L' := [_, _, _, _]) (by rfl) ?_
 simp only [wpL]
 go_wp2_with (at_builtin; refine wpList_append_src _ rfl (.tmp 31) (.tmp 42) 71 71 rfl w0.heap.size 5 i0 Tryz.underlying71 hi hz0 hz1 hz2 (.slice pa n pc) l rfl hBa.out [bC (many * 8) i] hsrc'.out hlb'.out (by simp; omega) ?_; intro v' w1 hB1 hg1 hn1; have hB1' := Lib.hid hB1; have hg1' := Lib.hid hg1; clear hB1 hg1 hn1)
 have hbw1 : Below w0.heap.size w0 w1 := hbw'.out.grown hg1'.out (by simp; omega) hrow.out
 have hbw2 : Below w0.heap.size w w1 := ((Below.refl w0.heap.size w).alloc hsz _).grown hg1'.out (by simp; omega) hrow.out
 refine hQ'.out _ _ ⟨⟨v', ⟨rfl, rfl, fun p hp => ?_⟩, hB1'.out⟩, hS'.out.below hbw2 hblt, hbw1⟩
 simp only [List.mem_cons, List.not_mem_nil, or_false] at hp
 rcases hp with rfl | rfl | rfl
 ·
  rfl
 ·
  rfl
 ·
  show Value.int .i64 _ = _
  rw [Int.natCast_add]; rfl
set_option maxHeartbeats 1000000 in
set_option maxRecDepth 1000000 in
theorem sum_byte_end {b many : Nat} {hw : Nat -> Nat} {held : Value} {l : List UInt8} {w0 w : World} {a : Act} (hI : InvI b many hw held w0 l 8 a w) {Q : Exit -> Act -> World -> Prop}
  (hQ : ∀ a', InvP b many hw held w0 l a' w -> Q (.exit 2) a' w) : (loopB (itemN L44 7)).wp Tryz.prog Q a w := by
 refine wpL_codes ?_
 obtain ⟨⟨p, hF, hB⟩, hS, hbel⟩ := hI
 have hB' := Lib.hid hB
 have hS' := Lib.hid hS
 have hbel' := Lib.hid hbel
 have hQ' := Lib.hid hQ
 clear hB hS hbel hQ
 obtain ⟨hs, hd, hsl⟩ := hF
 have h0 := hsl _ List.mem_cons_self
 have h3 := hsl _ (List.mem_cons_of_mem _ List.mem_cons_self)
 have h28 := hsl _ (List.mem_cons_of_mem _ (List.mem_cons_of_mem _ List.mem_cons_self))
 clear hsl
 obtain ⟨x0, x1, x2, x3, x4, x5, x6, x7, x8, x9, x10, x11, x12, x13, x14, x15, x16, x17, x18, x19, x20, x21, x22, x23, x24, x25, x26, x27, x28, x29, x30, x31, x32, x33, x34, x35, x36, x37, x38, x39, x40, x41, x42, x43, x44, x45, x46, x47, x48, x49, x50, x51, x52, x53, x54, x55, x56, x57, x58, x59, x60, x61, x62, x63, x64, x65, x66, x67, x68, x69, x70, x71, x72, x73, x74, rfl⟩ := lit75 hs hd
 replace h0 : x0 = .pointer (some ⟨b, 0, none⟩) := h0
 replace h3 : x3 = p := h3
 replace h28 : x28 = .int .i64 ((8 : Nat) : Int) := h28
 subst h0
 subst h3
 subst h28
 clear hs hd
 refine wpL_lit (L' := [_, _, itemN L44e 2, itemN L44e 3]) (by rfl) ?_
 simp only [wpL]
 go_wp2
 refine hQ'.out _ ⟨⟨_, ⟨rfl, rfl, fun p hp => ?_⟩, hB'.out⟩, hS'.out, hbel'.out⟩
 simp only [List.mem_cons, List.not_mem_nil, or_false] at hp
 rcases hp with rfl | rfl <;> rfl
set_option maxHeartbeats 1000000 in
set_option maxRecDepth 1000000 in
theorem sum_eight {b many : Nat} {hw : Nat -> Nat} {held : Value} {l : List UInt8} {w0 w : World} (hm : many <= 1099511627776) (hl : l.length <= 1073741824 + 200) {a : Act} (hI : InvP b many hw held w0 l a w) (hblt : b < w0.heap.size) {Q : Exit -> Act -> World -> Prop}
  (hQ : ∀ a' w', InvP b many hw held w0 (tC l (many * 8) 8) a' w' -> wpL Tryz.prog (L44.drop 8) Q a' w') : wpL Tryz.prog (L44.drop 6) Q a w := by
 obtain ⟨⟨p, hF, hB⟩, hS, hbel⟩ := hI
 have hB' := Lib.hid hB
 have hS' := Lib.hid hS
 have hbel' := Lib.hid hbel
 have hQ' := Lib.hid hQ
 clear hB hS hbel hQ
 obtain ⟨hs, hd, hsl⟩ := hF
 have h0 := hsl _ List.mem_cons_self
 have h3 := hsl _ (List.mem_cons_of_mem _ List.mem_cons_self)
 clear hsl
 obtain ⟨x0, x1, x2, x3, x4, x5, x6, x7, x8, x9, x10, x11, x12, x13, x14, x15, x16, x17, x18, x19, x20, x21, x22, x23, x24, x25, x26, x27, x28, x29, x30, x31, x32, x33, x34, x35, x36, x37, x38, x39, x40, x41, x42, x43, x44, x45, x46, x47, x48, x49, x50, x51, x52, x53, x54, x55, x56, x57, x58, x59, x60, x61, x62, x63, x64, x65, x66, x67, x68, x69, x70, x71, x72, x73, x74, rfl⟩ := lit75 hs hd
 replace h0 : x0 = .pointer (some ⟨b, 0, none⟩) := h0
 replace h3 : x3 = p := h3
 subst h0
 subst h3
 clear hs hd
 refine wpL_lit (L' := [_] ++ L44.drop 7) (by rfl) ?_
 simp only [List.cons_append, List.nil_append, wpL]
 go_wp2
 refine wpL_loop (by rw [len44]; decide) id44e ?_
 refine wp_loop_n (I := fun k a' w' => k <= 8 /\ InvI b many hw held w0 (tC l (many * 8) (8 - k)) (8 - k) a' w') ?_ 8 _ _ ⟨Nat.le_refl _, ⟨⟨x3, ⟨rfl, rfl, fun p hp => ?_⟩, ?_⟩, hS'.out, hbel'.out⟩⟩
 ·
  intro k a' w' ⟨hk, hI'⟩
  by_cases h0 : k = 0
  ·
   subst h0
   exact sum_byte_end hI' fun a'' hI'' => hQ'.out _ _ hI''
  ·
   refine sum_byte hm (by rw [tC_len]; omega) (8 - k) (by omega) hI' hblt fun a'' w'' hI'' => ⟨k - 1, by omega, by omega, ?_⟩
   have e : 8 - (k - 1) = 8 - k + 1 := by omega
   rw [e, <- tC_succ]; exact hI''
 ·
  simp only [List.mem_cons, List.not_mem_nil, or_false] at hp
  rcases hp with rfl | rfl | rfl <;> rfl
 ·
  have : tC l (many * 8) (8 - 8) = l := by simp [tC]
  rw [this]; exact hB'.out
end Go.Proofs
namespace Go.Proofs
open Go.Ev Go.RowKit
theorem ok44 : allCode 75 L44 = true := by kernel_rfl
def tabG : Tabs := {
  bins := (List.range 32).map fun (i : Nat) => (⟨.shr, .float .f64 (i / 4), .int .i64 (Int.ofNat (24 - i % 4 * 8)), .float .f64 (10 + i)⟩ : SBin)
  convs := (List.range 32).map fun i => ⟨4, .float .f64 (10 + i), .float .f64 (50 + i)⟩
  bytes := [⟨(List.range 32).map fun i => .float .f64 (50 + i), .float .f64 162⟩] }
def insG : List (Nat × Value) := [(5, .pointer (some ⟨0, 0, none⟩))]
theorem runG (j : Nat -> Value) : chkRH .ret outsF [] (evL (envOfS tabG.syms []) (evF (envOfS tabG.syms []) 1000 5) 1000 ((L44.drop 10).take 5) (tmOf j insG) (heapRows rowsF)) = true := by kernel_rfl
theorem tabG_ok (hw : Nat -> Nat) : letI : Sg := sgF (vF hw) (vF_is hw); TabsOk tabG := by
  letI : Sg := sgF (vF hw) (vF_is hw)
  refine ⟨fun e he => ?_, fun e he => ?_, fun e he => ?_, fun _ h => (by cases h), fun _ h => (by cases h), fun _ h => (by cases h), fun _ h => (by cases h)⟩
  . simp only [tabG, List.mem_map, List.mem_range] at he
    obtain ⟨i, hi, rfl⟩ := he
    refine ⟨rfl, rfl, rfl, ?_⟩
    show scalarOp .shr (vF hw (i / 4)) (.int .i64 ((24 - i % 4 * 8 : Nat) : Int)) = some (vF hw (10 + i))
    rw [vF0 hw (by omega), vF10 hw (by omega)]
    exact int_shr _ (24 - i % 4 * 8) .i64 (by omega)
  . simp only [tabG, List.mem_map, List.mem_range] at he
    obtain ⟨i, hi, rfl⟩ := he
    refine ⟨by show 4 < 9; decide, rfl, rfl, ?_⟩
    show scalarConv (.int .u8) (vF hw (10 + i)) = some (vF hw (50 + i))
    rw [vF10 hw (by omega), vF50 hw (by omega)]
    exact conv8 _
  . simp only [tabG, List.mem_cons, List.not_mem_nil, or_false] at he
    subst he
    refine ⟨fun v hv => ?_, rfl, (List.range 32).map fun i => ((hw (i / 4) / 2 ^ (24 - i % 4 * 8) % 256 : Nat) : Int), ?_, ?_⟩
    . obtain ⟨i, _, rfl⟩ := List.mem_map.1 hv; rfl
    . rw [List.map_map, List.map_map]
      apply List.map_congr_left
      intro i hi
      have hi : i < 32 := by simpa using hi
      show vF hw (50 + i) = _
      rw [vF50 hw (by omega)]; rfl
    . show vF hw (130 + 32) = _
      rw [vF130, List.map_map]
      unfold tF
      congr 1
      apply List.map_congr_left
      intro i hi
      show bF hw i = UInt8.ofNat (hw (i / 4) / 2 ^ (24 - i % 4 * 8) % 256)
      rw [u8_mod]; rfl
theorem stepG {Q : Exit -> Act -> World -> Prop} {a : Act} {w : World} (hw : Nat -> Nat) {b base : Nat} (hb : base <= b) (hbase : base <= w.heap.size) (hF : Fr 75 a [(5, .pointer (some ⟨b, 0, none⟩))]) (hM : WoAt w b hw)
    (hQ : ∀ a' w', Fr 75 a' [(2, str (outL hw))] -> Below base w w' -> Q .ret a' w') : wpL Tryz.prog (L44.drop 10) Q a w := by
  have hT := tabG_ok hw
  letI : Sg := sgF (vF hw) (vF_is hw)
  obtain ⟨fr, hg, hfr⟩ := hM
  obtain ⟨i8, hi8, hs8⟩ := Option.map_eq_some_iff.1 info83
  let es : Nat -> Emb := fun _ => ⟨b, 0, 8, 8, 8⟩
  have hwd : words8.map (denE es) = wordsC hw := by
    rw [words8_eq, List.map_map]
    apply List.map_congr_left
    intro k hk
    exact vF0 hw (by have : k < 8 := by simpa using hk
                     omega)
  have hAt : MemAt Tryz.prog base es (enum 0 rowsF) w := by
    have hone : ∀ p ∈ enum 0 rowsF, p = (0, (words8, 122, Acc.rw)) := fun p hp => by
      simp only [enum, rowsF, List.mem_cons, List.not_mem_nil, or_false] at hp; exact hp
    refine ⟨fun p hp => ?_, fun p hp q hq _ _ => ?_, fun p hp _ => ?_⟩
    . rw [hone p hp]
      show RowAt Tryz.prog w.heap[b]? ⟨b, 0, 8, 8, 8⟩ (words8.map (denE es)) 122 .rw
      rw [hwd, hg]
      exact ⟨_, fr, i8, rfl, hi8, hs8, rfl, Nat.le_refl 8, rfl, fun _ j hj => hfr j hj, rfl, rfl⟩
    . rw [hone p hp, hone q hq]
    . exact hb
  refine pieceR (L := L44) (rows := rowsF) (rows' := []) (ins := insG) (es := es) (eS hT) mixed fS sS runG ok44 (by decide) ⟨by decide, by decide, by decide, by decide, by decide⟩ (by decide) rfl hF hAt hbase fun a' w' es' _ h _ hb _ => hQ a' w' ?_ hb
  have h' : Fr 75 a' [(2, vF hw (130 + 32))] := h
  rw [vF130] at h'
  exact h'
end Go.Proofs
namespace Go.Proofs
open Go.RowKit Go.Ev
theorem wpList_load_cells {P : Program} {ops : Array Oper} {rest : List Oper} {o : Oper} {a : Act} {w : World} {Q : Exit -> Act -> World -> Prop} (hgd : o.guard = none) (ty : TypeId) (x : Operand) (ho : o.op = .load ty x)
  (ad : Addr) (hx : a.eval x = .pointer (some ad)) (cs : List Value) (hc : ∀ j v, cs[j]? = some v -> w.cell? (ad.add j) = some v) (d : TypeDesc)
  (hu : P.underlying ty = some d) (hd : (match d with | .struct _ | .array _ _ => true | _ => false) = true) (hi : (P.info? ty).map (·.size) = some cs.length)
  (h : wpList P ops Q rest (a.put o.dst (.agg ⟨cs⟩)) w) : wpList P ops Q (o :: rest) a w := by
 refine wpList_plain hgd fun K hK => ?_
 have hl : (loadCells ad cs.length).run P w = .ok cs.toArray w := run_loadCells_list (P := P) w ad cs hc
 have hrun : (loadVar ty ad).run P w = .ok (.agg ⟨cs⟩) w := by
  cases hq : P.info? ty with
  | none => simp [hq] at hi
  | some i =>
   have hs : i.size = cs.length := by simpa [hq] using hi
   have hagg : (isAgg ty).run P w = .ok true w := by
    unfold isAgg
    rw [Sem.run_bind, run_underlying hu w]
    cases d <;> simp_all
   simp [loadVar, Sem.run_bind, hagg, sizeOf, typeInfo, hq, hs, hl]
 unfold Oper.wp execOp
 simp only [ho, hx, Instr.loadAt, Instr.sureAddr, Sem.run_bind, Sem.run_pure, Result.andThen_ok, hrun]
 exact hK _ _ h
theorem info83s : (Tryz.prog.info? 122).map (·.size) = some 8 := by kernel_rfl
structure InvV (w0 : World) (v : Nat) (T : List UInt8) (hw : Nat -> Nat) (k : Nat) (a : Act) (w : World) : Prop where
 fr : ∃ p, Fr 75 a [(3, p), (5, .pointer (some ⟨v, 0, none⟩))] /\ BytesAt w w0.heap.size 5 p (T.drop (64 * k)) /\ p.ownBlock ≠ some v
 wo : WoAt w v (absN k hw T)
 own : w0.heap.size <= v
 below : Below w0.heap.size w0 w
 le : 64 * k <= T.length
set_option maxHeartbeats 1000000 in
set_option maxRecDepth 1000000 in
theorem sum_words {b many : Nat} {hw : Nat -> Nat} {held : Value} {l : List UInt8} {w0 w : World} {a : Act} (hI : InvP b many hw held w0 l a w) {Q : Exit -> Act -> World -> Prop}
  (hQ : ∀ a' w' v, InvV w0 v l hw 0 a' w' -> wpL Tryz.prog (L44.drop 9) Q a' w') : wpL Tryz.prog (L44.drop 8) Q a w := by
 obtain ⟨⟨p, hF, hB⟩, hS, hbel⟩ := hI
 have hcs : ∀ j v, ([.int .u32 (hw 0 : Int), .int .u32 (hw 1 : Int), .int .u32 (hw 2 : Int), .int .u32 (hw 3 : Int), .int .u32 (hw 4 : Int), .int .u32 (hw 5 : Int), .int .u32 (hw 6 : Int), .int .u32 (hw 7 : Int)] : List Value)[j]? = some v -> w.cell? ((⟨b, 0, none⟩ : Addr).add j) = some v := fun j v h => by
  obtain ⟨fr, hg, _⟩ := hS
  have hadd : (⟨b, 0, none⟩ : Addr).add j = ⟨b, j, none⟩ := by unfold Addr.add; split <;> simp_all
  rw [hadd, cell_of_row w b j _ _ fr hg]
  rw [<- Array.getElem?_toList, List.getElem?_append_left (by
   have := (List.getElem?_eq_some_iff.1 h).1
   exact this)]
  exact h
 have hcs' := Lib.hid hcs
 have hB' := Lib.hid hB
 have hS' := Lib.hid hS
 have hbel' := Lib.hid hbel
 have hQ' := Lib.hid hQ
 clear hB hS hbel hcs hQ
 obtain ⟨hs, hd, hsl⟩ := hF
 have h0 := hsl _ List.mem_cons_self
 have h3 := hsl _ (List.mem_cons_of_mem _ List.mem_cons_self)
 clear hsl
 obtain ⟨x0, x1, x2, x3, x4, x5, x6, x7, x8, x9, x10, x11, x12, x13, x14, x15, x16, x17, x18, x19, x20, x21, x22, x23, x24, x25, x26, x27, x28, x29, x30, x31, x32, x33, x34, x35, x36, x37, x38, x39, x40, x41, x42, x43, x44, x45, x46, x47, x48, x49, x50, x51, x52, x53, x54, x55, x56, x57, x58, x59, x60, x61, x62, x63, x64, x65, x66, x67, x68, x69, x70, x71, x72, x73, x74, rfl⟩ := lit75 hs hd
 replace h0 : x0 = .pointer (some ⟨b, 0, none⟩) := h0
 replace h3 : x3 = p := h3
 subst h0
 subst h3
 clear hs hd
 refine wpL_lit (L' := [_] ++ L44.drop 9) (by rfl) ?_
 simp only [List.cons_append, List.nil_append, wpL]
 go_wp2_with (refine wpList_load_cells rfl 122 (.tmp 47) rfl ⟨b, 0, none⟩ rfl [.int .u32 (hw 0 : Int), .int .u32 (hw 1 : Int), .int .u32 (hw 2 : Int), .int .u32 (hw 3 : Int), .int .u32 (hw 4 : Int), .int .u32 (hw 5 : Int), .int .u32 (hw 6 : Int), .int .u32 (hw 7 : Int)] hcs'.out _ Tryz.underlying122 rfl info83s ?_)
 have hsz := hbel'.out.size
 refine hQ'.out _ _ w.heap.size ⟨⟨x3, ⟨rfl, rfl, fun p hp => ?_⟩, ?_, fun e => ?_⟩, ⟨(0, 0), ?_, fun j _ => by omega⟩, hsz, hbel'.out.alloc hsz _, by omega⟩
 ·
  simp only [List.mem_cons, List.not_mem_nil, or_false] at hp
  rcases hp with rfl | rfl <;> rfl
 ·
  show BytesAt _ _ 5 x3 (l.drop 0)
  rw [List.drop_zero]; exact bytes_alloc hB'.out _
 ·
  have := (hB'.out.lt _ e).2
  omega
 ·
  rw [heap_alloc_new]; rfl
theorem id44r : loopId (itemN L44 9) = some 4 := by kernel_rfl
theorem blk44 : itemN L44a 2 = .block 5 (blockB (itemN L44a 2)) := by rfl
set_option maxHeartbeats 1000000 in
set_option maxRecDepth 1000000 in
theorem sum_round {w0 w : World} {v k : Nat} {T : List UInt8} {hw : Nat -> Nat} (h8 : ∀ k, k < 8 -> hw k < W32) (hT : T.length % 64 = 0) {a : Act} (hI : InvV w0 v T hw k a w) {Q : Exit -> Act -> World -> Prop}
  (hE : 64 * k = T.length -> ∀ a', InvV w0 v T hw k a' w -> Q (.exit 4) a' w) (hN : 64 * k < T.length -> ∀ a' w', InvV w0 v T hw (k + 1) a' w' -> Q .normal a' w') : (loopB (itemN L44 9)).wp Tryz.prog Q a w := by
 refine wpL_codes ?_
 obtain ⟨⟨p, hF, hB, hne⟩, hW, hown, hbel, hle⟩ := hI
 have hdl : (T.drop (64 * k)).length = T.length - 64 * k := List.length_drop
 obtain ⟨n, hn⟩ : ∃ n, n = (T.drop (64 * k)).length := ⟨_, rfl⟩
 obtain ⟨pa, pc, hv, hnc⟩ := hB.len
 have hpc : pc <= maxLen := by
  rcases hB with ⟨h, _⟩ | ⟨_, _, _, _, h, _, _, _, h2, _⟩
  ·
   rw [h] at hv
   simp only [Value.slice.injEq] at hv
   rw [<- hv.2.2]; exact Nat.zero_le _
  ·
   rw [h] at hv
   simp only [Value.slice.injEq] at hv
   rw [<- hv.2.2]; exact h2
 have hpc' : pc <= 9223372036854775807 := hpc
 rw [<- hn] at hv hnc hdl
 subst hv
 have hB' := Lib.hid hB
 have hW' := Lib.hid hW
 have hbel' := Lib.hid hbel
 have hne' := Lib.hid hne
 have hn' := Lib.hid hn
 have hdl' := Lib.hid hdl
 have hT' := Lib.hid hT
 have h8' := Lib.hid h8
 clear hB hW hbel hne hn hpc hdl hT h8
 obtain ⟨hs, hd, hsl⟩ := hF
 have h3 := hsl _ List.mem_cons_self
 have h5 := hsl _ (List.mem_cons_of_mem _ List.mem_cons_self)
 clear hsl
 obtain ⟨x0, x1, x2, x3, x4, x5, x6, x7, x8, x9, x10, x11, x12, x13, x14, x15, x16, x17, x18, x19, x20, x21, x22, x23, x24, x25, x26, x27, x28, x29, x30, x31, x32, x33, x34, x35, x36, x37, x38, x39, x40, x41, x42, x43, x44, x45, x46, x47, x48, x49, x50, x51, x52, x53, x54, x55, x56, x57, x58, x59, x60, x61, x62, x63, x64, x65, x66, x67, x68, x69, x70, x71, x72, x73, x74, rfl⟩ := lit75 hs hd
 replace h3 : x3 = .slice pa n pc := h3
 replace h5 : x5 = .pointer (some ⟨v, 0, none⟩) := h5
 subst h3
 subst h5
 clear hs hd
 by_cases h0 : n = 0
 ·
  have hQ' := Lib.hid (hE (by have := hdl'.out; omega))
  clear hE hN
  subst h0
  refine wpL_lit (L' := [_, _, itemN L44a 2, itemN L44a 3]) (by rfl) ?_
  simp only [wpL]
  go_wp2
  refine hQ'.out _ ⟨⟨_, ⟨rfl, rfl, fun p hp => ?_⟩, hB'.out, hne'.out⟩, hW'.out, hown, hbel'.out, hle⟩
  simp only [List.mem_cons, List.not_mem_nil, or_false] at hp
  rcases hp with rfl | rfl <;> rfl
 ·
  have hQ' := Lib.hid (hN (by have := hdl'.out; omega))
  have h64 : 64 <= n := by have := hdl'.out; have := hT'.out; omega
  have hpos : 0 < n := by omega
  clear hE hN h0
  refine wpL_lit (L' := [_, _, itemN L44a 2, itemN L44a 3]) (by rfl) ?_
  simp only [wpL]
  go_wp2
  rw [blk44]
  refine wp_block (wpL_codes ?_)
  show wpL _ (L44b.drop 0) _ _ _
  have hnl := hn'.out
  refine stepS (l := T.drop (64 * k)) (absN_lt k h8'.out T) (by omega) hW'.out hB'.out hne'.out ⟨rfl, rfl, fun p hp => ?_⟩ fun a' w' hF' hW1 hBut => ?_
  ·
   simp only [List.mem_cons, List.not_mem_nil, or_false] at hp
   rcases hp with rfl | rfl <;> rfl
  ·
   rw [<- absN_succ] at hW1
   have hsz := hbel'.out.size
   obtain ⟨g, off, rfl, hgb⟩ : ∃ g off, pa = some ⟨g, off, none⟩ /\ w0.heap.size <= g := by
    rcases hB'.out with ⟨hh, hh2⟩ | ⟨g, off, _, _, hv, hbg, _⟩
    ·
     rw [hh2] at hnl; simp at hnl; omega
    ·
     cases hv; exact ⟨g, off, rfl, hbg⟩
   have hgv : g ≠ v := fun e => hne'.out (by rw [e]; rfl)
   have hB1 : BytesAt w' w0.heap.size 5 (.slice (some ⟨g, off, none⟩) n pc) (T.drop (64 * k)) := hB'.out.kept fun g' hg' => by
    have := hB'.out.lt g' hg'
    simp only [Value.ownBlock, Option.some.injEq] at hg'
    exact hBut.block g' this.2 (by omega)
   obtain ⟨d1, d2⟩ := bytes_drop64 hB1 (by omega)
   have hd2 : (T.drop (64 * k)).drop 64 = T.drop (64 * (k + 1)) := by rw [List.drop_drop]; congr 1
   rw [hd2] at d1 d2
   have hbel1 : Below w0.heap.size w0 w' := hbel'.out.trans ⟨hBut.os, hBut.tape, hBut.output, hBut.size, fun i hi => hBut.block i (by omega) (by omega)⟩
   have hle1 : 64 * (k + 1) <= T.length := by have := hdl'.out; omega
   show wpL Tryz.prog (L44a.drop 3) _ a' w'
   obtain ⟨hs, hd, hsl⟩ := hF'
   have h3 := hsl _ List.mem_cons_self
   have h5 := hsl _ (List.mem_cons_of_mem _ List.mem_cons_self)
   clear hsl
   obtain ⟨y0, y1, y2, y3, y4, y5, y6, y7, y8, y9, y10, y11, y12, y13, y14, y15, y16, y17, y18, y19, y20, y21, y22, y23, y24, y25, y26, y27, y28, y29, y30, y31, y32, y33, y34, y35, y36, y37, y38, y39, y40, y41, y42, y43, y44, y45, y46, y47, y48, y49, y50, y51, y52, y53, y54, y55, y56, y57, y58, y59, y60, y61, y62, y63, y64, y65, y66, y67, y68, y69, y70, y71, y72, y73, y74, rfl⟩ := lit75 hs hd
   replace h3 : y3 = .slice (some ⟨g, off, none⟩) n pc := h3
   replace h5 : y5 = .pointer (some ⟨v, 0, none⟩) := h5
   subst h3
   subst h5
   have hD1 : Hid (pc = 64 -> BytesAt w' w0.heap.size 5 (.slice (some ⟨g, off, none⟩) (n - 64) (pc - 64)) (T.drop (64 * (k + 1)))) := d1
   have hD2 := Lib.hid d2
   have hW1' := Lib.hid hW1
   have hbel1' := Lib.hid hbel1
   have hle1' := Lib.hid hle1
   clear hs hd d1 d2 hW1 hbel1 hle1 hBut hB1 hd2 hnl hle
   refine wpL_lit (L' := [_]) (by rfl) ?_
   simp only [wpL]
   by_cases hc64 : pc = 64
   ·
    have hD1 := Lib.hid (hD1.out hc64)
    have hn64 : n - 64 = 0 := by omega
    subst hc64
    go_wp2
    refine hQ'.out _ _ ⟨⟨.slice (some ⟨g, off, none⟩) 0 0, ⟨rfl, rfl, fun p hp => ?_⟩, ?_, fun e => hgv (by simpa [Value.ownBlock] using e)⟩, hW1'.out, hown, hbel1'.out, hle1'.out⟩
    ·
     simp only [List.mem_cons, List.not_mem_nil, or_false] at hp
     rcases hp with rfl | rfl <;> rfl
    ·
     have hd1 := hD1.out trivial
     rw [hn64] at hd1
     exact hd1
   ·
    go_wp2
    refine hQ'.out _ _ ⟨⟨_, ⟨rfl, rfl, fun p hp => ?_⟩, hD2.out, fun e => hgv (by simpa [Value.ownBlock] using e)⟩, hW1'.out, hown, hbel1'.out, hle1'.out⟩
    simp only [List.mem_cons, List.not_mem_nil, or_false] at hp
    rcases hp with rfl | rfl <;> rfl
theorem sum_calls {b many base : Nat} {hw : Nat -> Nat} {held : Value} {l : List UInt8} {w : World} (h8 : ∀ k, k < 8 -> hw k < W32) (hS : StAt w b hw held many) (hB : BytesAt w base 5 held l) (hl : l.length <= 1073741824) (hm : many <= 1099511627776) (hmod : l.length % 64 = many % 64) :
  Calls Tryz.prog 109 #[.pointer (some ⟨b, 0, none⟩)] w fun e w' => e = .returned (str (outL (absN ((l ++ pad many).length / 64) hw (l ++ pad many)))) /\ Below w.heap.size w w' := by
 have hbody : Tryz.f109.body = some (Tryz.f109.body.getD .skip) := by kernel_rfl
 have hres : Tryz.f109.results = #[.tmp 2] := by kernel_rfl
 have hblt : b < w.heap.size := by
  obtain ⟨fr, h, _⟩ := hS
  exact (Array.getElem?_eq_some_iff.1 h).1
 refine calls_of_wp Tryz.func109 hbody (wpL_codes ?_)
 have hp : padN l.length < 64 := Nat.mod_lt _ (by decide)
 have hpn : padN many = padN l.length := by unfold padN; rw [hmod]
 have hpe : tC (zt l (padN l.length)) (many * 8) 8 = l ++ pad many := by
  unfold tC zt pad pad8 bC
  rw [List.append_assoc, List.cons_append, hpn]
 have hz := zt_len l (padN l.length)
 have hpl := pad_length many
 have hpm := pad_mod many
 refine sum_head hS hB (by omega) (fr_enter (args := [.pointer (some ⟨b, 0, none⟩)]) Tryz.ntmps109 (by simp) fun p hp => by
  simp only [List.mem_cons, List.not_mem_nil, or_false] at hp
  subst hp; rfl) fun a1 w1 h1 => sum_128 (by omega) h1 hblt fun a2 w2 h2 => sum_zeros hl h2 hblt fun a3 w3 h3 => sum_eight hm (by omega) h3 hblt fun a4 w4 h4 => ?_
 rw [hpe] at h4
 have hT : (l ++ pad many).length % 64 = 0 := by rw [List.length_append]; omega
 refine sum_words h4 fun a5 w5 v h5 => ?_
 refine wpL_loop (by rw [len44]; decide) id44r ?_
 refine wp_loop_n (I := fun k' a' w' => ∃ k, k + k' = (l ++ pad many).length / 64 /\ InvV w v (l ++ pad many) hw k a' w') ?_ ((l ++ pad many).length / 64) _ _ ⟨0, by omega, h5⟩
 intro k' a' w' ⟨k, hk, hI⟩
 refine sum_round h8 hT hI (fun he a'' hI'' => ?_) (fun hlt a'' w'' hI'' => ⟨k' - 1, by omega, k + 1, by omega, hI''⟩)
 have hke : k = (l ++ pad many).length / 64 := by omega
 subst hke
 obtain ⟨⟨p, hF, _, _⟩, hW, hown, hbel, _⟩ := hI''
 have hF5 : Fr 75 a'' [(5, .pointer (some ⟨v, 0, none⟩))] := ⟨hF.1, hF.2.1, fun p hp => by
  simp only [List.mem_cons, List.not_mem_nil, or_false] at hp
  subst hp
  exact hF.2.2 _ (List.mem_cons_of_mem _ List.mem_cons_self)⟩
 show wpL Tryz.prog (L44.drop 10) _ a'' w'
 refine stepG _ hown hbel.size hF5 hW fun a6 w6 h6 hb6 => ?_
 refine ⟨h6.2.1, _, ?_, rfl, hbel.trans hb6⟩
 rw [results_tmp hres, h6.2.2 _ (List.mem_cons_self)]
end Go.Proofs
