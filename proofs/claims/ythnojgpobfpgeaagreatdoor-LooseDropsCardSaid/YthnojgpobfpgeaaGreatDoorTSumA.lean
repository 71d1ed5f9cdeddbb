/- (*State).Sum. -/
import Derived.Test.YthnojgpobfpgeaaGreatDoorTSumR
namespace Go.Proofs
open Go.RowKit Go.Ev
theorem lit75 {a : Act} (hs : a.tmps.size = 75) (hd : a.defers = []) : ∃ x0 x1 x2 x3 x4 x5 x6 x7 x8 x9 x10 x11 x12 x13 x14 x15 x16 x17 x18 x19 x20 x21 x22 x23 x24 x25 x26 x27 x28 x29 x30 x31 x32 x33 x34 x35 x36 x37 x38 x39 x40 x41 x42 x43 x44 x45 x46 x47 x48 x49 x50 x51 x52 x53 x54 x55 x56 x57 x58 x59 x60 x61 x62 x63 x64 x65 x66 x67 x68 x69 x70 x71 x72 x73 x74 : Value, a = ⟨#[x0, x1, x2, x3, x4, x5, x6, x7, x8, x9, x10, x11, x12, x13, x14, x15, x16, x17, x18, x19, x20, x21, x22, x23, x24, x25, x26, x27, x28, x29, x30, x31, x32, x33, x34, x35, x36, x37, x38, x39, x40, x41, x42, x43, x44, x45, x46, x47, x48, x49, x50, x51, x52, x53, x54, x55, x56, x57, x58, x59, x60, x61, x62, x63, x64, x65, x66, x67, x68, x69, x70, x71, x72, x73, x74], []⟩ := by
 obtain ⟨⟨l⟩, d⟩ := a
 subst hd
 have hs : l.length = 75 := hs
 obtain _ | ⟨x0, l⟩ := l
 ·
  cases hs
 obtain _ | ⟨x1, l⟩ := l
 ·
  cases hs
 obtain _ | ⟨x2, l⟩ := l
 ·
  cases hs
 obtain _ | ⟨x3, l⟩ := l
 ·
  cases hs
 obtain _ | ⟨x4, l⟩ := l
 ·
  cases hs
 obtain _ | ⟨x5, l⟩ := l
 ·
  cases hs
 obtain _ | ⟨x6, l⟩ := l
 ·
  cases hs
 obtain _ | ⟨x7, l⟩ := l
 ·
  cases hs
 obtain _ | ⟨x8, l⟩ := l
 ·
  cases hs
 obtain _ | ⟨x9, l⟩ := l
 ·
  cases hs
 obtain _ | ⟨x10, l⟩ := l
 ·
  cases hs
 obtain _ | ⟨x11, l⟩ := l
 ·
  cases hs
 obtain _ | ⟨x12, l⟩ := l
 ·
  cases hs
 obtain _ | ⟨x13, l⟩ := l
 ·
  cases hs
 obtain _ | ⟨x14, l⟩ := l
 ·
  cases hs
 obtain _ | ⟨x15, l⟩ := l
 ·
  cases hs
 obtain _ | ⟨x16, l⟩ := l
 ·
  cases hs
 obtain _ | ⟨x17, l⟩ := l
 ·
  cases hs
 obtain _ | ⟨x18, l⟩ := l
 ·
  cases hs
 obtain _ | ⟨x19, l⟩ := l
 ·
  cases hs
 obtain _ | ⟨x20, l⟩ := l
 ·
  cases hs
 obtain _ | ⟨x21, l⟩ := l
 ·
  cases hs
 obtain _ | ⟨x22, l⟩ := l
 ·
  cases hs
 obtain _ | ⟨x23, l⟩ := l
 ·
  cases hs
 obtain _ | ⟨x24, l⟩ := l
 ·
  cases hs
 obtain _ | ⟨x25, l⟩ := l
 ·
  cases hs
 obtain _ | ⟨x26, l⟩ := l
 ·
  cases hs
 obtain _ | ⟨x27, l⟩ := l
 ·
  cases hs
 obtain _ | ⟨x28, l⟩ := l
 ·
  cases hs
 obtain _ | ⟨x29, l⟩ := l
 ·
  cases hs
 obtain _ | ⟨x30, l⟩ := l
 ·
  cases hs
 obtain _ | ⟨x31, l⟩ := l
 ·
  cases hs
 obtain _ | ⟨x32, l⟩ := l
 ·
  cases hs
 obtain _ | ⟨x33, l⟩ := l
 ·
  cases hs
 obtain _ | ⟨x34, l⟩ := l
 ·
  cases hs
 obtain _ | ⟨x35, l⟩ := l
 ·
  cases hs
 obtain _ | ⟨x36, l⟩ := l
 ·
  cases hs
 obtain _ | ⟨x37, l⟩ := l
 ·
  cases hs
 obtain _ | ⟨x38, l⟩ := l
 ·
  cases hs
 obtain _ | ⟨x39, l⟩ := l
 ·
  cases hs
 obtain _ | ⟨x40, l⟩ := l
 ·
  cases hs
 obtain _ | ⟨x41, l⟩ := l
 ·
  cases hs
 obtain _ | ⟨x42, l⟩ := l
 ·
  cases hs
 obtain _ | ⟨x43, l⟩ := l
 ·
  cases hs
 obtain _ | ⟨x44, l⟩ := l
 ·
  cases hs
 obtain _ | ⟨x45, l⟩ := l
 ·
  cases hs
 obtain _ | ⟨x46, l⟩ := l
 ·
  cases hs
 obtain _ | ⟨x47, l⟩ := l
 ·
  cases hs
 obtain _ | ⟨x48, l⟩ := l
 ·
  cases hs
 obtain _ | ⟨x49, l⟩ := l
 ·
  cases hs
 obtain _ | ⟨x50, l⟩ := l
 ·
  cases hs
 obtain _ | ⟨x51, l⟩ := l
 ·
  cases hs
 obtain _ | ⟨x52, l⟩ := l
 ·
  cases hs
 obtain _ | ⟨x53, l⟩ := l
 ·
  cases hs
 obtain _ | ⟨x54, l⟩ := l
 ·
  cases hs
 obtain _ | ⟨x55, l⟩ := l
 ·
  cases hs
 obtain _ | ⟨x56, l⟩ := l
 ·
  cases hs
 obtain _ | ⟨x57, l⟩ := l
 ·
  cases hs
 obtain _ | ⟨x58, l⟩ := l
 ·
  cases hs
 obtain _ | ⟨x59, l⟩ := l
 ·
  cases hs
 obtain _ | ⟨x60, l⟩ := l
 ·
  cases hs
 obtain _ | ⟨x61, l⟩ := l
 ·
  cases hs
 obtain _ | ⟨x62, l⟩ := l
 ·
  cases hs
 obtain _ | ⟨x63, l⟩ := l
 ·
  cases hs
 obtain _ | ⟨x64, l⟩ := l
 ·
  cases hs
 obtain _ | ⟨x65, l⟩ := l
 ·
  cases hs
 obtain _ | ⟨x66, l⟩ := l
 ·
  cases hs
 obtain _ | ⟨x67, l⟩ := l
 ·
  cases hs
 obtain _ | ⟨x68, l⟩ := l
 ·
  cases hs
 obtain _ | ⟨x69, l⟩ := l
 ·
  cases hs
 obtain _ | ⟨x70, l⟩ := l
 ·
  cases hs
 obtain _ | ⟨x71, l⟩ := l
 ·
  cases hs
 obtain _ | ⟨x72, l⟩ := l
 ·
  cases hs
 obtain _ | ⟨x73, l⟩ := l
 ·
  cases hs
 obtain _ | ⟨x74, l⟩ := l
 ·
  cases hs
 obtain _ | ⟨y, l⟩ := l
 ·
  exact ⟨_, _, _, _, _, _, _, _, _, _, _, _, _, _, _, _, _, _, _, _, _, _, _, _, _, _, _, _, _, _, _, _, _, _, _, _, _, _, _, _, _, _, _, _, _, _, _, _, _, _, _, _, _, _, _, _, _, _, _, _, _, _, _, _, _, _, _, _, _, _, _, _, _, _, _, rfl⟩
 ·
  simp at hs
theorem bytes_new (w : World) (base : Nat) (e : TypeId) (l : List UInt8) (hb : base <= w.heap.size) (hl : l.length <= maxLen) (n : Nat) (hn : n = l.length) (C : Array Value) (hC : C = (bcells l).toArray) : BytesAt (w.alloc (.cells C e)) base e (.slice (some ⟨w.heap.size, 0, none⟩) n n) l := by
 subst hn hC
 refine .inr ⟨w.heap.size, 0, l.length, _, rfl, hb, heap_alloc_new w _, Nat.le_refl _, hl, ⟨by simp [bcells], fun _ => by simp [bcells]⟩, ?_⟩
 rw [List.drop_zero]
 show (bcells l).take l.length = bcells l
 rw [List.take_of_length_le]; simp [bcells]
theorem bytes_alloc {w : World} {base : Nat} {e : TypeId} {v : Value} {l : List UInt8} (h : BytesAt w base e v l) (o : Obj) : BytesAt (w.alloc o) base e v l :=
 h.kept fun g hg => Below.heap_alloc w o g (h.lt g hg).2
theorem StAt.below {w w' : World} {b : Nat} {hw : Nat -> Nat} {held : Value} {many : Nat} (h : StAt w b hw held many) {B : Nat} (hb : Below B w w') (hB : b < B) : StAt w' b hw held many := h.but (hb.block b hB)
structure InvP (b many : Nat) (hw : Nat -> Nat) (held : Value) (w0 : World) (l : List UInt8) (a : Act) (w : World) : Prop where
 fr : ∃ p, Fr 75 a [(0, .pointer (some ⟨b, 0, none⟩)), (3, p)] /\ BytesAt w w0.heap.size 5 p l
 st : StAt w b hw held many
 below : Below w0.heap.size w0 w
set_option maxHeartbeats 1000000 in
set_option maxRecDepth 1000000 in
theorem sum_head {b many base : Nat} {hw : Nat -> Nat} {held : Value} {l : List UInt8} {w : World} (hS : StAt w b hw held many) (hB : BytesAt w base 5 held l) (hl : l.length <= 1099511627776) {a : Act} (hF : Fr 75 a [(0, .pointer (some ⟨b, 0, none⟩))]) {Q : Exit -> Act -> World -> Prop}
  (hQ : ∀ a' w', InvP b many hw held w l a' w' -> wpL Tryz.prog (L44.drop 4) Q a' w') : wpL Tryz.prog (L44.drop 0) Q a w := by
 obtain ⟨i0, hi, hz0, hz1, hz2⟩ := info_parts infoB
 have hblt : b < w.heap.size := by
  obtain ⟨fr, h, _⟩ := hS
  exact (Array.getElem?_eq_some_iff.1 h).1
 have hc8 := hS.cell8
 obtain ⟨hs, hd, hsl⟩ := hF
 have h0 := hsl _ List.mem_cons_self
 clear hsl
 obtain ⟨x0, x1, x2, x3, x4, x5, x6, x7, x8, x9, x10, x11, x12, x13, x14, x15, x16, x17, x18, x19, x20, x21, x22, x23, x24, x25, x26, x27, x28, x29, x30, x31, x32, x33, x34, x35, x36, x37, x38, x39, x40, x41, x42, x43, x44, x45, x46, x47, x48, x49, x50, x51, x52, x53, x54, x55, x56, x57, x58, x59, x60, x61, x62, x63, x64, x65, x66, x67, x68, x69, x70, x71, x72, x73, x74, rfl⟩ := lit75 hs hd
 replace h0 : x0 = .pointer (some ⟨b, 0, none⟩) := h0
 subst h0
 clear hs hd
 have hS' := Lib.hid hS
 have hQ' := Lib.hid hQ
 have hN0 := bytes_new w w.heap.size 5 [] (Nat.le_refl _) (by decide) 0 rfl #[] rfl
 have hN0' := Lib.hid hN0
 have hsrc : Src Tryz.prog 1 71 held l.length (bcells l) (w.alloc (.cells #[] 5)) := BytesAt.src (w.alloc (.cells #[] 5)) Tryz.underlying71 (bytes_alloc hB _)
 have hsrc' := Lib.hid hsrc
 have hlb : ([] : List UInt8).length + l.length <= 140737488355328 := by simp; omega
 have hlb' := Lib.hid hlb
 clear hS hB hQ hN0 hsrc hlb
 refine wpL_lit (L' := [_, _, _, _] ++ L44.drop 4) (by rfl) ?_
 simp only [List.cons_append, List.nil_append, wpL]
 go_wp2_with (at_builtin; refine wpList_append_src _ rfl (.tmp 12) (.tmp 16) 71 71 rfl w.heap.size 5 i0 Tryz.underlying71 hi hz0 hz1 hz2 (.slice (some ⟨w.heap.size, 0, none⟩) 0 0) [] rfl hN0'.out l hsrc'.out hlb'.out (by simp) ?_; intro v' w1 hB1 hg1 hn1; have hB1' := Lib.hid hB1; have hg1' := Lib.hid hg1; clear hB1 hg1 hn1)
 have hbw : Below w.heap.size w w1 := ((Below.refl w.heap.size w).alloc (Nat.le_refl _) _).grown hg1'.out (by simp) (fun k hk => by simp [Value.ownBlock] at hk; omega)
 refine hQ'.out _ _ ⟨⟨v', ⟨rfl, rfl, fun p hp => ?_⟩, by simpa using hB1'.out⟩, hS'.out.below hbw hblt, hbw⟩
 simp only [List.mem_cons, List.not_mem_nil, or_false] at hp
 rcases hp with rfl | rfl <;> rfl
set_option maxHeartbeats 1000000 in
set_option maxRecDepth 1000000 in
theorem sum_128 {b many : Nat} {hw : Nat -> Nat} {held : Value} {l : List UInt8} {w0 w : World} (hl : l.length <= 1099511627776) {a : Act} (hI : InvP b many hw held w0 l a w) (hblt : b < w0.heap.size) {Q : Exit -> Act -> World -> Prop}
  (hQ : ∀ a' w', InvP b many hw held w0 (l ++ [128]) a' w' -> wpL Tryz.prog (L44.drop 5) Q a' w') : wpL Tryz.prog (L44.drop 4) Q a w := by
 obtain ⟨i0, hi, hz0, hz1, hz2⟩ := info_parts infoB
 obtain ⟨⟨p, hF, hB⟩, hS, hbel⟩ := hI
 have hsz := hbel.size
 obtain ⟨hs, hd, hsl⟩ := hF
 have h0 := hsl _ List.mem_cons_self
 have h3 := hsl _ (List.mem_cons_of_mem _ List.mem_cons_self)
 clear hsl
 obtain ⟨x0, x1, x2, x3, x4, x5, x6, x7, x8, x9, x10, x11, x12, x13, x14, x15, x16, x17, x18, x19, x20, x21, x22, x23, x24, x25, x26, x27, x28, x29, x30, x31, x32, x33, x34, x35, x36, x37, x38, x39, x40, x41, x42, x43, x44, x45, x46, x47, x48, x49, x50, x51, x52, x53, x54, x55, x56, x57, x58, x59, x60, x61, x62, x63, x64, x65, x66, x67, x68, x69, x70, x71, x72, x73, x74, rfl⟩ := lit75 hs hd
 replace h0 : x0 = .pointer (some ⟨b, 0, none⟩) := h0
 replace h3 : x3 = p := h3
 subst h0
 subst h3
 clear hs hd
 have hbw : Below w0.heap.size w0 (w.alloc (.cells #[.int .u8 128] 5)) := hbel.alloc hsz _
 have hBa := Lib.hid (bytes_alloc hB (.cells #[.int .u8 128] 5))
 have hsrc : Src Tryz.prog 1 71 (.slice (some ⟨w.heap.size, 0, none⟩) 1 1) [(128 : UInt8)].length (bcells [128]) (w.alloc (.cells #[.int .u8 128] 5)) := BytesAt.src _ Tryz.underlying71 (bytes_new w w.heap.size 5 [128] (Nat.le_refl _) (by decide) 1 rfl #[.int .u8 128] rfl)
 have hsrc' := Lib.hid hsrc
 have hlb : l.length + [(128 : UInt8)].length <= 140737488355328 := by simp; omega
 have hlb' := Lib.hid hlb
 have hS' := Lib.hid hS
 have hQ' := Lib.hid hQ
 have hbw' := Lib.hid hbw
 have hrow := Lib.hid fun k hk => (hB.lt k hk).1
 clear hS hB hQ hsrc hlb hbw hbel
 refine wpL_lit (L' := [_] ++ L44.drop 5) (by rfl) ?_
 simp only [List.cons_append, List.nil_append, wpL]
 go_wp2_with (at_builtin; refine wpList_append_src _ rfl (.tmp 18) (.tmp 19) 71 71 rfl w0.heap.size 5 i0 Tryz.underlying71 hi hz0 hz1 hz2 x3 l rfl hBa.out [128] hsrc'.out hlb'.out (by simp; omega) ?_; intro v' w1 hB1 hg1 hn1; have hB1' := Lib.hid hB1; have hg1' := Lib.hid hg1; clear hB1 hg1 hn1)
 have hbw1 : Below w0.heap.size w0 w1 := hbw'.out.grown hg1'.out (by simp; omega) hrow.out
 have hbw2 : Below w0.heap.size w w1 := ((Below.refl w0.heap.size w).alloc hsz _).grown hg1'.out (by simp; omega) hrow.out
 refine hQ'.out _ _ ⟨⟨v', ⟨rfl, rfl, fun p hp => ?_⟩, hB1'.out⟩, hS'.out.below hbw2 hblt, hbw1⟩
 simp only [List.mem_cons, List.not_mem_nil, or_false] at hp
 rcases hp with rfl | rfl <;> rfl
end Go.Proofs
namespace Go.Proofs
open Go.RowKit Go.Ev
noncomputable def L44z : List Code := codes (loopB (itemN L44 5))
theorem id44z : loopId (itemN L44 5) = some 0 := by kernel_rfl
theorem len44 : lenL L44 = 15 := by kernel_rfl
set_option maxHeartbeats 1000000 in
set_option maxRecDepth 1000000 in
theorem sum_zero_round {b many : Nat} {hw : Nat -> Nat} {held : Value} {l : List UInt8} {w0 w : World} (hl : l.length <= 1099511627776) {a : Act} (hI : InvP b many hw held w0 l a w) (hblt : b < w0.heap.size) {Q : Exit -> Act -> World -> Prop}
  (h56 : l.length % 64 = 56 -> ∀ a', InvP b many hw held w0 l a' w -> Q (.exit 0) a' w) (hN : l.length % 64 ≠ 56 -> ∀ a' w', InvP b many hw held w0 (l ++ [0]) a' w' -> Q .normal a' w') : (loopB (itemN L44 5)).wp Tryz.prog Q a w := by
 refine wpL_codes ?_
 obtain ⟨i0, hi, hz0, hz1, hz2⟩ := info_parts infoB
 obtain ⟨⟨p, hF, hB⟩, hS, hbel⟩ := hI
 have hsz := hbel.size
 obtain ⟨n, hn⟩ : ∃ n, n = l.length := ⟨_, rfl⟩
 obtain ⟨pa, pc, hv, hnc⟩ := hB.len
 rw [<- hn] at hv hnc h56 hN hl
 subst hv
 obtain ⟨hs, hd, hsl⟩ := hF
 have h0 := hsl _ List.mem_cons_self
 have h3 := hsl _ (List.mem_cons_of_mem _ List.mem_cons_self)
 clear hsl
 obtain ⟨x0, x1, x2, x3, x4, x5, x6, x7, x8, x9, x10, x11, x12, x13, x14, x15, x16, x17, x18, x19, x20, x21, x22, x23, x24, x25, x26, x27, x28, x29, x30, x31, x32, x33, x34, x35, x36, x37, x38, x39, x40, x41, x42, x43, x44, x45, x46, x47, x48, x49, x50, x51, x52, x53, x54, x55, x56, x57, x58, x59, x60, x61, x62, x63, x64, x65, x66, x67, x68, x69, x70, x71, x72, x73, x74, rfl⟩ := lit75 hs hd
 replace h0 : x0 = .pointer (some ⟨b, 0, none⟩) := h0
 replace h3 : x3 = .slice pa n pc := h3
 subst h0
 subst h3
 clear hs hd
 have hbw : Below w0.heap.size w0 (w.alloc (.cells #[.int .u8 0] 5)) := hbel.alloc hsz _
 have hBa := Lib.hid (bytes_alloc hB (.cells #[.int .u8 0] 5))
 have hsrc : Src Tryz.prog 1 71 (.slice (some ⟨w.heap.size, 0, none⟩) 1 1) [(0 : UInt8)].length (bcells [(0 : UInt8)]) (w.alloc (.cells #[.int .u8 0] 5)) := BytesAt.src _ Tryz.underlying71 (bytes_new w w.heap.size 5 [(0 : UInt8)] (Nat.le_refl _) (by decide) 1 rfl _ rfl)
 have hsrc' := Lib.hid hsrc
 have hlb : l.length + [(0 : UInt8)].length <= 140737488355328 := by simp; omega
 have hlb' := Lib.hid hlb
 have hS' := Lib.hid hS
 have hbw' := Lib.hid hbw
 have hrow := Lib.hid fun k hk => (hB.lt k hk).1
 have hBh := Lib.hid hB
 have hbelh := Lib.hid hbel
 have hmod : (n : Int).tmod 64 = ((n % 64 : Nat) : Int) := rfl
 have hnh := Lib.hid hn
 clear hS hB hsrc hlb hbw hbel hn
 by_cases hm : n % 64 = 56
 ·
  have hQ' := Lib.hid (h56 hm)
  clear h56 hN
  refine wpL_lit (L' := [_, _, itemN L44z 2]) (by rfl) ?_
  simp only [wpL]
  go_wp2
  refine hQ'.out _ ⟨⟨_, ⟨rfl, rfl, fun p hp => ?_⟩, hBh.out⟩, hS'.out, hbelh.out⟩
  simp only [List.mem_cons, List.not_mem_nil, or_false] at hp
  rcases hp with rfl | rfl <;> rfl
 ·
  have hQ' := Lib.hid (hN hm)
  clear h56 hN
  refine wpL_lit (L' := [_, _, _]) (by rfl) ?_
  simp only [wpL]
  go_wp2_with (at_builtin; refine wpList_append_src _ rfl (.tmp 25) (.tmp 26) 71 71 rfl w0.heap.size 5 i0 Tryz.underlying71 hi hz0 hz1 hz2 (.slice pa n pc) l rfl hBa.out [0] hsrc'.out hlb'.out (by simp; omega) ?_; intro v' w1 hB1 hg1 hn1; have hB1' := Lib.hid hB1; have hg1' := Lib.hid hg1; clear hB1 hg1 hn1)
  have hbw1 : Below w0.heap.size w0 w1 := hbw'.out.grown hg1'.out (by simp; omega) hrow.out
  have hbw2 : Below w0.heap.size w w1 := ((Below.refl w0.heap.size w).alloc hsz _).grown hg1'.out (by simp; omega) hrow.out
  refine hQ'.out _ _ ⟨⟨v', ⟨rfl, rfl, fun p hp => ?_⟩, hB1'.out⟩, hS'.out.below hbw2 hblt, hbw1⟩
  simp only [List.mem_cons, List.not_mem_nil, or_false] at hp
  rcases hp with rfl | rfl <;> rfl
theorem sum_zeros {b many : Nat} {hw : Nat -> Nat} {held : Value} {l : List UInt8} {w0 w : World} (hl : l.length <= 1073741824) {a : Act} (hI : InvP b many hw held w0 (l ++ [128]) a w) (hblt : b < w0.heap.size) {Q : Exit -> Act -> World -> Prop}
  (hQ : ∀ a' w', InvP b many hw held w0 (zt l (padN l.length)) a' w' -> wpL Tryz.prog (L44.drop 6) Q a' w') : wpL Tryz.prog (L44.drop 5) Q a w := by
 refine wpL_loop (by rw [len44]; decide) id44z ?_
 have hp : padN l.length < 64 := Nat.mod_lt _ (by decide)
 have hmod : (l.length + 1 + padN l.length) % 64 = 56 := by unfold padN; omega
 have hlt : ∀ j, j < padN l.length -> (l.length + 1 + j) % 64 ≠ 56 := by unfold padN; omega
 refine wp_loop_n (I := fun k a' w' => k <= padN l.length /\ InvP b many hw held w0 (zt l (padN l.length - k)) a' w') ?_ (padN l.length) a w ⟨Nat.le_refl _, ?_⟩
 ·
  intro k a' w' ⟨hk, hI'⟩
  have hlen := zt_len l (padN l.length - k)
  generalize hp' : padN l.length = p at *
  refine sum_zero_round (by omega) hI' hblt (fun h56 a'' hI'' => ?_) (fun hne a'' w'' hI'' => ?_)
  ·
   have hk0 : k = 0 := by
    rcases Nat.eq_zero_or_pos k with h | h
    ·
     exact h
    ·
     exact absurd (hlen ▸ h56) (hlt (p - k) (by omega))
   rw [hk0, Nat.sub_zero] at hI''
   exact hQ a'' _ hI''
  ·
   have h0 : k ≠ 0 := fun h0 => by rw [h0, Nat.sub_zero] at hlen hne; rw [hlen] at hne; exact hne hmod
   refine ⟨k - 1, by omega, by omega, ?_⟩
   have e : p - (k - 1) = p - k + 1 := by omega
   rw [e, <- zt_succ]
   exact hI''
 ·
  rw [Nat.sub_self]; exact hI
end Go.Proofs
