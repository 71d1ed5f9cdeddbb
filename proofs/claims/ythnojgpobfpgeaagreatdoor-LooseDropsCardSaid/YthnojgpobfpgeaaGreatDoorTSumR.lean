/- (*State).Write. -/
import Derived.Test.YthnojgpobfpgeaaGreatDoorTSumT
import Derived.WalkKit
import Derived.ProofKit
import Derived.LoopN
import Derived.BigQuiet
import Derived.Lib.Hide
namespace Go.Proofs
open Go.RowKit Go.Ev
theorem lit51 {a : Act} (hs : a.tmps.size = 51) (hd : a.defers = []) : ∃ x0 x1 x2 x3 x4 x5 x6 x7 x8 x9 x10 x11 x12 x13 x14 x15 x16 x17 x18 x19 x20 x21 x22 x23 x24 x25 x26 x27 x28 x29 x30 x31 x32 x33 x34 x35 x36 x37 x38 x39 x40 x41 x42 x43 x44 x45 x46 x47 x48 x49 x50 : Value, a = ⟨#[x0, x1, x2, x3, x4, x5, x6, x7, x8, x9, x10, x11, x12, x13, x14, x15, x16, x17, x18, x19, x20, x21, x22, x23, x24, x25, x26, x27, x28, x29, x30, x31, x32, x33, x34, x35, x36, x37, x38, x39, x40, x41, x42, x43, x44, x45, x46, x47, x48, x49, x50], []⟩ := by
 obtain ⟨⟨l⟩, d⟩ := a
 subst hd
 have hs : l.length = 51 := hs
 obtain _ | ⟨x0, l⟩ := l
 ·
  cases hs
 obtain _ | ⟨x1, l⟩ := l
 ·
  cases hs
 obtain _ | ⟨x2, l⟩ := l
 ·
  cases hs
 obtain _ | ⟨x3, l⟩ := l
 ·
  cases hs
 obtain _ | ⟨x4, l⟩ := l
 ·
  cases hs
 obtain _ | ⟨x5, l⟩ := l
 ·
  cases hs
 obtain _ | ⟨x6, l⟩ := l
 ·
  cases hs
 obtain _ | ⟨x7, l⟩ := l
 ·
  cases hs
 obtain _ | ⟨x8, l⟩ := l
 ·
  cases hs
 obtain _ | ⟨x9, l⟩ := l
 ·
  cases hs
 obtain _ | ⟨x10, l⟩ := l
 ·
  cases hs
 obtain _ | ⟨x11, l⟩ := l
 ·
  cases hs
 obtain _ | ⟨x12, l⟩ := l
 ·
  cases hs
 obtain _ | ⟨x13, l⟩ := l
 ·
  cases hs
 obtain _ | ⟨x14, l⟩ := l
 ·
  cases hs
 obtain _ | ⟨x15, l⟩ := l
 ·
  cases hs
 obtain _ | ⟨x16, l⟩ := l
 ·
  cases hs
 obtain _ | ⟨x17, l⟩ := l
 ·
  cases hs
 obtain _ | ⟨x18, l⟩ := l
 ·
  cases hs
 obtain _ | ⟨x19, l⟩ := l
 ·
  cases hs
 obtain _ | ⟨x20, l⟩ := l
 ·
  cases hs
 obtain _ | ⟨x21, l⟩ := l
 ·
  cases hs
 obtain _ | ⟨x22, l⟩ := l
 ·
  cases hs
 obtain _ | ⟨x23, l⟩ := l
 ·
  cases hs
 obtain _ | ⟨x24, l⟩ := l
 ·
  cases hs
 obtain _ | ⟨x25, l⟩ := l
 ·
  cases hs
 obtain _ | ⟨x26, l⟩ := l
 ·
  cases hs
 obtain _ | ⟨x27, l⟩ := l
 ·
  cases hs
 obtain _ | ⟨x28, l⟩ := l
 ·
  cases hs
 obtain _ | ⟨x29, l⟩ := l
 ·
  cases hs
 obtain _ | ⟨x30, l⟩ := l
 ·
  cases hs
 obtain _ | ⟨x31, l⟩ := l
 ·
  cases hs
 obtain _ | ⟨x32, l⟩ := l
 ·
  cases hs
 obtain _ | ⟨x33, l⟩ := l
 ·
  cases hs
 obtain _ | ⟨x34, l⟩ := l
 ·
  cases hs
 obtain _ | ⟨x35, l⟩ := l
 ·
  cases hs
 obtain _ | ⟨x36, l⟩ := l
 ·
  cases hs
 obtain _ | ⟨x37, l⟩ := l
 ·
  cases hs
 obtain _ | ⟨x38, l⟩ := l
 ·
  cases hs
 obtain _ | ⟨x39, l⟩ := l
 ·
  cases hs
 obtain _ | ⟨x40, l⟩ := l
 ·
  cases hs
 obtain _ | ⟨x41, l⟩ := l
 ·
  cases hs
 obtain _ | ⟨x42, l⟩ := l
 ·
  cases hs
 obtain _ | ⟨x43, l⟩ := l
 ·
  cases hs
 obtain _ | ⟨x44, l⟩ := l
 ·
  cases hs
 obtain _ | ⟨x45, l⟩ := l
 ·
  cases hs
 obtain _ | ⟨x46, l⟩ := l
 ·
  cases hs
 obtain _ | ⟨x47, l⟩ := l
 ·
  cases hs
 obtain _ | ⟨x48, l⟩ := l
 ·
  cases hs
 obtain _ | ⟨x49, l⟩ := l
 ·
  cases hs
 obtain _ | ⟨x50, l⟩ := l
 ·
  cases hs
 obtain _ | ⟨y, l⟩ := l
 ·
  exact ⟨_, _, _, _, _, _, _, _, _, _, _, _, _, _, _, _, _, _, _, _, _, _, _, _, _, _, _, _, _, _, _, _, _, _, _, _, _, _, _, _, _, _, _, _, _, _, _, _, _, _, _, rfl⟩
 ·
  simp at hs
theorem wpL_lit {P : Program} {L L' : List Code} {Q : Exit -> Act -> World -> Prop} {a : Act} {w : World} (h : L = L') (k : wpL P L' Q a w) : wpL P L Q a w := by subst h; exact k
section
variable {w : World} {b : Nat} {hw : Nat -> Nat} {held : Value} {many : Nat}
theorem StAt.cell8 (h : StAt w b hw held many) : w.cell? ⟨b, 8, none⟩ = some held := by
 obtain ⟨fr, h, _⟩ := h
 rw [cell_of_row w b 8 _ _ fr h]; rfl
theorem StAt.cell9 (h : StAt w b hw held many) : w.cell? ⟨b, 9, none⟩ = some (.int .u64 (many : Int)) := by
 obtain ⟨fr, h, _⟩ := h
 rw [cell_of_row w b 9 _ _ fr h]; rfl
theorem StAt.free (h : StAt w b hw held many) (j : Nat) (hj : j < 10) : w.frozen? ⟨b, j, none⟩ = false := by
 obtain ⟨fr, h, hf⟩ := h
 have := hf j hj
 unfold World.frozen?
 rw [h]
 simp only [Bool.and_eq_false_imp, decide_eq_true_eq, decide_eq_false_iff_not]
 omega
theorem StAt.set (h : StAt w b hw held many) (i : Nat) (v : Value) : ∃ fr : Nat × Nat, (w.setCell ⟨b, i, none⟩ v).heap[b]? = some (.cells ((⟨wordsC hw ++ [held, .int .u64 (many : Int)]⟩ : Array Value).setIfInBounds i v) 169 fr) /\ ∀ j, j < 10 -> ¬ (fr.1 <= j /\ j < fr.2) := by
 obtain ⟨fr, h, hf⟩ := h
 refine ⟨fr, ?_, hf⟩
 rw [setCell_eq_setRow w b i _ _ fr v h]
 exact setRow_heap w b _ _ _ _ h
theorem StAt.set8 (h : StAt w b hw held many) (v : Value) : StAt (w.setCell ⟨b, 8, none⟩ v) b hw v many := h.set 8 v
theorem StAt.set9 (h : StAt w b hw held many) (m : Nat) : StAt (w.setCell ⟨b, 9, none⟩ (.int .u64 (m : Int))) b hw held m := h.set 9 _
theorem StAt.but {w' : World} (h : StAt w b hw held many) (e : w'.heap[b]? = w.heap[b]?) : StAt w' b hw held many := by
 obtain ⟨fr, h, hf⟩ := h
 exact ⟨fr, e.trans h, hf⟩
end
theorem bytes_drop64 {w : World} {base : Nat} {e : TypeId} {g off n cap : Nat} {l : List UInt8} (h : BytesAt w base e (.slice (some ⟨g, off, none⟩) n cap) l) (hl : 64 <= l.length) :
  (cap = 64 -> BytesAt w base e (.slice (some ⟨g, off, none⟩) (n - 64) (cap - 64)) (l.drop 64)) /\ BytesAt w base e (.slice (some ⟨g, off + 64, none⟩) (n - 64) (cap - 64)) (l.drop 64) := by
 rcases h with ⟨h, _⟩ | ⟨g', off', cap', cur, hv, hbg, hg, hnc, hcm, hcs, htake⟩
 ·
  cases h
 ·
  cases hv
  have hd : (l.drop 64).length = l.length - 64 := List.length_drop
  constructor
  ·
   intro hc
   have h0 : l.drop 64 = [] := List.drop_eq_nil_of_le (by omega)
   refine .inr ⟨g, off, 0, cur, by rw [h0, hc]; simp; omega, hbg, hg, by rw [h0]; simp, Nat.zero_le _, ⟨by omega, fun h => by omega⟩, by rw [h0]; simp⟩
  ·
   refine .inr ⟨g, off + 64, cap - 64, cur, by rw [hd], hbg, hg, by rw [hd]; omega, by omega, ⟨by omega, fun h => by have := hcs.2 (by omega); omega⟩, ?_⟩
   rw [hd, <- List.drop_drop, List.map_drop, <- htake, List.drop_take]
structure ButB (B b : Nat) (w w' : World) : Prop where
 os : w'.os = w.os
 tape : w'.tape = w.tape
 output : w'.output = w.output
 size : w.heap.size <= w'.heap.size
 block : ∀ k, k < B -> k ≠ b -> w'.heap[k]? = w.heap[k]?
theorem ButB.refl (B b : Nat) (w : World) : ButB B b w w := ⟨rfl, rfl, rfl, Nat.le_refl _, fun _ _ _ => rfl⟩
theorem ButB.trans {B b : Nat} {u v w : World} (h : ButB B b u v) (k : ButB B b v w) : ButB B b u w :=
 ⟨k.os.trans h.os, k.tape.trans h.tape, k.output.trans h.output, Nat.le_trans h.size k.size, fun i h1 h2 => (k.block i h1 h2).trans (h.block i h1 h2)⟩
theorem But.toB {b : Nat} {w w' : World} (h : But b w w') (B : Nat) (hB : B <= w.heap.size) : ButB B b w w' := ⟨h.os, h.tape, h.output, h.size, fun k h1 h2 => h.block k (by omega) h2⟩
theorem ButB.setCell (B b i : Nat) (w : World) (v : Value) : ButB B b w (w.setCell ⟨b, i, none⟩ v) :=
 ⟨rfl, rfl, rfl, by simp [World.setCell], fun k _ h => heap_setCell_other w _ k v h⟩
theorem ButB.grown {B b : Nat} {w w' : World} {row : Option Nat} (h : w.grownBy w' row) (hB : B <= w.heap.size) (hr : ∀ k, row = some k -> B <= k) : ButB B b w w' :=
 ⟨h.os, h.tape, h.output, h.size, fun k h1 _ => h.block k (by omega) fun e => by have := hr k e.symm; omega⟩
structure InvW (b base many : Nat) (T : List UInt8) (hw : Nat -> Nat) (k : Nat) (w0 : World) (a : Act) (w : World) : Prop where
 fr : Fr 51 a [(0, .pointer (some ⟨b, 0, none⟩))]
 st : ∃ held, StAt w b (absN k hw T) held many /\ BytesAt w base 5 held (T.drop (64 * k))
 le : 64 * k <= T.length
 but : ButB base b w0 w
theorem blk42 : itemN L42a 2 = .block 1 (blockB (itemN L42a 2)) := by rfl
set_option maxHeartbeats 1000000 in
set_option maxRecDepth 1000000 in
theorem write_round {b base many : Nat} {T : List UInt8} {hw : Nat -> Nat} (h8 : ∀ k, k < 8 -> hw k < W32) (hbase : b < base) {w0 : World} (hb0 : base <= w0.heap.size) {k : Nat} {a : Act} {w : World} (hI : InvW b base many T hw k w0 a w) {Q : Exit -> Act -> World -> Prop}
  (hQ : (T.drop (64 * k)).length < 64 -> ∀ a', InvW b base many T hw k w0 a' w -> Q (.exit 0) a' w) (hN : 64 <= (T.drop (64 * k)).length -> ∀ a' w', InvW b base many T hw (k + 1) w0 a' w' -> Q .normal a' w') : (loopB (itemN L42 4)).wp Tryz.prog Q a w := by
 refine wpL_codes ?_
 obtain ⟨hF, ⟨held, hS, hB⟩, hle, hbut⟩ := hI
 obtain ⟨hs, hd, hl⟩ := id hF
 have h0 := hl _ List.mem_cons_self
 clear hl
 obtain ⟨x0, x1, x2, x3, x4, x5, x6, x7, x8, x9, x10, x11, x12, x13, x14, x15, x16, x17, x18, x19, x20, x21, x22, x23, x24, x25, x26, x27, x28, x29, x30, x31, x32, x33, x34, x35, x36, x37, x38, x39, x40, x41, x42, x43, x44, x45, x46, x47, x48, x49, x50, rfl⟩ := lit51 hs hd
 have h0 : x0 = .pointer (some ⟨b, 0, none⟩) := h0
 subst h0
 clear hs hd hF
 obtain ⟨n, hn⟩ : ∃ n, n = (T.drop (64 * k)).length := ⟨_, rfl⟩
 have hS' := Lib.hid hS
 have hB' := Lib.hid hB
 obtain ⟨ha, hc, hv, hnc⟩ := hB.len
 have hnl : n <= 9223372036854775807 := by
  rcases hB with ⟨hh, hh2⟩ | ⟨_, _, _, _, _, _, _, h1, h2, _⟩
  ·
   rw [hn, hh2]; decide
  ·
   unfold maxLen at h2; omega
 rw [<- hn] at hv hnc hQ hN
 have hn' := Lib.hid hn
 subst hv
 have hc8 := hS.cell8
 clear hS hB hn
 refine wpL_lit (L' := [_, _, itemN L42a 2]) (by rfl) ?_
 simp only [wpL]
 by_cases hlt : n < 64
 ·
  have hQ' := Lib.hid (hQ hlt)
  clear hQ hN
  go_wp2
  refine hQ'.out _ ⟨⟨rfl, rfl, fun p hp => ?_⟩, ⟨_, hS'.out, hB'.out⟩, hle, hbut⟩
  simp only [List.mem_cons, List.not_mem_nil, or_false] at hp
  subst hp; rfl
 ·
  have hge : 64 <= n := by omega
  have hN' := Lib.hid (hN hge)
  clear hQ hN
  go_wp2
  rw [blk42]
  refine wp_block (wpL_codes ?_)
  show wpL _ (L42b.drop 0) _ _ _
  have hnl' := hn'.out
  refine stepW (l := T.drop (64 * k)) (absN_lt k h8 T) (by omega) hS'.out hB'.out hbase ⟨rfl, rfl, fun p hp => ?_⟩ fun a' w' hF' hS1 hBut => ?_
  ·
   simp only [List.mem_cons, List.not_mem_nil, or_false] at hp
   subst hp; rfl
  ·
   rw [<- absN_succ] at hS1
   obtain ⟨g, off, rfl, hgb⟩ : ∃ g off, ha = some ⟨g, off, none⟩ /\ base <= g := by
    rcases hB'.out with ⟨hh, hh2⟩ | ⟨g, off, _, _, hv, hbg, _⟩
    ·
     rw [hh2] at hnl'; simp at hnl'; omega
    ·
     cases hv; exact ⟨g, off, rfl, hbg⟩
   have hB1 : BytesAt w' base 5 (.slice (some ⟨g, off, none⟩) n hc) (T.drop (64 * k)) := hB'.out.kept fun g' hg' => by
    have := hB'.out.lt g' hg'
    exact hBut.block g' this.2 (by omega)
   obtain ⟨d1, d2⟩ := bytes_drop64 hB1 (by omega)
   have hd2 : (T.drop (64 * k)).drop 64 = T.drop (64 * (k + 1)) := by rw [List.drop_drop]; congr 1
   rw [hd2] at d1 d2
   have hbw : base <= w.heap.size := Nat.le_trans hb0 hbut.size
   have hbut1 := hbut.trans (hBut.toB base hbw)
   have hle1 : 64 * (k + 1) <= T.length := by rw [List.length_drop] at hnl'; omega
   obtain ⟨hs, hd, hl⟩ := hF'
   have h0' := hl _ List.mem_cons_self
   clear hl
   obtain ⟨y0, y1, y2, y3, y4, y5, y6, y7, y8, y9, y10, y11, y12, y13, y14, y15, y16, y17, y18, y19, y20, y21, y22, y23, y24, y25, y26, y27, y28, y29, y30, y31, y32, y33, y34, y35, y36, y37, y38, y39, y40, y41, y42, y43, y44, y45, y46, y47, y48, y49, y50, rfl⟩ := lit51 hs hd
   have h0' : y0 = .pointer (some ⟨b, 0, none⟩) := h0'
   subst h0'
   have hcell := hS1.cell8
   have hfree := hS1.free 8 (by decide)
   have hSd := Lib.hid hS1
   have hD1 : Hid (hc = 64 -> BytesAt w' base 5 (.slice (some ⟨g, off, none⟩) (n - 64) (hc - 64)) (T.drop (64 * (k + 1)))) := d1
   have hD2 := Lib.hid d2
   have hBt := Lib.hid hbut1
   have hle2 := Lib.hid hle1
   clear hs hd hS1 d1 d2 hBut hbut hbut1 hc8 h0 hB1 hS' hB' hn' hnl' hd2 hle hbw hle1
   refine wpL_lit (L' := [_]) (by rfl) ?_
   simp only [wpL]
   by_cases hc64 : hc = 64
   ·
    have hD1 := Lib.hid (hD1.out hc64)
    subst hc64
    go_wp2
    refine hN'.out _ _ ⟨⟨rfl, rfl, fun p hp => ?_⟩, ⟨_, hSd.out.set8 _, ?_⟩, hle2.out, hBt.out.trans (ButB.setCell base b 8 _ _)⟩
    ·
     simp only [List.mem_cons, List.not_mem_nil, or_false] at hp
     subst hp; rfl
    ·
     refine BytesAt.kept (w := w') ?_ fun g' hg' => heap_setCell_other _ _ _ _ ?_
     ·
      have hd1 := hD1.out trivial
      rw [show n - 64 = 0 by omega] at hd1
      exact hd1
     ·
      simp only [Value.ownBlock, Option.some.injEq] at hg'
      show g' ≠ b
      omega
   ·
    go_wp2
    refine hN'.out _ _ ⟨⟨rfl, rfl, fun p hp => ?_⟩, ⟨_, hSd.out.set8 _, ?_⟩, hle2.out, hBt.out.trans (ButB.setCell base b 8 _ _)⟩
    ·
     simp only [List.mem_cons, List.not_mem_nil, or_false] at hp
     subst hp; rfl
    ·
     refine BytesAt.kept (w := w') ?_ fun g' hg' => heap_setCell_other _ _ _ _ ?_
     ·
      exact hD2.out
     ·
      simp only [Value.ownBlock, Option.some.injEq] at hg'
      show g' ≠ b
      omega
theorem id42 : loopId (itemN L42 4) = some 0 := by kernel_rfl
theorem infoB : (Tryz.prog.info? 5).map (fun i => (i.zero, i.size, i.bytes)) = some (some (.int .u8 0), 1, 1) := by kernel_rfl
set_option maxHeartbeats 1000000 in
set_option maxRecDepth 1000000 in
theorem write_calls {b base many : Nat} {l : List UInt8} {hw : Nat -> Nat} {held : Value} {w : World} (h8 : ∀ k, k < 8 -> hw k < W32) (hbase : b < base) (hb0 : base <= w.heap.size) (hS : StAt w b hw held many) (hB : BytesAt w base 5 held l)
  (t : ByteArray) (hm : many + t.size <= 1099511627776) (hl : l.length + t.size <= 1099511627776) :
  Calls Tryz.prog 108 #[.pointer (some ⟨b, 0, none⟩), .string t] w fun e w' => e = .returned noResult /\ ∃ held',
   StAt w' b (absN ((l ++ t.data.toList).length / 64) hw (l ++ t.data.toList)) held' (many + t.size) /\ BytesAt w' base 5 held' ((l ++ t.data.toList).drop (64 * ((l ++ t.data.toList).length / 64))) /\ ButB base b w w' := by
 obtain ⟨i0, hi, hz0, hz1, hz2⟩ := info_parts infoB
 have hc8a := hS.cell8
 have hc9 := hS.cell9
 have hf8a := hS.free 8 (by decide)
 have hf9 := hS.free 9 (by decide)
 have hwr : IntKind.u64.wrap ((many : Int) + (t.size : Int)) = ((many + t.size : Nat) : Int) := by
  rw [<- Int.natCast_add]; exact wrapU64 _ (by omega)
 have hBW : BytesAt (w.setCell ⟨b, 9, none⟩ (.int .u64 ((many : Int) + (t.size : Int)))) base 5 held l := hB.kept fun g hg => heap_setCell_other _ _ _ _ (by show g ≠ b; have := (hB.lt g hg).1; omega)
 have hSW : StAt (w.setCell ⟨b, 9, none⟩ (.int .u64 ((many : Int) + (t.size : Int)))) b hw held (many + t.size) := by
  have := hS.set9 (many + t.size)
  rwa [Int.natCast_add] at this
 have hbut := ButB.setCell base b 9 w (.int .u64 ((many : Int) + (t.size : Int)))
 have hrow : ∀ k, held.ownBlock = some k -> base <= k := fun k hk => (hB.lt k hk).1
 clear hS hB
 have hbody : Tryz.f108.body = some (Tryz.f108.body.getD .skip) := by kernel_rfl
 refine calls_of_wp Tryz.func108 hbody (wpL_codes ?_)
 obtain ⟨hs, hd, hsl⟩ := fr_enter (args := [.pointer (some ⟨b, 0, none⟩), .string t]) (l := [(0, .pointer (some ⟨b, 0, none⟩)), (1, .string t)]) Tryz.ntmps108 (by simp) (fun p hp => by
  simp only [List.mem_cons, List.not_mem_nil, or_false] at hp
  rcases hp with rfl | rfl <;> rfl)
 generalize hA : (⟨(⟨[.pointer (some ⟨b, 0, none⟩), .string t]⟩ : Array Value) ++ Array.replicate (Tryz.f108.ntmps - (⟨[.pointer (some ⟨b, 0, none⟩), .string t]⟩ : Array Value).size) undef, []⟩ : Act) = A at *
 clear hA
 have h0 := hsl _ List.mem_cons_self
 have h1 := hsl _ (List.mem_cons_of_mem _ List.mem_cons_self)
 clear hsl
 obtain ⟨x0, x1, x2, x3, x4, x5, x6, x7, x8, x9, x10, x11, x12, x13, x14, x15, x16, x17, x18, x19, x20, x21, x22, x23, x24, x25, x26, x27, x28, x29, x30, x31, x32, x33, x34, x35, x36, x37, x38, x39, x40, x41, x42, x43, x44, x45, x46, x47, x48, x49, x50, rfl⟩ := lit51 hs hd
 have h0 : x0 = .pointer (some ⟨b, 0, none⟩) := h0
 have h1 : x1 = .string t := h1
 subst h0 h1
 clear hs hd
 have hBW' := Lib.hid hBW
 have hSW' := Lib.hid hSW
 have hbut' := Lib.hid hbut
 have hrow' := Lib.hid hrow
 have h8' := Lib.hid h8
 clear hBW hSW hbut hrow h8
 refine wpL_lit (L' := [_, _, _, _, itemN L42 4]) (by rfl) ?_
 simp only [wpL]
 go_wp2_with (at_builtin; refine wpList_append_bytes _ rfl _ _ 71 9 rfl base 5 i0 Tryz.underlying71 Tryz.underlying9 hi hz0 hz1 hz2 held l rfl hBW'.out t rfl (by omega) (by simp; omega) ?_; intro v' w1 hB1 hg1 hn1; obtain ⟨va, vc, hvv, hvn⟩ := hB1.len; obtain ⟨nn, hnn⟩ : ∃ nn, nn = (l ++ t.data.toList).length := ⟨_, rfl⟩; rw [<- hnn] at hvv hvn; have hnn' := Lib.hid hnn; clear hnn; subst hvv; have hS1 := hSW'.out.but (hg1.block b (by simp; omega) fun e => by have := hrow'.out b e.symm; omega); have hc8 := hS1.cell8; have hf8 := hS1.free 8 (by decide); have hS1' := Lib.hid hS1; have hB1' := Lib.hid hB1; have hg1' := Lib.hid hg1; have hn1' := Lib.hid hn1; clear hS1 hB1 hg1 hn1)
 have hres : Tryz.f108.results = #[] := by kernel_rfl
 have hbutF := (hbut'.out.trans (ButB.grown hg1'.out (by simp; omega) hrow'.out)).trans (ButB.setCell base b 8 w1 (.slice va nn vc))
 have hgb : ∀ g, (Value.slice va nn vc).ownBlock = some g -> g ≠ b := fun g hg => by
  have := (hB1'.out.lt g hg).1
  omega
 rw [loop_eq id42]
 refine wp_block ?_
 have hkey := fun (T : List UInt8) (hT : T = l ++ t.data.toList) (Q : Exit -> Act -> World -> Prop) (a0 : Act) (hF0 : Fr 51 a0 [(0, .pointer (some ⟨b, 0, none⟩))]) (hQ : ∀ a' w', InvW b base (many + t.size) T hw (T.length / 64) w a' w' -> Q (.exit 0) a' w') =>
  wp_loop_n (P := Tryz.prog) (b := loopB (itemN L42 4)) (Q := Q) (I := fun k' a' w' => ∃ k, k + k' = T.length / 64 /\ InvW b base (many + t.size) T hw k w a' w') (fun k' a' w' ⟨k, hk, hI⟩ => by
   have hd : (T.drop (64 * k)).length = T.length - 64 * k := List.length_drop
   refine write_round h8'.out hbase hb0 hI (fun hlt a'' hI' => ?_) (fun hge a'' w'' hI' => ⟨k' - 1, by omega, k + 1, by omega, hI'⟩)
   have hk2 : k = T.length / 64 := by have := hI.le; omega
   rw [hk2] at hI'
   exact hQ a'' w' hI') (T.length / 64) a0 (w1.setCell ⟨b, 8, none⟩ (.slice va nn vc)) ⟨0, by omega, hF0, ⟨_, hS1'.out.set8 _, by
    show BytesAt _ base 5 _ (T.drop 0)
    rw [List.drop_zero, hT]
    exact hB1'.out.kept fun g hg => heap_setCell_other _ _ _ _ (hgb g hg)⟩, by omega, hbutF⟩
 refine hkey _ rfl _ _ ⟨rfl, rfl, fun p hp => ?_⟩ fun a' w' hI => ?_
 ·
  simp only [List.mem_cons, List.not_mem_nil, or_false] at hp
  subst hp; rfl
 ·
  obtain ⟨hF, ⟨held', hS2, hB2⟩, _, hbut2⟩ := hI
  exact ⟨hF.2.1, noResult, by simp [results, noResult], rfl, held', hS2, hB2, hbut2⟩
end Go.Proofs
namespace Go.Proofs
open Go.Ev Go.RowKit
noncomputable def L44 : List Code := codes (Tryz.f109.body.getD .skip)
noncomputable def L44a : List Code := codes (loopB (itemN L44 9))
noncomputable def L44b : List Code := codes (blockB (itemN L44a 2))
theorem ok44b : allCode 75 L44b = true := by kernel_rfl
def insS (n : Nat) : List (Nat × Value) := [(3, heldW n), (5, .pointer (some ⟨0, 0, none⟩))]
def rowsS (_n : Nat) : List Row := [(words8, 122, .rw), (bytes64, 5, .still)]
noncomputable def cellsOut2 (b : Nat) (r : CRes) : Option (Value × Value × List Value × TypeId × Acc) :=
 bnd r fun r => chk (isNormal r.1) (bnd (r.2.2.get b) fun x => bnd (cellsOf x) fun c => some (slot r.2.1 3, slot r.2.1 5, c))
set_option maxRecDepth 100000 in
theorem runS (n : Nat) (j : Nat -> Value) : cellsOut2 0 (evL (envOfS (shaSyms {}) []) (evF (envOfS (shaSyms {}) []) 100000 20) 100000 ((L44b.drop 0).take 1) (tmOf j (insS n)) (heapRows (rowsS n))) = some (heldW n, .pointer (some ⟨0, 0, none⟩), sums8, 122, .rw) := by kernel_rfl
theorem cellsOut2_ok {b : Nat} {r : CRes} {c : Value × Value × List Value × TypeId × Acc} (h : cellsOut2 b r = some c) :
  ∃ tm H, r = some (.normal, tm, H) /\ (slot tm 3 = c.1 /\ slot tm 5 = c.2.1) /\ H.get b = some (.cells c.2.2.1 c.2.2.2.1 c.2.2.2.2) := by
 unfold cellsOut2 at h
 simp only [bnd_eq, chk_eq, Option.some.injEq] at h
 obtain ⟨⟨e, tm, H⟩, hr, hc, x, hx, cl, hcl, rfl⟩ := h
 have he : e = .normal := by cases e <;> first | rfl | (cases hc; done)
 subst he
 refine ⟨tm, H, hr, ⟨rfl, rfl⟩, ?_⟩
 cases x with
 | cells cs el ro => cases hcl; exact hx
 | _ => cases hcl
theorem info83 : (Tryz.prog.info? 122).map (fun i => i.size) = some 8 := by kernel_rfl
def WoAt (w : World) (b : Nat) (hw : Nat -> Nat) : Prop := ∃ fr : Nat × Nat, w.heap[b]? = some (.cells ⟨wordsC hw⟩ 122 fr) /\ ∀ j, j < 8 -> ¬ (fr.1 <= j /\ j < fr.2)
section
variable {Q : Exit -> Act -> World -> Prop} {a : Act} {w : World}
theorem stepS {hw : Nat -> Nat} (h8 : ∀ k, k < 8 -> hw k < W32) {l : List UInt8} (hl : 64 <= l.length) {b base : Nat} {p : Value} (hS : WoAt w b hw) (hB : BytesAt w base 5 p l) (hne : p.ownBlock ≠ some b)
  (hF : Fr 75 a [(3, p), (5, .pointer (some ⟨b, 0, none⟩))])
  (hQ : ∀ a' w', Fr 75 a' [(3, p), (5, .pointer (some ⟨b, 0, none⟩))] -> WoAt w' b (stirL hw l) -> But b w w' -> wpL Tryz.prog (L44b.drop 1) Q a' w') : wpL Tryz.prog (L44b.drop 0) Q a w := by
 obtain ⟨fr, hb, hfr⟩ := hS
 rcases hB with ⟨_, rfl⟩ | ⟨g, off, cap, cur, rfl, hbg, hg, hnc, hcm, hcs, htake⟩
 ·
  simp at hl
 obtain ⟨hs, hd, hsl⟩ := hF
 have hcU : cap ≠ U := by unfold U; unfold maxLen at hcm; omega
 let ex : Nat -> Value := fun _ => .int .u64 (0 : Int)
 have hex : ∀ k, isIS (ex k) = true := fun _ => rfl
 let bs : Nat -> Nat := fun k => ((l.take 64).getD k 0).toNat
 have h64 : ∀ k, k < 64 -> bs k < 256 := fun k _ => UInt8.toNat_lt _
 letI : Sg := shaSg shaL hw bs ex hex
 have hsyms := shaSyms_ok (P := Tryz.prog) (X := {}) hex h8 h64 noTabs
 let ρ : Map := fun k => if k = 0 then some ⟨b, 0, 8, 8, 8⟩ else if k = 1 then some ⟨g, off, 64, cap, 1⟩ else none
 have hρ0 : ρ 0 = some ⟨b, 0, 8, 8, 8⟩ := rfl
 have hρ1 : ρ 1 = some ⟨g, off, 64, cap, 1⟩ := rfl
 have hρ : ∀ k e, ρ k = some e -> (k = 0 /\ e = ⟨b, 0, 8, 8, 8⟩) \/ (k = 1 /\ e = ⟨g, off, 64, cap, 1⟩) := fun k e h => by
  simp only [ρ] at h
  split at h
  ·
   rename_i h0; exact .inl ⟨h0, (Option.some.inj h).symm⟩
  ·
   split at h
   ·
    rename_i h0; exact .inr ⟨h0, (Option.some.inj h).symm⟩
   ·
    cases h
 have hgb : g ≠ b := fun e => hne (by rw [e]; rfl)
 have hVb : ∀ k, k < 64 -> Sg.val (8 + k) = .int .u8 (bs k : Int) := fun k hk => by
  show shaV shaL hw bs ex (8 + k) = _
  rw [shaV_byte (by omega) (by omega)]
  unfold sv
  rw [vals_lt _ _ _ (8 + k) (by omega)]
  unfold f0
  rw [if_neg (by omega), if_pos (by omega), Nat.add_sub_cancel_left]
 have hVw : ∀ k, k < 8 -> Sg.val k = .int .u32 (hw k : Int) := fun k hk => by
  show shaV shaL hw bs ex k = _
  rw [shaV_word ⟨.inl hk, by omega⟩]
  unfold sv
  rw [vals_lt _ _ _ k (by omega)]
  unfold f0
  rw [if_pos hk]
 have hwin : win cur ⟨g, off, 64, cap, 1⟩ = (List.range 64).map fun k => Value.int .u8 (bs k : Int) := by
  apply List.ext_getElem?
  intro i
  simp only [win, List.getElem?_map]
  by_cases hi : i < 64
  ·
   have h1 := congrArg (fun x => x[i]?) htake
   simp only [List.getElem?_take, List.getElem?_map] at h1
   rw [if_pos (by omega)] at h1
   rw [List.getElem?_take, if_pos hi, h1, List.getElem?_range hi]
   have hli : i < l.length := by omega
   have hb' : bs i = l[i].toNat := by
    show ((l.take 64).getD i 0).toNat = _
    rw [List.getD_eq_getElem?_getD, List.getElem?_take, if_pos hi, List.getElem?_eq_getElem hli]; rfl
   rw [List.getElem?_eq_getElem hli, Option.map_some, Option.map_some, hb']
  ·
   rw [List.getElem?_take, if_neg hi, List.getElem?_eq_none (by simpa using hi)]; rfl
 have hheld : V ρ (heldW l.length) (.slice (some ⟨g, off, none⟩) l.length cap) := by
  have := V.sliceU (ρ := ρ) (b := 1) (o := 0) (n := l.length) (c := cap) hρ1 hnc (by simp)
  simpa [heldW] using this
 have hget0 : (heapRows (rowsS l.length)).get 0 = some (.cells words8 122 .rw) := by rw [heapRows_get]; rfl
 have hget1 : (heapRows (rowsS l.length)).get 1 = some (.cells bytes64 5 .still) := by rw [heapRows_get]; rfl
 obtain ⟨i5, hi5, hs5⟩ := Option.map_eq_some_iff.1 info5
 obtain ⟨i9, hi9, hs9⟩ := Option.map_eq_some_iff.1 info83
 have hHR : HR Tryz.prog ρ (heapRows (rowsS l.length)) w := by
  refine ⟨fun k x e hx he => ?_, fun k1 k2 x1 x2 e1 e2 hx1 hx2 he1 he2 hw hB => ?_, fun k e he => ?_, by rw [heapRows_next]; show 2 <= 2 ^ 64; decide, fun k hk => ?_⟩
  ·
   rcases hρ k e he with ⟨rfl, rfl⟩ | ⟨rfl, rfl⟩
   ·
    rw [hget0] at hx
    cases hx
    rw [hb]
    have hwn : win ⟨wordsC hw⟩ ⟨b, 0, 8, 8, 8⟩ = wordsC hw := by rfl
    refine .cells hi9 hs9 (by rfl) (Nat.le_refl 8) (by rfl) (fun _ j hj => hfr j hj) ?_ ?_ (Nat.zero_mod 8)
    ·
     rw [hwn]
     rw [words8_eq]
     refine VL_map _ _ _ fun k hk => ?_
     rw [<- hVw k (by simpa using hk)]; exact .sym k
    ·
     rw [hwn]
     intro v hv
     obtain ⟨k, _, rfl⟩ := List.mem_map.1 hv; rfl
   ·
    rw [hget1] at hx
    cases hx
    rw [hg]
    refine .cells hi5 hs5 (by rfl) (by show 64 <= cap; omega) (hcs.2 (by omega)) (fun h => by cases h) ?_ ?_ (Nat.mod_one _)
    ·
     rw [hwin, bytes64_eq]
     refine VL_map _ _ _ fun k hk => ?_
     rw [<- hVb k (by simpa using hk)]; exact .sym (8 + k)
    ·
     rw [hwin]; intro v hv
     obtain ⟨k, _, rfl⟩ := List.mem_map.1 hv; rfl
  ·
   rcases hρ k1 e1 he1 with ⟨rfl, rfl⟩ | ⟨rfl, rfl⟩ <;> rcases hρ k2 e2 he2 with ⟨rfl, rfl⟩ | ⟨rfl, rfl⟩
   ·
    rfl
   ·
    exact absurd hB.symm hgb
   ·
    exact absurd hB hgb
   ·
    rfl
  ·
   rw [heapRows_next]
   rcases hρ k e he with ⟨rfl, _⟩ | ⟨rfl, _⟩
   ·
    show 0 < 2; decide
   ·
    show 1 < 2; decide
  ·
   rw [heapRows_next] at hk
   rw [heapRows_get]
   have hk' : (rowsS l.length).length <= k := hk
   rw [List.getElem?_eq_none hk']
 have hWr : ∀ B, Wr ρ (heapRows (rowsS l.length)) B -> B = b := fun B ⟨k, x, e, hx, he, hB, hw⟩ => by
  rcases hρ k e he with ⟨rfl, rfl⟩ | ⟨rfl, rfl⟩
  ·
   exact hB.symm
  ·
   rw [hget1] at hx; cases hx; cases hw
 obtain ⟨tm, H, hr, hout, hcell⟩ := cellsOut2_ok (runS l.length fun t => absJ (a.tmps.getD t undef))
 have e : L44b.drop 0 = (L44b.drop 0).take 1 ++ L44b.drop 1 := by rw [List.drop_zero, List.take_append_drop]
 rw [e]
 refine evL_ok (eShaS hsyms) mixed fS sS hr (fun c hc => allCode_ok ok44b c (List.mem_of_mem_drop (List.mem_of_mem_take hc))) hs (TR.of (by omega) fun p hp => ?_) hHR fun ρ' a' w' hT hH hSt hsz hdf => ?_
 ·
  simp only [insS, List.mem_cons, List.not_mem_nil, or_false] at hp
  rcases hp with rfl | rfl
  ·
   rw [hsl _ List.mem_cons_self]; exact hheld
  ·
   rw [hsl _ (List.mem_cons_of_mem _ List.mem_cons_self)]
   exact V.ptr (o := 0) hρ0
 ·
  have hle := hSt.le
  have e0 := hle 0 _ hρ0
  have e1 := hle 1 _ hρ1
  refine hQ a' w' ⟨hsz.trans hs, hdf.trans hd, fun p hp => ?_⟩ ?_ ⟨hSt.os, hSt.tape, hSt.output, hSt.size, fun k hk hne => hSt.keep k hk fun hw => hne (hWr k hw)⟩
  ·
   simp only [List.mem_cons, List.not_mem_nil, or_false] at hp
   rcases hp with rfl | rfl
   ·
    have := hT 3
    rw [show slot tm 3 = heldW l.length from hout.1] at this
    show a'.tmps.getD 3 undef = _
    generalize a'.tmps.getD 3 undef = x at this
    generalize hn : l.length = n at this hl ⊢
    cases this with
    | slice _ _ hc => exact absurd rfl hc
    | sliceU h hn hc => rw [e1] at h; cases h; simp at hc; subst hc; rfl
    | empty => omega
   ·
    have := hT 5
    rw [show slot tm 5 = .pointer (some ⟨0, 0, none⟩) from hout.2] at this
    show a'.tmps.getD 5 undef = _
    generalize a'.tmps.getD 5 undef = x at this
    cases this with
    | ptr h => rw [e0] at h; cases h; rfl
  ·
   have hbr := hH.blk 0 _ _ hcell e0
   dsimp only at hbr
   generalize hO : w'.heap[b]? = O at hbr
   cases hbr with
   | cells hi hk hlen hro hC hf hv h1 hbk =>
    rename_i C fr' i
    refine ⟨fr', ?_, fun j hj => hf rfl j (by rw [hC]; exact hj)⟩
    rw [hO]
    have hCw : win C ⟨b, 0, 8, 8, 8⟩ = C.toList := by
     show (C.toList.drop 0).take 8 = _
     rw [List.drop_zero, List.take_of_length_le]
     rw [Array.length_toList, hC]; exact Nat.le_refl 8
    rw [hCw] at hv
    have hCl : C.toList = wordsC (stirL hw l) := by
     have hv' : VL ρ' sums8 C.toList := hv
     rw [dens_inv (by rw [sums8_eq]; intro v hv; obtain ⟨k, _, rfl⟩ := List.mem_map.1 hv; rfl) hv']
     rfl
    have : C = ⟨C.toList⟩ := by cases C; rfl
    rw [this, hCl]
end
end Go.Proofs
