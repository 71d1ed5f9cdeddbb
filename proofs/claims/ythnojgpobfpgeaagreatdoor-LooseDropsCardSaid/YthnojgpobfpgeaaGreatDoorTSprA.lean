/- repeat: bytes of a text once more behind it. -/
import Derived.Test.YthnojgpobfpgeaaGreatDoorTTak
import Derived.Test.YthnojgpobfpgeaaGreatDoorTMid
namespace Go.Proofs
open Go.RowKit Go.Ev Go.Lib
attribute [local go_sem] Oper.semAt_some
theorem repS_succ (b : Nat) : ∀ (m : Nat) (l : List UInt8), repS b (m + 1) l = repS b m l ++ [(repS b m l).getD ((repS b m l).length - b) 0]
 | 0, _ => rfl
 | m + 1, l => repS_succ b m (l ++ [l.getD (l.length - b) 0])
theorem repS_len (b : Nat) : ∀ (m : Nat) (l : List UInt8), (repS b m l).length = l.length + m
 | 0, l => rfl
 | m + 1, l => by
  show (repS b m (l ++ [l.getD (l.length - b) 0])).length = _
  rw [repS_len b m, List.length_append]
  simp
  omega
theorem bytesF_at {W : World} {base : Nat} {v : Value} {l : List UInt8} (h : BytesF W base 5 v l) {i : Nat} (hi : i < l.length) :
  ∃ g off cap, v = .slice (some ⟨g, off, none⟩) l.length cap /\ base <= g /\ g < W.heap.size /\ W.cell? ⟨g, off + i, none⟩ = some (.int .u8 (l.getD i 0).toNat) := by
 rcases h with ⟨rfl, rfl⟩ | ⟨g, off, cap, cur, rfl, hbg, ⟨fr, hfr, hg⟩, hnc, hcm, hcs, htake⟩
 ·
  exact absurd hi (Nat.not_lt_zero _)
 ·
  refine ⟨g, off, cap, rfl, hbg, (Array.getElem?_eq_some_iff.1 hg).1, ?_⟩
  rw [cell_of_row W g (off + i) cur 5 fr hg]
  have h2 : ((cur.toList.drop off).take l.length)[i]? = (l.map fun b => Value.int .u8 b.toNat)[i]? := by rw [htake]
  rw [List.getElem?_take_of_lt hi, List.getElem?_drop, List.getElem?_map, List.getElem?_eq_getElem hi] at h2
  rw [List.getD_eq_getElem?_getD, List.getElem?_eq_getElem hi]
  simpa using h2
theorem src_one (W : World) (c : UInt8) : Src Tryz.prog 1 71 (.slice (some ⟨W.heap.size, 0, none⟩) 1 1) [c].length (bcells [c]) (W.alloc (.cells #[.int .u8 c.toNat] 5)) := by
 refine Src.ofSlice _ Tryz.underlying71 _ _ _ _ rfl (fun j u hj => ?_) (bcells_one _)
 match j, hj with
 | 0, hj =>
  have : u = .int .u8 c.toNat := by simpa [bcells] using hj.symm
  subst this
  rw [show (⟨W.heap.size, 0, none⟩ : Addr).add 0 = ⟨W.heap.size, 0, none⟩ by rfl]
  rw [Lib.cell_of_heap (heap_alloc_new W _)]
  rfl
 | j + 1, hj => simp [bcells] at hj
def RepP (W : World) (base : Nat) (l : List UInt8) (r : Ending) (w' : World) : Prop := ∃ v', r = .returned (.tuple #[v', .bool true]) /\ BytesF w' base 5 v' l /\ Below base W w'
set_option maxHeartbeats 4000000 in
set_option maxRecDepth 1000000 in
theorem repeat_yes {W : World} {base : Nat} {v : Value} {l : List UInt8} {back n : Nat} (hB : BytesF W base 5 v l) (_hb : base <= W.heap.size) (h1 : 1 <= back) (h2 : back <= l.length) (h3 : back <= 32768) (hl : l.length + n <= 1099511627776) :
  Calls Tryz.prog 78 #[v, .int .i64 (back : Int), .int .i64 (n : Int)] W (RepP W base (repS back n l)) := by
 obtain ⟨i0, hi, hz0, hz1, hz2⟩ := info_parts info71
 obtain ⟨a, cap, hv, hcap⟩ := hB.len
 have h1' : ¬ (back : Int) < 1 := by omega
 have h2' : ¬ (l.length : Int) < (back : Int) := by omega
 have h3' : ¬ (32768 : Int) < (back : Int) := by omega
 have hB' := Lib.hid hB
 clear hB
 subst hv
 go_enter Tryz.func78, Tryz.ntmps78
 go_wp2
 go_loopw [0, 22] (fun vo vi wr => ∃ i : Nat, i <= n /\ vi = .int .i64 i /\ BytesF wr base 5 vo (repS back i l) /\ Below base W wr) (fun _ v _ => n - (valOf v).toNat)
 case atStart => exact ⟨0, Nat.zero_le _, rfl, hB'.out, Below.refl _ _⟩
 case round =>
  obtain ⟨i, hin, rfl, hBi, hbel⟩ := hrel
  have hln := repS_len back i l
  obtain ⟨a2, cap2, hv2, hcap2⟩ := hBi.len
  by_cases hlt : i < n
  ·
   have hlt' : (i : Int) < (n : Int) := by omega
   obtain ⟨L, hL⟩ : ∃ L, L = repS back i l := ⟨_, rfl⟩
   rw [<- hL] at hBi hln hv2
   obtain ⟨g, off, cap3, rfl, hg1, hg2, hc⟩ := bytesF_at hBi (i := L.length - back) (by omega)
   obtain ⟨q, hq⟩ : ∃ q, q = L.length - back := ⟨_, rfl⟩
   rw [<- hq] at hc
   generalize hcc : L.getD q 0 = c at hc
   have e1 : (L.length : Int) - (back : Int) = (q : Int) := by omega
   have e2 : IntKind.i64.wrap (q : Int) = (q : Int) := wrapI64 _ (by omega)
   have e3 : (0 : Int) <= (q : Int) := by omega
   have e4 : (q : Int) < (L.length : Int) := by omega
   have hsrc := Lib.hid (src_one wr c)
   have hsz := Lib.hid (Below.size hbel)
   have hbase : base <= wr.heap.size := by omega
   have hBa := Lib.hid (hBi.kept (w' := wr.alloc (.cells #[.int .u8 c.toNat] 5)) fun k hk => heap_alloc_old _ _ (hBi.lt k hk).2)
   have hrow := Lib.hid (fun k hk => (hBi.lt k hk).1)
   have hnext : Hid (L ++ [c] = repS back (i + 1) l) := Lib.hid (by rw [repS_succ, <- hL, <- hcc, hq])
   have hlb : Hid (L.length + [c].length <= 140737488355328) := Lib.hid (Nat.le_trans (Nat.add_le_add_right (Nat.le_of_eq hln) 1) (Nat.le_trans (show l.length + i + 1 <= 1099511627776 from Nat.le_trans (show l.length + i + 1 <= l.length + n from Nat.add_le_add_left hlt _) hl) (by decide)))
   have hbelH := Lib.hid hbel
   clear hL hBi hbel hcc hv2 hq hln
   go_wp2_with (at_builtin; refine wpList_append_srcF _ rfl (.tmp 24) (.tmp 32) 71 71 rfl base 5 i0 Tryz.underlying71 hi hz0 hz1 hz2 (.slice (some ⟨g, off, none⟩) L.length cap3) L rfl hBa.out [c] hsrc.out hlb.out (Nat.le_trans hbase (by simp)) ?_; intro v' w1 hB1 hg3 hn1; have hB1' := Lib.hid hB1; have hg3' := Lib.hid hg3; clear hB1 hg3 hn1)
   clear e2
   refine ⟨⟨i + 1, hlt, by push_cast; rfl, ?_, ?_⟩, ?_⟩
   ·
    rw [<- hnext.out]; exact hB1'.out
   ·
    exact (hbelH.out.alloc hbase _).grown hg3'.out (Nat.le_trans hbase (by simp)) hrow.out
   ·
    simp [valOf]; omega
  ·
   have hlt' : ¬ (i : Int) < (n : Int) := by omega
   obtain rfl : i = n := by omega
   rw [hv2] at hBi
   have hBi' := Lib.hid hBi
   clear hBi
   go_wp2
   go_ret2
   refine ⟨_, rfl, ?_, hbel⟩
   have h9 := hBi'.out
   rw [hln] at h9
   exact h9
set_option maxHeartbeats 4000000 in
set_option maxRecDepth 1000000 in
theorem repeat_no {W : World} {base : Nat} {v : Value} {l : List UInt8} {back n : Nat} (hB : BytesF W base 5 v l) (h : ¬ (1 <= back /\ back <= l.length)) :
  Calls Tryz.prog 78 #[v, .int .i64 (back : Int), .int .i64 (n : Int)] W fun r w' => r = .returned (.tuple #[v, .bool false]) /\ w' = W := by
 obtain ⟨a, cap, hv, hcap⟩ := hB.len
 clear hB
 subst hv
 by_cases h1 : back < 1
 ·
  have h1' : (back : Int) < 1 := by omega
  go_enter Tryz.func78, Tryz.ntmps78
  go_wp2
  go_ret2
  exact ⟨rfl, rfl⟩
 ·
  have h1' : ¬ (back : Int) < 1 := by omega
  have h2' : (l.length : Int) < (back : Int) := by omega
  go_enter Tryz.func78, Tryz.ntmps78
  go_wp2
  go_ret2
  exact ⟨rfl, rfl⟩
end Go.Proofs
namespace Go.Proofs
open Go.RowKit Go.Ev Go.Lib
attribute [local go_sem] Oper.semAt_some
noncomputable def L38 : List Code := codes (Tryz.f38.body.getD .skip)
noncomputable def L38a : List Code := codes (loopB (itemN L38 5))
noncomputable def L38b : List Code := codes (blockB (itemN L38a 2))
theorem id38 : loopId (itemN L38 5) = some 1 := by kernel_rfl
theorem blk38 : itemN L38a 2 = .block 2 (blockB (itemN L38a 2)) := by rfl
set_option maxRecDepth 100000 in
theorem lit123 {a : Act} (hs : a.tmps.size = 123) (hd : a.defers = []) : ∃ f : Nat -> Value, a = ⟨#[f 0, f 1, f 2, f 3, f 4, f 5, f 6, f 7, f 8, f 9, f 10, f 11, f 12, f 13, f 14, f 15, f 16, f 17, f 18, f 19, f 20, f 21, f 22, f 23, f 24, f 25, f 26, f 27, f 28, f 29, f 30, f 31, f 32, f 33, f 34, f 35, f 36, f 37, f 38, f 39, f 40, f 41, f 42, f 43, f 44, f 45, f 46, f 47, f 48, f 49, f 50, f 51, f 52, f 53, f 54, f 55, f 56, f 57, f 58, f 59, f 60, f 61, f 62, f 63, f 64, f 65, f 66, f 67, f 68, f 69, f 70, f 71, f 72, f 73, f 74, f 75, f 76, f 77, f 78, f 79, f 80, f 81, f 82, f 83, f 84, f 85, f 86, f 87, f 88, f 89, f 90, f 91, f 92, f 93, f 94, f 95, f 96, f 97, f 98, f 99, f 100, f 101, f 102, f 103, f 104, f 105, f 106, f 107, f 108, f 109, f 110, f 111, f 112, f 113, f 114, f 115, f 116, f 117, f 118, f 119, f 120, f 121, f 122], []⟩ := by
 obtain ⟨⟨l⟩, d⟩ := a
 subst hd
 have e := list_range undef l 123 hs
 exact ⟨fun i => l.getD i undef, congrArg (fun l => (⟨⟨l⟩, []⟩ : Act)) e⟩
theorem fr678 {A : Act} {p q v : Value} (h : Fr 123 A [(6, p), (7, q), (8, v)]) : ∃ f : Nat -> Value, A = ⟨#[f 0, f 1, f 2, f 3, f 4, f 5, p, q, v, f 9, f 10, f 11, f 12, f 13, f 14, f 15, f 16, f 17, f 18, f 19, f 20, f 21, f 22, f 23, f 24, f 25, f 26, f 27, f 28, f 29, f 30, f 31, f 32, f 33, f 34, f 35, f 36, f 37, f 38, f 39, f 40, f 41, f 42, f 43, f 44, f 45, f 46, f 47, f 48, f 49, f 50, f 51, f 52, f 53, f 54, f 55, f 56, f 57, f 58, f 59, f 60, f 61, f 62, f 63, f 64, f 65, f 66, f 67, f 68, f 69, f 70, f 71, f 72, f 73, f 74, f 75, f 76, f 77, f 78, f 79, f 80, f 81, f 82, f 83, f 84, f 85, f 86, f 87, f 88, f 89, f 90, f 91, f 92, f 93, f 94, f 95, f 96, f 97, f 98, f 99, f 100, f 101, f 102, f 103, f 104, f 105, f 106, f 107, f 108, f 109, f 110, f 111, f 112, f 113, f 114, f 115, f 116, f 117, f 118, f 119, f 120, f 121, f 122], []⟩ := by
 obtain ⟨hsz, hd, hsl⟩ := h
 have h6 := hsl (6, p) (by simp)
 have h7 := hsl (7, q) (by simp)
 have h8 := hsl (8, v) (by simp)
 clear hsl
 obtain ⟨f, rfl⟩ := lit123 hsz hd
 replace h6 : f 6 = p := h6
 replace h7 : f 7 = q := h7
 replace h8 : f 8 = v := h8
 exact ⟨f, by rw [h6, h7, h8]⟩
abbrev ptr (b : Nat) : Value := .pointer (some ⟨b, 0, none⟩)
structure SpS (n tb base : Nat) (w0 : World) (T : ByteArray) (e : Int) (out : List UInt8) (A : Act) (W : World) : Prop where
 st : ∃ v, Fr 123 A [(6, ptr tb), (7, .int .i64 (n : Int)), (8, v)] /\ BytesF W base 5 v out
 tak : TakAt W tb T e
 but : Below w0.heap.size w0 W
 le : base <= W.heap.size
 sz : T.size <= 1000000
 len : out.length <= n
structure SpC (n tb base : Nat) (w0 : World) : Prop where
 lt : tb < base
 ge : w0.heap.size <= tb
 n : n <= 1048576
def R9 (T : ByteArray) (d : Nat) (X T2 : ByteArray) (e2 : Int) : Prop :=
 (e2 = 0 /\ ∃ c t1, takS T.data.toList d = some (c, t1) /\ c <= t1.length /\ X.data.toList = t1.take c /\ T2.data.toList = t1.drop c) \/
 (e2 ≠ 0 /\ X = ⟨#[]⟩ /\ ((takS T.data.toList d = none /\ e2 = numE T.data.toList) \/ ∃ c t1, takS T.data.toList d = some (c, t1) /\ t1.length < c /\ e2 = 4))
theorem takS_le {l : List UInt8} {most v : Nat} {t : List UInt8} (h : takS l most = some (v, t)) : v <= most := by
 unfold takS at h
 split at h
 ·
  split at h
  ·
   cases h; assumption
  ·
   cases h
 ·
  cases h
theorem r9_of {T S1 T2 X : ByteArray} {d c : Nat} {e1 e2 : Int} (h1 : NumR T 0 d c S1 e1) (h2 : BytR S1 e1 c X T2 e2) : R9 T d X T2 e2 /\ X.size <= d /\ T2.size <= T.size := by
 obtain ⟨a1, a2, a3⟩ := h1
 obtain ⟨b1, b2, b3, b4⟩ := h2
 have hS : S1.size = S1.data.toList.length := by simp
 rcases a3 rfl with ⟨rfl, ht⟩ | ⟨hne, rfl, ht⟩
 ·
  have := takS_le ht
  rcases b4 rfl with ⟨rfl, g1, g2, g3⟩ | ⟨g1, g2, rfl⟩
  ·
   exact ⟨.inl ⟨rfl, _, _, ht, by omega, g2, g3⟩, by omega, by omega⟩
  ·
   exact ⟨.inr ⟨by omega, rfl, .inr ⟨_, _, ht, by omega, g1⟩⟩, Nat.zero_le _, by omega⟩
 ·
  have hne' : e1 ≠ 0 := hne ▸ numE_ne _
  obtain ⟨rfl, rfl, rfl⟩ := b3 hne'
  exact ⟨.inr ⟨hne', rfl, .inl ⟨ht, hne⟩⟩, Nat.zero_le _, by omega⟩
theorem but_below {B tb : Nat} {w0 W W' : World} (h : Below B w0 W) (k : ButB W.heap.size tb W W') (hB : B <= tb) (hle : B <= W.heap.size) : Below B w0 W' :=
 ⟨k.os.trans h.os, k.tape.trans h.tape, k.output.trans h.output, Nat.le_trans h.size k.size, fun i hi => (k.block i (by omega) (by omega)).trans (h.block i hi)⟩
theorem num_le' {T S1 : ByteArray} {d c : Nat} {e1 : Int} (h1 : NumR T 0 d c S1 e1) : c <= d := by
 obtain ⟨a1, a2, a3⟩ := h1
 rcases a3 rfl with ⟨rfl, ht⟩ | ⟨hne, rfl, ht⟩
 ·
  exact takS_le ht
 ·
  exact Nat.zero_le _
theorem but_join {tb : Nat} {u v w : World} (h : ButB u.heap.size tb u v) (k : ButB v.heap.size tb v w) : ButB u.heap.size tb u w :=
 ⟨k.os.trans h.os, k.tape.trans h.tape, k.output.trans h.output, Nat.le_trans h.size k.size, fun i h1 h2 => (k.block i (Nat.lt_of_lt_of_le h1 h.size) h2).trans (h.block i h1 h2)⟩
theorem bytes_but {W w : World} {tb base : Nat} {v : Value} {l : List UInt8} (hB : BytesF W base 5 v l) (h : ButB W.heap.size tb W w) (ht : tb < base) : BytesF w base 5 v l :=
 hB.kept fun g hg => h.block g (hB.lt g hg).2 (by have := (hB.lt g hg).1; omega)
theorem tak_grown {w w' : World} {tb base : Nat} {T : ByteArray} {e : Int} {row : Option Nat} (h : TakAt w tb T e) (g : w.grownBy w' row) (hr : ∀ k, row = some k -> base <= k) (ht : tb < base) : TakAt w' tb T e :=
 (g.block tb (Array.getElem?_eq_some_iff.1 h).1 (fun e => by have := hr tb e.symm; omega)).trans h
set_option maxHeartbeats 4000000 in
set_option maxRecDepth 1000000 in
theorem reg9 {n tb base : Nat} {w0 : World} {T : ByteArray} {out : List UInt8} {A : Act} {W : World} (hC : SpC n tb base w0) (hI : SpS n tb base w0 T 0 out A W) {Q : Exit -> Act -> World -> Prop}
  (hQ : ∀ A' W' T2 e2 X, SpS n tb base w0 T2 e2 (out ++ X.data.toList) A' W' -> R9 T (n - out.length) X T2 e2 -> Q .normal A' W') : wpL Tryz.prog [itemN L38b 0] Q A W := by
 obtain ⟨i0, hi, hz0, hz1, hz2⟩ := info_parts info71
 obtain ⟨⟨v, hF, hB⟩, hT, hbut, hle, hsz, hlen⟩ := hI
 obtain ⟨f, rfl⟩ := fr678 hF
 obtain ⟨a, cap, rfl, hcap⟩ := hB.len
 obtain ⟨z, hz⟩ : ∃ z, z = out.length := ⟨_, rfl⟩
 obtain ⟨d, hd⟩ : ∃ d, d = n - out.length := ⟨_, rfl⟩
 rw [<- hd] at hQ
 have hn := hC.n
 have hd1 : (n : Int) - (z : Int) = (d : Int) := by omega
 have hdm : d <= 1099511627776 := by omega
 have hdz : d + z = n := by omega
 have hzn : z <= 1048576 := by omega
 have hK := Lib.hid (And.intro hB (And.intro hT (And.intro hbut (And.intro hle (And.intro hsz hlen)))))
 have hQ' := Lib.hid hQ
 have hnum := Lib.hid (num_tak (most := d) hT (Nat.le_trans hsz (by decide)) hdm)
 have hCk := Lib.hid hC
 rw [<- hz] at hK ⊢
 have hz' := Lib.hid hz
 clear hF hB hT hbut hle hsz hlen hQ hd hcap hn hC hz
 have wd : IntKind.i64.wrap (d : Int) = (d : Int) := wrapI64 _ (by omega)
 refine wpL_lit (L' := [.region 9 _ false]) (by rfl) ?_
 simp only [wpL]
 go_wp2_with (first
  | (go_at_call 76; refine hnum.out.mono ?_; rintro r w1 ⟨c, S1, e1, rfl, hT1, hb1, hR1⟩; have hcd : c <= 1099511627776 := Nat.le_trans (num_le' hR1) hdm; have hbt := Lib.hid (bytes_tak (n := c) hT1 hcd); have hS1 := Lib.hid (And.intro hT1 (And.intro hb1 hR1)); clear hT1 hb1 hR1)
  | (go_at_call 77; refine hbt.out.mono ?_; rintro r w2 ⟨X, T2, e2, rfl, hT2, hb2, hR2⟩; have hBX : Hid (BytesF w2 base 5 (.slice a z cap) out) := Lib.hid (bytes_but hK.out.1 (but_join hS1.out.2.1 hb2) hCk.out.lt); have hlX : Hid (out.length + X.size <= 140737488355328) := Lib.hid (Nat.le_trans (Nat.add_le_add (Nat.le_trans (Nat.le_of_eq hz'.out.symm) hzn) (Nat.le_trans hR2.2.1 hcd)) (by decide)); have hbw : Hid (base <= w2.heap.size) := Lib.hid (Nat.le_trans hK.out.2.2.2.1 (Nat.le_trans hS1.out.2.1.size hb2.size)); have hS2 := Lib.hid (And.intro hT2 (And.intro hb2 hR2)); clear hT2 hb2 hR2)
  | (at_builtin; refine wpList_append_bytesF _ rfl (.tmp 42) (.tmp 50) 71 9 rfl base 5 i0 Tryz.underlying71 Tryz.underlying9 hi hz0 hz1 hz2 (.slice a z cap) out rfl hBX.out X rfl hlX.out hbw.out ?_; intro v' w3 hB3 hg3 hn3; have hS3 := Lib.hid (And.intro hB3 (And.intro hg3 hn3)); clear hB3 hg3 hn3))
 clear wd
 obtain ⟨hB, hT, hbut, hle, hsz, hlen⟩ := hK.out
 obtain ⟨hT1, hb1, hR1⟩ := hS1.out
 obtain ⟨hT2, hb2, hR2⟩ := hS2.out
 obtain ⟨hB3, hg3, hn3⟩ := hS3.out
 obtain ⟨hR, hX, hT2s⟩ := r9_of hR1 hR2
 have hrow : ∀ k, (Value.slice a z cap).ownBlock = some k -> base <= k := fun k hk => (hB.lt k hk).1
 have hC := hCk.out
 have hge := hC.ge
 have hlt := hC.lt
 have hbw' := hbw.out
 have hb12 := but_join hb1 hb2
 refine hQ'.out _ _ T2 e2 X ⟨⟨v', ⟨rfl, rfl, fun p hp => ?_⟩, hB3⟩, tak_grown hT2 hg3 hrow hlt, (but_below hbut hb12 hge hbut.size).grown hg3 (Nat.le_trans hbut.size hb12.size) (fun k hk => by have := hrow k hk; omega), Nat.le_trans hbw' hg3.size, Nat.le_trans hT2s hsz, ?_⟩ hR
 ·
  simp only [List.mem_cons, List.not_mem_nil, or_false] at hp
  rcases hp with rfl | rfl | rfl <;> rfl
 ·
  have hXl : X.data.toList.length = X.size := by simp
  have hzz := hz'.out
  rw [List.length_append, hXl]
  omega
end Go.Proofs
namespace Go.Proofs
open Go.RowKit Go.Ev Go.Lib
attribute [local go_sem] Oper.semAt_some
theorem fr6a {A : Act} {p q v k m : Value} (h : Fr 123 A [(6, p), (7, q), (8, v), (9, k), (10, m)]) : ∃ f : Nat -> Value, A = ⟨#[f 0, f 1, f 2, f 3, f 4, f 5, p, q, v, k, m, f 11, f 12, f 13, f 14, f 15, f 16, f 17, f 18, f 19, f 20, f 21, f 22, f 23, f 24, f 25, f 26, f 27, f 28, f 29, f 30, f 31, f 32, f 33, f 34, f 35, f 36, f 37, f 38, f 39, f 40, f 41, f 42, f 43, f 44, f 45, f 46, f 47, f 48, f 49, f 50, f 51, f 52, f 53, f 54, f 55, f 56, f 57, f 58, f 59, f 60, f 61, f 62, f 63, f 64, f 65, f 66, f 67, f 68, f 69, f 70, f 71, f 72, f 73, f 74, f 75, f 76, f 77, f 78, f 79, f 80, f 81, f 82, f 83, f 84, f 85, f 86, f 87, f 88, f 89, f 90, f 91, f 92, f 93, f 94, f 95, f 96, f 97, f 98, f 99, f 100, f 101, f 102, f 103, f 104, f 105, f 106, f 107, f 108, f 109, f 110, f 111, f 112, f 113, f 114, f 115, f 116, f 117, f 118, f 119, f 120, f 121, f 122], []⟩ := by
 obtain ⟨hsz, hd, hsl⟩ := h
 have h6 := hsl (6, p) (by simp)
 have h7 := hsl (7, q) (by simp)
 have h8 := hsl (8, v) (by simp)
 have h9 := hsl (9, k) (by simp)
 have h10 := hsl (10, m) (by simp)
 clear hsl
 obtain ⟨f, rfl⟩ := lit123 hsz hd
 replace h6 : f 6 = p := h6
 replace h7 : f 7 = q := h7
 replace h8 : f 8 = v := h8
 replace h9 : f 9 = k := h9
 replace h10 : f 10 = m := h10
 exact ⟨f, by rw [h6, h7, h8, h9, h10]⟩
theorem num_le2 {T S1 : ByteArray} {d c : Nat} {e e1 : Int} (h1 : NumR T e d c S1 e1) : c <= d := by
 by_cases he : e = 0
 ·
  subst he; exact num_le' h1
 ·
  rw [(h1.2.1 he).1]; exact Nat.zero_le _
structure SpM (n tb base : Nat) (w0 : World) (T : ByteArray) (e : Int) (out : List UInt8) (k m : Nat) (A : Act) (W : World) : Prop where
 st : ∃ v, Fr 123 A [(6, ptr tb), (7, .int .i64 (n : Int)), (8, v), (9, .int .i64 (k : Int)), (10, .int .i64 ((m + 4 : Nat) : Int))] /\ BytesF W base 5 v out
 tak : TakAt W tb T e
 but : Below w0.heap.size w0 W
 le : base <= W.heap.size
 sz : T.size <= 1000000
 len : out.length <= n
set_option maxHeartbeats 4000000 in
set_option maxRecDepth 1000000 in
theorem reg11 {n tb base : Nat} {w0 : World} {T : ByteArray} {out : List UInt8} {A : Act} {W : World} (hC : SpC n tb base w0) (hI : SpS n tb base w0 T 0 out A W) {Q : Exit -> Act -> World -> Prop}
  (hQ : ∀ A' W' S3 T4 e3 e4 k m, SpM n tb base w0 T4 e4 out k m A' W' -> NumR T 0 32768 k S3 e3 -> NumR S3 e3 (n - out.length) m T4 e4 -> Q .normal A' W') : wpL Tryz.prog [itemN L38b 3, itemN L38b 4] Q A W := by
 obtain ⟨⟨v, hF, hB⟩, hT, hbut, hle, hsz, hlen⟩ := hI
 obtain ⟨f, rfl⟩ := fr678 hF
 obtain ⟨a, cap, rfl, hcap⟩ := hB.len
 obtain ⟨z, hz⟩ : ∃ z, z = out.length := ⟨_, rfl⟩
 obtain ⟨d, hd⟩ : ∃ d, d = n - out.length := ⟨_, rfl⟩
 rw [<- hd] at hQ
 have hn := hC.n
 have hd1 : (n : Int) - (z : Int) = (d : Int) := by omega
 have hdm : d <= 1099511627776 := by omega
 have hdz : d + z = n := by omega
 have hdn : d <= 1048576 := by omega
 have hzn : z <= 1048576 := by omega
 have hK := Lib.hid (And.intro hB (And.intro hT (And.intro hbut (And.intro hle (And.intro hsz hlen)))))
 have hQ' := Lib.hid hQ
 have hnum := Lib.hid (num_tak (most := 32768) hT (Nat.le_trans hsz (by decide)) (by decide))
 have hCk := Lib.hid hC
 rw [<- hz] at hK ⊢
 have hz' := Lib.hid hz
 clear hF hB hT hbut hle hsz hlen hQ hd hcap hn hC hz
 have wd : IntKind.i64.wrap (d : Int) = (d : Int) := wrapI64 _ (by omega)
 refine wpL_lit (L' := [.region 11 _ false, .region 12 _ false]) (by rfl) ?_
 simp only [wpL]
 go_wp2_with (first
  | (go_at_call_of 76 (d : Int); refine hnum2.out.mono ?_; rintro r w2 ⟨m, T4, e4, rfl, hT4, hb2, hR2⟩; have hm := num_le2 hR2; have m1 : IntKind.i64.wrap ((m : Int) + 4) = ((m + 4 : Nat) : Int) := (by rw [show (m : Int) + 4 = ((m + 4 : Nat) : Int) by push_cast; rfl]; exact wrapI64 _ (Nat.lt_of_le_of_lt (Nat.add_le_add_right (Nat.le_trans hm hdn) 4) (by decide))); have hS2 := Lib.hid (And.intro hT4 (And.intro hb2 hR2)); clear hT4 hb2 hR2)
  | (go_at_call 76; refine hnum.out.mono ?_; rintro r w1 ⟨k, S3, e3, rfl, hT1, hb1, hR1⟩; have hnum2 := Lib.hid (num_tak (most := d) hT1 (Nat.le_trans (Nat.le_trans hR1.1 hK.out.2.2.2.2.1) (by decide)) hdm); have hS1 := Lib.hid (And.intro hT1 (And.intro hb1 hR1)); clear hT1 hb1 hR1))
 clear wd
 obtain ⟨hB, hT, hbut, hle, hsz, hlen⟩ := hK.out
 obtain ⟨hT1, hb1, hR1⟩ := hS1.out
 obtain ⟨hT2, hb2, hR2⟩ := hS2.out
 have hC := hCk.out
 have hge := hC.ge
 have hlt := hC.lt
 have hb12 := but_join hb1 hb2
 refine hQ'.out _ _ S3 T4 e3 e4 k m ⟨⟨_, ⟨rfl, rfl, fun p hp => ?_⟩, bytes_but hB hb12 hlt⟩, hT2, but_below hbut hb12 hge hbut.size, Nat.le_trans hle hb12.size, Nat.le_trans (Nat.le_trans hR2.1 hR1.1) hsz, hz'.out ▸ hlen⟩ hR1 hR2
 simp only [List.mem_cons, List.not_mem_nil, or_false] at hp
 rcases hp with rfl | rfl | rfl | rfl | rfl <;> first | rfl | simp
end Go.Proofs
