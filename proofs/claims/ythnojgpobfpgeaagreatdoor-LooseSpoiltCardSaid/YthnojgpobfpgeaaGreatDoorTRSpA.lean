/- pollardref04.Spread: its loop's parts. -/
import Derived.Test.YthnojgpobfpgeaaGreatDoorTRNum
/-! pollardref04.Spread: its loop's parts. -/
namespace Go.Proofs
open Go.RowKit Go.Ev Go.Lib
attribute [local go_sem] Oper.semAt_some

noncomputable def L13 : List Code := codes (Tryz.f13.body.getD .skip)
noncomputable def L13a : List Code := codes (loopB (itemN L13 7))
noncomputable def L13b : List Code := codes (blockB (itemN L13a 2))
theorem id13 : loopId (itemN L13 7) = some 0 := by kernel_rfl
theorem blk13 : itemN L13a 2 = .block 1 (blockB (itemN L13a 2)) := by rfl
theorem id13b : loopId (itemN L13b 18) = some 2 := by kernel_rfl
set_option maxRecDepth 100000 in
theorem lit122 {a : Act} (hs : a.tmps.size = 122) (hd : a.defers = []) : ∃ f : Nat → Value, a = ⟨#[f 0, f 1, f 2, f 3, f 4, f 5, f 6, f 7, f 8, f 9, f 10, f 11, f 12, f 13, f 14, f 15, f 16, f 17, f 18, f 19, f 20, f 21, f 22, f 23, f 24, f 25, f 26, f 27, f 28, f 29, f 30, f 31, f 32, f 33, f 34, f 35, f 36, f 37, f 38, f 39, f 40, f 41, f 42, f 43, f 44, f 45, f 46, f 47, f 48, f 49, f 50, f 51, f 52, f 53, f 54, f 55, f 56, f 57, f 58, f 59, f 60, f 61, f 62, f 63, f 64, f 65, f 66, f 67, f 68, f 69, f 70, f 71, f 72, f 73, f 74, f 75, f 76, f 77, f 78, f 79, f 80, f 81, f 82, f 83, f 84, f 85, f 86, f 87, f 88, f 89, f 90, f 91, f 92, f 93, f 94, f 95, f 96, f 97, f 98, f 99, f 100, f 101, f 102, f 103, f 104, f 105, f 106, f 107, f 108, f 109, f 110, f 111, f 112, f 113, f 114, f 115, f 116, f 117, f 118, f 119, f 120, f 121], []⟩ := by
 obtain ⟨⟨l⟩, d⟩ := a
 subst hd
 have e := list_range undef l 122 hs
 exact ⟨fun i => l.getD i undef, congrArg (fun l => (⟨⟨l⟩, []⟩ : Act)) e⟩
theorem fr679 {A : Act} {x6 x7 x9 : Value} (h : Fr 122 A [(6, x6), (7, x7), (9, x9)]) : ∃ f : Nat → Value, A = ⟨#[f 0, f 1, f 2, f 3, f 4, f 5, x6, x7, f 8, x9, f 10, f 11, f 12, f 13, f 14, f 15, f 16, f 17, f 18, f 19, f 20, f 21, f 22, f 23, f 24, f 25, f 26, f 27, f 28, f 29, f 30, f 31, f 32, f 33, f 34, f 35, f 36, f 37, f 38, f 39, f 40, f 41, f 42, f 43, f 44, f 45, f 46, f 47, f 48, f 49, f 50, f 51, f 52, f 53, f 54, f 55, f 56, f 57, f 58, f 59, f 60, f 61, f 62, f 63, f 64, f 65, f 66, f 67, f 68, f 69, f 70, f 71, f 72, f 73, f 74, f 75, f 76, f 77, f 78, f 79, f 80, f 81, f 82, f 83, f 84, f 85, f 86, f 87, f 88, f 89, f 90, f 91, f 92, f 93, f 94, f 95, f 96, f 97, f 98, f 99, f 100, f 101, f 102, f 103, f 104, f 105, f 106, f 107, f 108, f 109, f 110, f 111, f 112, f 113, f 114, f 115, f 116, f 117, f 118, f 119, f 120, f 121], []⟩ := by
 obtain ⟨hsz, hd, hsl⟩ := h
 have h6 := hsl (6, x6) (by simp)
 have h7 := hsl (7, x7) (by simp)
 have h9 := hsl (9, x9) (by simp)
 clear hsl
 obtain ⟨f, rfl⟩ := lit122 hsz hd
 replace h6 : f 6 = x6 := h6
 replace h7 : f 7 = x7 := h7
 replace h9 : f 9 = x9 := h9
 exact ⟨f, by rw [h6, h7, h9]⟩
theorem fr5r {A : Act} {x6 x7 x9 x10 x11 : Value} (h : Fr 122 A [(6, x6), (7, x7), (9, x9), (10, x10), (11, x11)]) : ∃ f : Nat → Value, A = ⟨#[f 0, f 1, f 2, f 3, f 4, f 5, x6, x7, f 8, x9, x10, x11, f 12, f 13, f 14, f 15, f 16, f 17, f 18, f 19, f 20, f 21, f 22, f 23, f 24, f 25, f 26, f 27, f 28, f 29, f 30, f 31, f 32, f 33, f 34, f 35, f 36, f 37, f 38, f 39, f 40, f 41, f 42, f 43, f 44, f 45, f 46, f 47, f 48, f 49, f 50, f 51, f 52, f 53, f 54, f 55, f 56, f 57, f 58, f 59, f 60, f 61, f 62, f 63, f 64, f 65, f 66, f 67, f 68, f 69, f 70, f 71, f 72, f 73, f 74, f 75, f 76, f 77, f 78, f 79, f 80, f 81, f 82, f 83, f 84, f 85, f 86, f 87, f 88, f 89, f 90, f 91, f 92, f 93, f 94, f 95, f 96, f 97, f 98, f 99, f 100, f 101, f 102, f 103, f 104, f 105, f 106, f 107, f 108, f 109, f 110, f 111, f 112, f 113, f 114, f 115, f 116, f 117, f 118, f 119, f 120, f 121], []⟩ := by
 obtain ⟨hsz, hd, hsl⟩ := h
 have h6 := hsl (6, x6) (by simp)
 have h7 := hsl (7, x7) (by simp)
 have h9 := hsl (9, x9) (by simp)
 have h10 := hsl (10, x10) (by simp)
 have h11 := hsl (11, x11) (by simp)
 clear hsl
 obtain ⟨f, rfl⟩ := lit122 hsz hd
 replace h6 : f 6 = x6 := h6
 replace h7 : f 7 = x7 := h7
 replace h9 : f 9 = x9 := h9
 replace h10 : f 10 = x10 := h10
 replace h11 : f 11 = x11 := h11
 exact ⟨f, by rw [h6, h7, h9, h10, h11]⟩
theorem fr6r {A : Act} {x6 x7 x9 x11 x13 x14 : Value} (h : Fr 122 A [(6, x6), (7, x7), (9, x9), (11, x11), (13, x13), (14, x14)]) : ∃ f : Nat → Value, A = ⟨#[f 0, f 1, f 2, f 3, f 4, f 5, x6, x7, f 8, x9, f 10, x11, f 12, x13, x14, f 15, f 16, f 17, f 18, f 19, f 20, f 21, f 22, f 23, f 24, f 25, f 26, f 27, f 28, f 29, f 30, f 31, f 32, f 33, f 34, f 35, f 36, f 37, f 38, f 39, f 40, f 41, f 42, f 43, f 44, f 45, f 46, f 47, f 48, f 49, f 50, f 51, f 52, f 53, f 54, f 55, f 56, f 57, f 58, f 59, f 60, f 61, f 62, f 63, f 64, f 65, f 66, f 67, f 68, f 69, f 70, f 71, f 72, f 73, f 74, f 75, f 76, f 77, f 78, f 79, f 80, f 81, f 82, f 83, f 84, f 85, f 86, f 87, f 88, f 89, f 90, f 91, f 92, f 93, f 94, f 95, f 96, f 97, f 98, f 99, f 100, f 101, f 102, f 103, f 104, f 105, f 106, f 107, f 108, f 109, f 110, f 111, f 112, f 113, f 114, f 115, f 116, f 117, f 118, f 119, f 120, f 121], []⟩ := by
 obtain ⟨hsz, hd, hsl⟩ := h
 have h6 := hsl (6, x6) (by simp)
 have h7 := hsl (7, x7) (by simp)
 have h9 := hsl (9, x9) (by simp)
 have h11 := hsl (11, x11) (by simp)
 have h13 := hsl (13, x13) (by simp)
 have h14 := hsl (14, x14) (by simp)
 clear hsl
 obtain ⟨f, rfl⟩ := lit122 hsz hd
 replace h6 : f 6 = x6 := h6
 replace h7 : f 7 = x7 := h7
 replace h9 : f 9 = x9 := h9
 replace h11 : f 11 = x11 := h11
 replace h13 : f 13 = x13 := h13
 replace h14 : f 14 = x14 := h14
 exact ⟨f, by rw [h6, h7, h9, h11, h13, h14]⟩
theorem fr5s {A : Act} {x6 x7 x9 x13 x14 : Value} (h : Fr 122 A [(6, x6), (7, x7), (9, x9), (13, x13), (14, x14)]) : ∃ f : Nat → Value, A = ⟨#[f 0, f 1, f 2, f 3, f 4, f 5, x6, x7, f 8, x9, f 10, f 11, f 12, x13, x14, f 15, f 16, f 17, f 18, f 19, f 20, f 21, f 22, f 23, f 24, f 25, f 26, f 27, f 28, f 29, f 30, f 31, f 32, f 33, f 34, f 35, f 36, f 37, f 38, f 39, f 40, f 41, f 42, f 43, f 44, f 45, f 46, f 47, f 48, f 49, f 50, f 51, f 52, f 53, f 54, f 55, f 56, f 57, f 58, f 59, f 60, f 61, f 62, f 63, f 64, f 65, f 66, f 67, f 68, f 69, f 70, f 71, f 72, f 73, f 74, f 75, f 76, f 77, f 78, f 79, f 80, f 81, f 82, f 83, f 84, f 85, f 86, f 87, f 88, f 89, f 90, f 91, f 92, f 93, f 94, f 95, f 96, f 97, f 98, f 99, f 100, f 101, f 102, f 103, f 104, f 105, f 106, f 107, f 108, f 109, f 110, f 111, f 112, f 113, f 114, f 115, f 116, f 117, f 118, f 119, f 120, f 121], []⟩ := by
 obtain ⟨hsz, hd, hsl⟩ := h
 have h6 := hsl (6, x6) (by simp)
 have h7 := hsl (7, x7) (by simp)
 have h9 := hsl (9, x9) (by simp)
 have h13 := hsl (13, x13) (by simp)
 have h14 := hsl (14, x14) (by simp)
 clear hsl
 obtain ⟨f, rfl⟩ := lit122 hsz hd
 replace h6 : f 6 = x6 := h6
 replace h7 : f 7 = x7 := h7
 replace h9 : f 9 = x9 := h9
 replace h13 : f 13 = x13 := h13
 replace h14 : f 14 = x14 := h14
 exact ⟨f, by rw [h6, h7, h9, h13, h14]⟩

abbrev sT (T : List UInt8) : Value := .string ⟨⟨T⟩⟩
/-- Where the reference's Spread stands; what else is known of the frame. -/
structure SpR (more : List (Nat × Value)) (n : Nat) (w0 : World) (T out : List UInt8) (A : Act) (W : World) : Prop where
 st : ∃ v, Fr 122 A ((6, .int .i64 (n : Int)) :: (7, sT T) :: (9, v) :: more) ∧ BytesF W w0.heap.size 5 v out
 but : Below w0.heap.size w0 W
 sz : T.length ≤ 1000000
 len : out.length ≤ n
 n : n ≤ 1048576
/-- An error is told. -/
def RBad (w0 : World) (E : Int) (A : Act) (W : World) : Prop := Fr 122 A [(4, .string ⟨#[]⟩), (5, .int .i64 E)] ∧ Below w0.heap.size w0 W

theorem rnum_none {s : List UInt8} {most : Nat} (hs : s.length ≤ 1000000) (hm : most ≤ 1099511627776) (h : takS s most = none) (w : World) :
  Calls Tryz.prog 39 #[sT s, .int .i64 (most : Int)] w fun r w' => (∃ (c : Nat) (X : ByteArray), r = .returned (.tuple #[.int .i64 (c : Int), .string X, .int .i64 (numE s)])) ∧ Below w.heap.size w w' :=
 (rnum_calls (s := ⟨⟨s⟩⟩) (Nat.le_trans (show (⟨⟨s⟩⟩ : ByteArray).size ≤ 1000000 from hs) (by decide)) hm w).mono fun r w' ⟨⟨c, X, e, hr, _, h1⟩, hb⟩ => by
  rcases h1 with ⟨_, h2⟩ | ⟨h2, _⟩
  ·
   have h3 : takS s most = some (c, X.data.toList) := h2
   rw [h] at h3; cases h3
  ·
   have h3 : e = numE s := h2
   subst h3
   exact ⟨⟨c, X, hr⟩, hb⟩
theorem rnum_some {s x : List UInt8} {most c : Nat} (hs : s.length ≤ 1000000) (hm : most ≤ 1099511627776) (h : takS s most = some (c, x)) (w : World) :
  Calls Tryz.prog 39 #[sT s, .int .i64 (most : Int)] w fun r w' => r = .returned (.tuple #[.int .i64 (c : Int), sT x, .int .i64 0]) ∧ Below w.heap.size w w' :=
 (rnum_calls (s := ⟨⟨s⟩⟩) (Nat.le_trans (show (⟨⟨s⟩⟩ : ByteArray).size ≤ 1000000 from hs) (by decide)) hm w).mono fun r w' ⟨⟨c', X, e, hr, _, h1⟩, hb⟩ => by
  rcases h1 with ⟨h0, h2⟩ | ⟨_, h2⟩
  ·
   have h3 : takS s most = some (c', X.data.toList) := h2
   rw [h] at h3
   cases h3
   subst h0
   exact ⟨hr, hb⟩
  ·
   have h3 : takS s most = none := h2
   rw [h] at h3; cases h3
theorem takS_len {l t : List UInt8} {most v : Nat} (h : takS l most = some (v, t)) : t.length ≤ l.length := by
 unfold takS at h
 split at h
 ·
  split at h
  ·
   cases h
   rw [List.length_drop]; omega
  ·
   cases h
 ·
  cases h
theorem bytes_below {W w : World} {base : Nat} {v : Value} {l : List UInt8} (hB : BytesF W base 5 v l) (h : Below W.heap.size W w) : BytesF w base 5 v l := hB.kept fun g hg => h.block g (hB.lt g hg).2
theorem below_more {B : Nat} {w0 W w : World} (h : Below B w0 W) (k : Below W.heap.size W w) (hB : B ≤ W.heap.size) : Below B w0 w := h.trans (k.mono hB)

set_option maxHeartbeats 4000000 in
set_option maxRecDepth 1000000 in
/-- The number of what stands for itself. -/
theorem ra1_bad {n : Nat} {w0 : World} {E : Int} {T out : List UInt8} {A : Act} {W : World} (hI : SpR [] n w0 T out A W)
  (h : (takS T (n - out.length) = none ∧ numE T = E) ∨ ∃ c x, takS T (n - out.length) = some (c, x) ∧ x.length < c ∧ 4 = E) {Q : Exit → Act → World → Prop}
  (hQ : ∀ A' W', RBad w0 E A' W' → Q .ret A' W') : wpL Tryz.prog [itemN L13b 0, itemN L13b 1, itemN L13b 2, itemN L13b 3, itemN L13b 4] Q A W := by
 obtain ⟨⟨v, hF, hB⟩, hbut, hsz, hlen, hn⟩ := hI
 obtain ⟨f, rfl⟩ := fr679 hF
 obtain ⟨a, cap, rfl, hcap⟩ := hB.len
 obtain ⟨z, hz⟩ : ∃ z, z = out.length := ⟨_, rfl⟩
 obtain ⟨d, hd⟩ : ∃ d, d = n - out.length := ⟨_, rfl⟩
 rw [← hd] at h
 rw [← hz]
 have hd1 : (n : Int) - (z : Int) = (d : Int) := by omega
 have hdm : d ≤ 1099511627776 := by omega
 have hdn : d ≤ 1048576 := by omega
 have hbut' := Lib.hid hbut
 have hQ' := Lib.hid hQ
 rcases h with ⟨h, hEE⟩ | ⟨c, x, h, hc, hEE⟩
 ·
  have hnum0 := rnum_none hsz hdm h
  rw [hEE] at hnum0
  have hE0 : ¬ E = 0 := hEE ▸ numE_ne _
  have hnum := Lib.hid hnum0
  clear hnum0 hEE
  clear hF hB hbut hQ hlen hd hcap hz h hdm hsz hn
  have wd : IntKind.i64.wrap (d : Int) = (d : Int) := wrapI64 _ (by omega)
  refine wpL_lit (L' := [.region 8 _ _, .region 9 _ _, .cond _ _ _, .region 11 _ _, .cond _ _ _]) (by rfl) ?_
  simp only [wpL]
  go_wp2_with (go_at_call 39; refine (hnum.out _).mono ?_; rintro r w1 ⟨⟨c, X, rfl⟩, hb⟩; have hb' := Lib.hid hb; clear hb)
  refine hQ'.out _ _ ⟨⟨rfl, rfl, fun q hq => ?_⟩, below_more hbut'.out hb'.out hbut'.out.size⟩
  simp only [List.mem_cons, List.not_mem_nil, or_false] at hq
  rcases hq with rfl | rfl <;> rfl
 ·
  subst hEE
  have hnum := Lib.hid (rnum_some hsz hdm h)
  have hc' : (((⟨⟨x⟩⟩ : ByteArray).size : Nat) : Int) < (c : Int) := by show ((x.length : Nat) : Int) < _; omega
  generalize hXX : (⟨⟨x⟩⟩ : ByteArray) = X at hnum hc'
  have hnum2 : Hid (∀ w, Calls Tryz.prog 39 #[sT T, .int .i64 (d : Int)] w fun r w' => r = .returned (.tuple #[.int .i64 (c : Int), .string X, .int .i64 0]) ∧ Below w.heap.size w w') := Lib.hid (by rw [← hXX]; exact hnum.out)
  clear hF hB hbut hQ hlen hd hcap hz h hdm hsz hn hc hXX hnum
  have wd : IntKind.i64.wrap (d : Int) = (d : Int) := wrapI64 _ (by omega)
  refine wpL_lit (L' := [.region 8 _ _, .region 9 _ _, .cond _ _ _, .region 11 _ _, .cond _ _ _]) (by rfl) ?_
  simp only [wpL]
  go_wp2_with (go_at_call 39; refine (hnum2.out _).mono ?_; rintro r w1 ⟨rfl, hb⟩; have hb' := Lib.hid hb; clear hb)
  refine hQ'.out _ _ ⟨⟨rfl, rfl, fun q hq => ?_⟩, below_more hbut'.out hb'.out hbut'.out.size⟩
  simp only [List.mem_cons, List.not_mem_nil, or_false] at hq
  rcases hq with rfl | rfl <;> rfl

set_option maxHeartbeats 4000000 in
set_option maxRecDepth 1000000 in
theorem ra1_ok {n c : Nat} {w0 : World} {T x out : List UInt8} {A : Act} {W : World} (hI : SpR [] n w0 T out A W)
  (h : takS T (n - out.length) = some (c, x)) (hc : c ≤ x.length) {Q : Exit → Act → World → Prop}
  (hQ : ∀ A' W', SpR [(10, .int .i64 (c : Int)), (11, sT x)] n w0 T out A' W' → Q .normal A' W') : wpL Tryz.prog [itemN L13b 0, itemN L13b 1, itemN L13b 2, itemN L13b 3, itemN L13b 4] Q A W := by
 obtain ⟨⟨v, hF, hB⟩, hbut, hsz, hlen, hn⟩ := hI
 obtain ⟨f, rfl⟩ := fr679 hF
 obtain ⟨a, cap, rfl, hcap⟩ := hB.len
 obtain ⟨z, hz⟩ : ∃ z, z = out.length := ⟨_, rfl⟩
 obtain ⟨d, hd⟩ : ∃ d, d = n - out.length := ⟨_, rfl⟩
 rw [← hd] at h
 have hK := Lib.hid (And.intro hB (And.intro hbut (And.intro hsz (And.intro hlen hn))))
 rw [← hz] at hK ⊢
 have hz' := Lib.hid hz
 have hd1 : (n : Int) - (z : Int) = (d : Int) := by omega
 have hdm : d ≤ 1099511627776 := by omega
 have hdn : d ≤ 1048576 := by omega
 have hQ' := Lib.hid hQ
 have hnum := Lib.hid (rnum_some hsz hdm h)
 have hc' : ¬ (((⟨⟨x⟩⟩ : ByteArray).size : Nat) : Int) < (c : Int) := by show ¬ ((x.length : Nat) : Int) < _; omega
 obtain ⟨X, hXX⟩ : ∃ X : ByteArray, X = ⟨⟨x⟩⟩ := ⟨_, rfl⟩
 rw [← hXX] at hc'
 have hnum2 : Hid (∀ w, Calls Tryz.prog 39 #[sT T, .int .i64 (d : Int)] w fun r w' => r = .returned (.tuple #[.int .i64 (c : Int), .string X, .int .i64 0]) ∧ Below w.heap.size w w') := Lib.hid (by rw [hXX]; exact hnum.out)
 have hXH := Lib.hid hXX
 clear hF hB hbut hQ hlen hd hcap hz h hdm hsz hn hc hXX hnum
 have wd : IntKind.i64.wrap (d : Int) = (d : Int) := wrapI64 _ (by omega)
 refine wpL_lit (L' := [.region 8 _ _, .region 9 _ _, .cond _ _ _, .region 11 _ _, .cond _ _ _]) (by rfl) ?_
 simp only [wpL]
 go_wp2_with (go_at_call 39; refine (hnum2.out _).mono ?_; rintro r w1 ⟨rfl, hb⟩; have hb' := Lib.hid hb; clear hb)
 obtain ⟨hB, hbut, hsz, hlen, hn⟩ := hK.out
 refine hQ'.out _ _ ⟨⟨_, ⟨rfl, rfl, fun q hq => ?_⟩, bytes_below hB hb'.out⟩, below_more hbut hb'.out hbut.size, hsz, hz'.out ▸ hlen, hn⟩
 simp only [List.mem_cons, List.not_mem_nil, or_false] at hq
 rcases hq with rfl | rfl | rfl | rfl | rfl <;> first | rfl | (show Value.string X = Value.string ⟨⟨x⟩⟩; rw [hXH.out])
end Go.Proofs

/-! pollardref04.Spread: whether the text is whole; a match's numbers. -/
namespace Go.Proofs
open Go.RowKit Go.Ev Go.Lib
attribute [local go_sem] Oper.semAt_some

set_option maxHeartbeats 4000000 in
set_option maxRecDepth 1000000 in
theorem ra3_end {n : Nat} {w0 : World} {T out : List UInt8} {A : Act} {W : World} (hI : SpR [] n w0 T out A W) (hl : out.length = n) {Q : Exit → Act → World → Prop}
  (hQ : ∀ A' W', SpR [] n w0 T out A' W' → Q (.exit 0) A' W') : wpL Tryz.prog [itemN L13b 6, itemN L13b 7] Q A W := by
 obtain ⟨⟨v, hF, hB⟩, hbut, hsz, hlen, hn⟩ := hI
 obtain ⟨f, rfl⟩ := fr679 hF
 obtain ⟨a, cap, rfl, hcap⟩ := hB.len
 have hl' : (out.length : Int) = (n : Int) := by omega
 have hK := Lib.hid (And.intro hB (And.intro hbut (And.intro hsz (And.intro hlen hn))))
 have hQ' := Lib.hid hQ
 clear hF hB hbut hsz hlen hn hQ
 refine wpL_lit (L' := [.region 14 _ _, .cond _ _ _]) (by rfl) ?_
 simp only [wpL]
 go_wp2
 obtain ⟨hB, hbut, hsz, hlen, hn⟩ := hK.out
 refine hQ'.out _ _ ⟨⟨_, ⟨rfl, rfl, fun q hq => ?_⟩, hB⟩, hbut, hsz, hlen, hn⟩
 simp only [List.mem_cons, List.not_mem_nil, or_false] at hq
 rcases hq with rfl | rfl | rfl <;> first | rfl | (simp [hl]; done)
set_option maxHeartbeats 4000000 in
set_option maxRecDepth 1000000 in
theorem ra3_go {n : Nat} {w0 : World} {T out : List UInt8} {A : Act} {W : World} (hI : SpR [] n w0 T out A W) (hl : ¬ out.length = n) {Q : Exit → Act → World → Prop}
  (hQ : ∀ A' W', SpR [] n w0 T out A' W' → Q .normal A' W') : wpL Tryz.prog [itemN L13b 6, itemN L13b 7] Q A W := by
 obtain ⟨⟨v, hF, hB⟩, hbut, hsz, hlen, hn⟩ := hI
 obtain ⟨f, rfl⟩ := fr679 hF
 obtain ⟨a, cap, rfl, hcap⟩ := hB.len
 have hl' : ¬ (out.length : Int) = (n : Int) := by omega
 have hK := Lib.hid (And.intro hB (And.intro hbut (And.intro hsz (And.intro hlen hn))))
 have hQ' := Lib.hid hQ
 clear hF hB hbut hsz hlen hn hQ
 refine wpL_lit (L' := [.region 14 _ _, .cond _ _ _]) (by rfl) ?_
 simp only [wpL]
 go_wp2
 obtain ⟨hB, hbut, hsz, hlen, hn⟩ := hK.out
 refine hQ'.out _ _ ⟨⟨_, ⟨rfl, rfl, fun q hq => ?_⟩, hB⟩, hbut, hsz, hlen, hn⟩
 simp only [List.mem_cons, List.not_mem_nil, or_false] at hq
 rcases hq with rfl | rfl | rfl <;> rfl

set_option maxHeartbeats 4000000 in
set_option maxRecDepth 1000000 in
theorem ra4_bad1 {n : Nat} {w0 : World} {E : Int} {T out : List UInt8} {A : Act} {W : World} (hI : SpR [] n w0 T out A W) (h : takS T 32768 = none) (hEE : numE T = E) {Q : Exit → Act → World → Prop}
  (hQ : ∀ A' W', RBad w0 E A' W' → Q .ret A' W') : wpL Tryz.prog [itemN L13b 8, itemN L13b 9, itemN L13b 10, itemN L13b 11, itemN L13b 12, itemN L13b 13] Q A W := by
 obtain ⟨⟨v, hF, hB⟩, hbut, hsz, hlen, hn⟩ := hI
 obtain ⟨f, rfl⟩ := fr679 hF
 have hbut' := Lib.hid hbut
 have hQ' := Lib.hid hQ
 have hnum0 := rnum_none hsz (by decide) h
 rw [hEE] at hnum0
 have hE0 : ¬ E = 0 := hEE ▸ numE_ne _
 have hnum := Lib.hid hnum0
 clear hF hB hbut hQ hlen h hsz hn hEE hnum0
 refine wpL_lit (L' := [.region 15 _ _, .region 16 _ _, .cond _ _ _, .region 18 _ _, .region 19 _ _, .cond _ _ _]) (by rfl) ?_
 simp only [wpL]
 go_wp2_with (go_at_call 39; refine (hnum.out _).mono ?_; rintro r w1 ⟨⟨c, X, rfl⟩, hb⟩; have hb' := Lib.hid hb; clear hb)
 refine hQ'.out _ _ ⟨⟨rfl, rfl, fun q hq => ?_⟩, below_more hbut'.out hb'.out hbut'.out.size⟩
 simp only [List.mem_cons, List.not_mem_nil, or_false] at hq
 rcases hq with rfl | rfl <;> rfl

set_option maxHeartbeats 4000000 in
set_option maxRecDepth 1000000 in
theorem ra4_bad2 {n k : Nat} {w0 : World} {E : Int} {T t3 out : List UInt8} {A : Act} {W : World} (hI : SpR [] n w0 T out A W) (h : takS T 32768 = some (k, t3)) (h2 : takS t3 (n - out.length) = none) (hEE : numE t3 = E) {Q : Exit → Act → World → Prop}
  (hQ : ∀ A' W', RBad w0 E A' W' → Q .ret A' W') : wpL Tryz.prog [itemN L13b 8, itemN L13b 9, itemN L13b 10, itemN L13b 11, itemN L13b 12, itemN L13b 13] Q A W := by
 obtain ⟨⟨v, hF, hB⟩, hbut, hsz, hlen, hn⟩ := hI
 obtain ⟨f, rfl⟩ := fr679 hF
 obtain ⟨a, cap, rfl, hcap⟩ := hB.len
 obtain ⟨z, hz⟩ : ∃ z, z = out.length := ⟨_, rfl⟩
 obtain ⟨d, hd⟩ : ∃ d, d = n - out.length := ⟨_, rfl⟩
 rw [← hd] at h2
 rw [← hz]
 have hd1 : (n : Int) - (z : Int) = (d : Int) := by omega
 have hdm : d ≤ 1099511627776 := by omega
 have hdn : d ≤ 1048576 := by omega
 have hbut' := Lib.hid hbut
 have hQ' := Lib.hid hQ
 have hnum := Lib.hid (rnum_some hsz (by decide) h)
 have hnum0 := rnum_none (Nat.le_trans (takS_len h) hsz) hdm h2
 rw [hEE] at hnum0
 have hE0 : ¬ E = 0 := hEE ▸ numE_ne _
 have hnum2 := Lib.hid hnum0
 clear hF hB hbut hQ hlen h h2 hsz hn hz hd hcap hdm hEE hnum0
 have wd : IntKind.i64.wrap (d : Int) = (d : Int) := wrapI64 _ (by omega)
 refine wpL_lit (L' := [.region 15 _ _, .region 16 _ _, .cond _ _ _, .region 18 _ _, .region 19 _ _, .cond _ _ _]) (by rfl) ?_
 simp only [wpL]
 go_wp2_with (first
  | (go_at_call_of 39 (d : Int); refine (hnum2.out _).mono ?_; rintro r w2 ⟨⟨c, X, rfl⟩, hb⟩; have hb2' := Lib.hid hb; clear hb)
  | (go_at_call 39; refine (hnum.out _).mono ?_; rintro r w1 ⟨rfl, hb⟩; have hb' := Lib.hid hb; clear hb))
 have hbel := below_more hbut'.out hb'.out hbut'.out.size
 refine hQ'.out _ _ ⟨⟨rfl, rfl, fun q hq => ?_⟩, below_more hbel hb2'.out hbel.size⟩
 simp only [List.mem_cons, List.not_mem_nil, or_false] at hq
 rcases hq with rfl | rfl <;> rfl

set_option maxHeartbeats 4000000 in
set_option maxRecDepth 1000000 in
theorem ra4_ok {n k m : Nat} {w0 : World} {T t3 t4 out : List UInt8} {A : Act} {W : World} (hI : SpR [] n w0 T out A W) (h : takS T 32768 = some (k, t3)) (h2 : takS t3 (n - out.length) = some (m, t4)) {Q : Exit → Act → World → Prop}
  (hQ : ∀ A' W', SpR [(11, sT t4), (13, .int .i64 (k : Int)), (14, .int .i64 (m : Int))] n w0 T out A' W' → Q .normal A' W') : wpL Tryz.prog [itemN L13b 8, itemN L13b 9, itemN L13b 10, itemN L13b 11, itemN L13b 12, itemN L13b 13] Q A W := by
 obtain ⟨⟨v, hF, hB⟩, hbut, hsz, hlen, hn⟩ := hI
 obtain ⟨f, rfl⟩ := fr679 hF
 obtain ⟨a, cap, rfl, hcap⟩ := hB.len
 obtain ⟨z, hz⟩ : ∃ z, z = out.length := ⟨_, rfl⟩
 obtain ⟨d, hd⟩ : ∃ d, d = n - out.length := ⟨_, rfl⟩
 rw [← hd] at h2
 have hK := Lib.hid (And.intro hB (And.intro hbut (And.intro hsz (And.intro hlen hn))))
 rw [← hz] at hK ⊢
 have hz' := Lib.hid hz
 have hd1 : (n : Int) - (z : Int) = (d : Int) := by omega
 have hdm : d ≤ 1099511627776 := by omega
 have hdn : d ≤ 1048576 := by omega
 have hQ' := Lib.hid hQ
 have hnum := Lib.hid (rnum_some hsz (by decide) h)
 have hnum2 := Lib.hid (rnum_some (Nat.le_trans (takS_len h) hsz) hdm h2)
 clear hF hB hbut hQ hlen h h2 hsz hn hz hd hcap hdm
 have wd : IntKind.i64.wrap (d : Int) = (d : Int) := wrapI64 _ (by omega)
 refine wpL_lit (L' := [.region 15 _ _, .region 16 _ _, .cond _ _ _, .region 18 _ _, .region 19 _ _, .cond _ _ _]) (by rfl) ?_
 simp only [wpL]
 go_wp2_with (first
  | (go_at_call_of 39 (d : Int); refine (hnum2.out _).mono ?_; rintro r w2 ⟨rfl, hb⟩; have hb2' := Lib.hid hb; clear hb)
  | (go_at_call 39; refine (hnum.out _).mono ?_; rintro r w1 ⟨rfl, hb⟩; have hb' := Lib.hid hb; clear hb))
 obtain ⟨hB, hbut, hsz, hlen, hn⟩ := hK.out
 have hbel := below_more hbut hb'.out hbut.size
 refine hQ'.out _ _ ⟨⟨_, ⟨rfl, rfl, fun q hq => ?_⟩, bytes_below (bytes_below hB hb'.out) hb2'.out⟩, below_more hbel hb2'.out hbel.size, hsz, hz'.out ▸ hlen, hn⟩
 simp only [List.mem_cons, List.not_mem_nil, or_false] at hq
 rcases hq with rfl | rfl | rfl | rfl | rfl | rfl <;> rfl
end Go.Proofs

/-! pollardref04.Spread: what a match puts. -/
namespace Go.Proofs
open Go.RowKit Go.Ev Go.Lib
attribute [local go_sem] Oper.semAt_some
theorem fr6t {A : Act} {x6 x7 x9 x13 x14 x15 : Value} (h : Fr 122 A [(6, x6), (7, x7), (9, x9), (13, x13), (14, x14), (15, x15)]) : ∃ f : Nat → Value, A = ⟨#[f 0, f 1, f 2, f 3, f 4, f 5, x6, x7, f 8, x9, f 10, f 11, f 12, x13, x14, x15, f 16, f 17, f 18, f 19, f 20, f 21, f 22, f 23, f 24, f 25, f 26, f 27, f 28, f 29, f 30, f 31, f 32, f 33, f 34, f 35, f 36, f 37, f 38, f 39, f 40, f 41, f 42, f 43, f 44, f 45, f 46, f 47, f 48, f 49, f 50, f 51, f 52, f 53, f 54, f 55, f 56, f 57, f 58, f 59, f 60, f 61, f 62, f 63, f 64, f 65, f 66, f 67, f 68, f 69, f 70, f 71, f 72, f 73, f 74, f 75, f 76, f 77, f 78, f 79, f 80, f 81, f 82, f 83, f 84, f 85, f 86, f 87, f 88, f 89, f 90, f 91, f 92, f 93, f 94, f 95, f 96, f 97, f 98, f 99, f 100, f 101, f 102, f 103, f 104, f 105, f 106, f 107, f 108, f 109, f 110, f 111, f 112, f 113, f 114, f 115, f 116, f 117, f 118, f 119, f 120, f 121], []⟩ := by
 obtain ⟨hsz, hd, hsl⟩ := h
 have h6 := hsl (6, x6) (by simp)
 have h7 := hsl (7, x7) (by simp)
 have h9 := hsl (9, x9) (by simp)
 have h13 := hsl (13, x13) (by simp)
 have h14 := hsl (14, x14) (by simp)
 have h15 := hsl (15, x15) (by simp)
 clear hsl
 obtain ⟨f, rfl⟩ := lit122 hsz hd
 replace h6 : f 6 = x6 := h6
 replace h7 : f 7 = x7 := h7
 replace h9 : f 9 = x9 := h9
 replace h13 : f 13 = x13 := h13
 replace h14 : f 14 = x14 := h14
 replace h15 : f 15 = x15 := h15
 exact ⟨f, by rw [h6, h7, h9, h13, h14, h15]⟩

set_option maxHeartbeats 4000000 in
set_option maxRecDepth 1000000 in
theorem ra5_bad {n k m : Nat} {w0 : World} {T t4 out : List UInt8} {A : Act} {W : World} (hI : SpR [(11, sT t4), (13, .int .i64 (k : Int)), (14, .int .i64 (m : Int))] n w0 T out A W) (hm : m ≤ 1048576)
  (h : ¬ (m + 4 ≤ n - out.length ∧ 1 ≤ k ∧ k ≤ out.length)) {Q : Exit → Act → World → Prop}
  (hQ : ∀ A' W', RBad w0 6 A' W' → Q .ret A' W') : wpL Tryz.prog [itemN L13b 14, itemN L13b 15, itemN L13b 16] Q A W := by
 obtain ⟨⟨v, hF, hB⟩, hbut, hsz, hlen, hn⟩ := hI
 obtain ⟨f, rfl⟩ := fr6r hF
 obtain ⟨a, cap, rfl, hcap⟩ := hB.len
 obtain ⟨z, hz⟩ : ∃ z, z = out.length := ⟨_, rfl⟩
 obtain ⟨d, hd⟩ : ∃ d, d = n - out.length := ⟨_, rfl⟩
 rw [← hd, ← hz] at h
 rw [← hz]
 have hd1 : (n : Int) - (z : Int) = (d : Int) := by omega
 have hdn : d ≤ 1048576 := by omega
 obtain ⟨q, hq⟩ : ∃ q, q = m + 4 := ⟨_, rfl⟩
 have hq1 : (m : Int) + 4 = (q : Int) := by omega
 have hbut' := Lib.hid hbut
 have hQ' := Lib.hid hQ
 have fin : ∀ A1 : Act, Fr 122 A1 [(4, .string ⟨#[]⟩), (5, .int .i64 6)] → Q .ret A1 W := fun A1 hA => hQ A1 W ⟨hA, hbut⟩
 have fin' := Lib.hid fin
 by_cases h1 : q ≤ d
 ·
  by_cases h2 : 1 ≤ k
  ·
   have h3 : ¬ k ≤ z := fun h3 => h ⟨by omega, h2, h3⟩
   have g1 : ¬ (d : Int) < (q : Int) := by omega
   have g2 : ¬ (k : Int) < 1 := by omega
   have g3 : (z : Int) < (k : Int) := by omega
   have wd : IntKind.i64.wrap (d : Int) = (d : Int) := wrapI64 _ (by omega)
   have wq : IntKind.i64.wrap (q : Int) = (q : Int) := wrapI64 _ (by omega)
   clear hF hB hbut hQ hlen hsz hn hz hd hcap h hm hq fin h1 h2 h3
   refine wpL_lit (L' := [.region 21 _ _, .region 22 _ _, .cond _ _ _]) (by rfl) ?_
   simp only [wpL]
   go_wp2
   refine fin'.out _ ⟨rfl, rfl, fun q hq => ?_⟩
   simp only [List.mem_cons, List.not_mem_nil, or_false] at hq
   rcases hq with rfl | rfl <;> rfl
  ·
   have g1 : ¬ (d : Int) < (q : Int) := by omega
   have g2 : (k : Int) < 1 := by omega
   have wd : IntKind.i64.wrap (d : Int) = (d : Int) := wrapI64 _ (by omega)
   have wq : IntKind.i64.wrap (q : Int) = (q : Int) := wrapI64 _ (by omega)
   clear hF hB hbut hQ hlen hsz hn hz hd hcap h hm hq fin h1 h2
   refine wpL_lit (L' := [.region 21 _ _, .region 22 _ _, .cond _ _ _]) (by rfl) ?_
   simp only [wpL]
   go_wp2
   refine fin'.out _ ⟨rfl, rfl, fun q hq => ?_⟩
   simp only [List.mem_cons, List.not_mem_nil, or_false] at hq
   rcases hq with rfl | rfl <;> rfl
 ·
  have g1 : (d : Int) < (q : Int) := by omega
  have wd : IntKind.i64.wrap (d : Int) = (d : Int) := wrapI64 _ (by omega)
  have wq : IntKind.i64.wrap (q : Int) = (q : Int) := wrapI64 _ (by omega)
  clear hF hB hbut hQ hlen hsz hn hz hd hcap h hm hq fin h1
  refine wpL_lit (L' := [.region 21 _ _, .region 22 _ _, .cond _ _ _]) (by rfl) ?_
  simp only [wpL]
  go_wp2
  refine fin'.out _ ⟨rfl, rfl, fun q hq => ?_⟩
  simp only [List.mem_cons, List.not_mem_nil, or_false] at hq
  rcases hq with rfl | rfl <;> rfl

set_option maxHeartbeats 4000000 in
set_option maxRecDepth 1000000 in
theorem ra5_ok {n k m : Nat} {w0 : World} {T t4 out : List UInt8} {A : Act} {W : World} (hI : SpR [(11, sT t4), (13, .int .i64 (k : Int)), (14, .int .i64 (m : Int))] n w0 T out A W) (ht : t4.length ≤ 1000000)
  (h : m + 4 ≤ n - out.length) (h1 : 1 ≤ k) (h2 : k ≤ out.length) {Q : Exit → Act → World → Prop}
  (hQ : ∀ A' W', SpR [(13, .int .i64 (k : Int)), (14, .int .i64 (m : Int))] n w0 t4 out A' W' → Q .normal A' W') : wpL Tryz.prog [itemN L13b 14, itemN L13b 15, itemN L13b 16] Q A W := by
 obtain ⟨⟨v, hF, hB⟩, hbut, hsz, hlen, hn⟩ := hI
 obtain ⟨f, rfl⟩ := fr6r hF
 obtain ⟨a, cap, rfl, hcap⟩ := hB.len
 obtain ⟨z, hz⟩ : ∃ z, z = out.length := ⟨_, rfl⟩
 obtain ⟨d, hd⟩ : ∃ d, d = n - out.length := ⟨_, rfl⟩
 have hK := Lib.hid (And.intro hB (And.intro hbut (And.intro ht (And.intro hlen hn))))
 rw [← hz] at hK ⊢
 have hz' := Lib.hid hz
 have hd1 : (n : Int) - (z : Int) = (d : Int) := by omega
 have hdn : d ≤ 1048576 := by omega
 obtain ⟨q, hq⟩ : ∃ q, q = m + 4 := ⟨_, rfl⟩
 have hq1 : (m : Int) + 4 = (q : Int) := by omega
 have hQ' := Lib.hid hQ
 have g1 : ¬ (d : Int) < (q : Int) := by omega
 have g2 : ¬ (k : Int) < 1 := by omega
 have g3 : ¬ (z : Int) < (k : Int) := by omega
 have wd : IntKind.i64.wrap (d : Int) = (d : Int) := wrapI64 _ (by omega)
 have wq : IntKind.i64.wrap (q : Int) = (q : Int) := wrapI64 _ (by omega)
 clear hF hB hbut hQ hlen hsz hn hz hd hcap h hq ht
 refine wpL_lit (L' := [.region 21 _ _, .region 22 _ _, .cond _ _ _]) (by rfl) ?_
 simp only [wpL]
 go_wp2
 obtain ⟨hB, hbut, hsz, hlen, hn⟩ := hK.out
 refine hQ'.out _ _ ⟨⟨_, ⟨rfl, rfl, fun q hq => ?_⟩, hB⟩, hbut, hsz, hz'.out ▸ hlen, hn⟩
 simp only [List.mem_cons, List.not_mem_nil, or_false] at hq
 rcases hq with rfl | rfl | rfl | rfl | rfl <;> rfl

/-- Within a match. -/
structure SpI (n k m i : Nat) (w0 : World) (T out : List UInt8) (A : Act) (W : World) : Prop where
 st : ∃ v, Fr 122 A [(6, .int .i64 (n : Int)), (7, sT T), (9, v), (13, .int .i64 (k : Int)), (14, .int .i64 (m : Int)), (15, .int .i64 (i : Int))] ∧ BytesF W w0.heap.size 5 v (repS k i out)
 but : Below w0.heap.size w0 W

set_option maxHeartbeats 4000000 in
set_option maxRecDepth 1000000 in
theorem ra6_round {n k m i : Nat} {w0 : World} {T out : List UInt8} {A : Act} {W : World} (hI : SpI n k m i w0 T out A W) (hi4 : i < m + 4) (hm : m ≤ 1048576) (hn : out.length ≤ 1048576) (h1 : 1 ≤ k) (h2 : k ≤ out.length) {Q : Exit → Act → World → Prop}
  (hQ : ∀ A' W', SpI n k m (i + 1) w0 T out A' W' → Q .normal A' W') : (loopB (itemN L13b 18)).wp Tryz.prog Q A W := by
 refine wpL_codes ?_
 obtain ⟨i0, hi, hz0, hz1, hz2⟩ := info_parts info71
 obtain ⟨⟨v, hF, hB⟩, hbut⟩ := hI
 obtain ⟨f, rfl⟩ := fr6t hF
 have hln := repS_len k i out
 obtain ⟨L, hL⟩ : ∃ L, L = repS k i out := ⟨_, rfl⟩
 rw [← hL] at hB hln
 have hLk : k ≤ L.length := by omega
 have hLb : L.length + 1 ≤ 140737488355328 := by omega
 obtain ⟨q, hq⟩ : ∃ q, q = L.length - k := ⟨_, rfl⟩
 have hqL : q < L.length := by omega
 obtain ⟨g, off, cap, rfl, hg1, hg2, hc⟩ := bytesF_at hB hqL
 generalize hcc : L.getD q 0 = c at hc
 obtain ⟨p, hp⟩ : ∃ p, p = m + 4 := ⟨_, rfl⟩
 have hp1 : (m : Int) + 4 = (p : Int) := by omega
 have hip : (i : Int) < (p : Int) := by omega
 have e1 : (L.length : Int) - (k : Int) = (q : Int) := by omega
 have e3 : (0 : Int) ≤ (q : Int) := by omega
 have e4 : (q : Int) < (L.length : Int) := by omega
 have hsrc := Lib.hid (src_one W c)
 have hbase : w0.heap.size ≤ W.heap.size := hbut.size
 have hBa := Lib.hid (hB.kept (w' := W.alloc (.cells #[.int .u8 c.toNat] 5)) fun k hk => heap_alloc_old _ _ (hB.lt k hk).2)
 have hrow := Lib.hid (fun k hk => (hB.lt k hk).1)
 have hnext : Hid (L ++ [c] = repS k (i + 1) out) := Lib.hid (by rw [repS_succ, ← hL, ← hcc, hq])
 have hlb : Hid (L.length + [c].length ≤ 140737488355328) := Lib.hid hLb
 have hbelH := Lib.hid hbut
 have hQ' := Lib.hid hQ
 have hi1 : i ≤ 1048580 := by omega
 have wp1 : IntKind.i64.wrap (p : Int) = (p : Int) := wrapI64 _ (by omega)
 have e2 : IntKind.i64.wrap (q : Int) = (q : Int) := wrapI64 _ (by omega)
 clear hL hB hbut hcc hq hln hF hLk hLb hqL hp hQ hm hn h1 h2 hi4
 refine wpL_lit (L' := [.region 25 _ _, .cond _ _ _, .block 3 _, .region 26 _ _]) (by rfl) ?_
 simp only [wpL]
 go_wp2_with (at_builtin; refine wpList_append_srcF _ rfl (.tmp 108) (.tmp 116) 71 71 rfl w0.heap.size 5 i0 Tryz.underlying71 hi hz0 hz1 hz2 (.slice (some ⟨g, off, none⟩) L.length cap) L rfl hBa.out [c] hsrc.out hlb.out (Nat.le_trans hbase (by simp)) ?_; intro v' w1 hB1 hg3 hn1; have hB1' := Lib.hid hB1; have hg3' := Lib.hid hg3; clear hB1 hg3 hn1)
 clear e2 wp1
 refine hQ'.out _ _ ⟨⟨v', ⟨rfl, rfl, fun q hq => ?_⟩, by rw [← hnext.out]; exact hB1'.out⟩, (hbelH.out.alloc hbase _).grown hg3'.out (Nat.le_trans hbase (by simp)) hrow.out⟩
 simp only [List.mem_cons, List.not_mem_nil, or_false] at hq
 rcases hq with rfl | rfl | rfl | rfl | rfl | rfl <;> first | rfl | (simp; done)

set_option maxHeartbeats 4000000 in
set_option maxRecDepth 1000000 in
theorem ra6_end {n k m : Nat} {w0 : World} {T out : List UInt8} {A : Act} {W : World} (hI : SpI n k m (m + 4) w0 T out A W) (hm : m ≤ 1048576) {Q : Exit → Act → World → Prop}
  (hQ : ∀ A', SpI n k m (m + 4) w0 T out A' W → Q (.exit 2) A' W) : (loopB (itemN L13b 18)).wp Tryz.prog Q A W := by
 refine wpL_codes ?_
 obtain ⟨⟨v, hF, hB⟩, hbut⟩ := hI
 obtain ⟨f, rfl⟩ := fr6t hF
 obtain ⟨p, hp⟩ : ∃ p, p = m + 4 := ⟨_, rfl⟩
 rw [← hp] at hB hQ ⊢
 have hp1 : (m : Int) + 4 = (p : Int) := by omega
 have hpp : ¬ (p : Int) < (p : Int) := by omega
 have hK := Lib.hid (And.intro hB hbut)
 have hQ' := Lib.hid hQ
 have wp1 : IntKind.i64.wrap (p : Int) = (p : Int) := wrapI64 _ (by omega)
 clear hF hB hbut hQ hp hm
 refine wpL_lit (L' := [.region 25 _ _, .cond _ _ _, .block 3 _, .region 26 _ _]) (by rfl) ?_
 simp only [wpL]
 go_wp2
 obtain ⟨hB, hbut⟩ := hK.out
 refine hQ'.out _ ⟨⟨v, ⟨rfl, rfl, fun q hq => ?_⟩, hB⟩, hbut⟩
 simp only [List.mem_cons, List.not_mem_nil, or_false] at hq
 rcases hq with rfl | rfl | rfl | rfl | rfl | rfl <;> rfl
end Go.Proofs
