/- pollardref04.Spread: bytes put, a match taken. -/
import Derived.Test.YthnojgpobfpgeaaGreatDoorTRSpA
/-! pollardref04.Spread: bytes put, a match taken. -/
namespace Go.Proofs
open Go.RowKit Go.Ev Go.Lib
attribute [local go_sem] Oper.semAt_some

set_option maxHeartbeats 4000000 in
set_option maxRecDepth 1000000 in
/-- What stands for itself is put. -/
theorem ra2 {n c : Nat} {w0 : World} {T x out : List UInt8} {A : Act} {W : World} (hI : SpR [(10, .int .i64 (c : Int)), (11, sT x)] n w0 T out A W) (hc : c ≤ x.length) (hx : x.length ≤ 1000000) (hcn : out.length + c ≤ n) {Q : Exit → Act → World → Prop}
  (hQ : ∀ A' W', SpR [] n w0 (x.drop c) (out ++ x.take c) A' W' → Q .normal A' W') : wpL Tryz.prog [itemN L13b 5] Q A W := by
 obtain ⟨i0, hi, hz0, hz1, hz2⟩ := info_parts info71
 obtain ⟨⟨v, hF, hB⟩, hbut, hsz, hlen, hn⟩ := hI
 obtain ⟨f, rfl⟩ := fr5r hF
 obtain ⟨X, hXX⟩ : ∃ X : ByteArray, X = ⟨⟨x⟩⟩ := ⟨_, rfl⟩
 have hXs : X.size = x.length := by rw [hXX]; rfl
 have h1 : (c : Int) ≤ (X.size : Int) := by omega
 have h2 : ¬ (X.size : Int) < (c : Int) := by omega
 obtain ⟨Y, hY⟩ : ∃ Y : ByteArray, X.extract 0 c = Y := ⟨_, rfl⟩
 have hYl : Y.data.toList = x.take c := by
  rw [← hY, hXX, ByteArray.data_extract, Array.toList_extract, List.extract_eq_take_drop]; simp
 have hZl : (X.extract c X.size) = ⟨⟨x.drop c⟩⟩ := by
  apply ByteArray.ext
  rw [ByteArray.data_extract]
  apply Array.ext'
  rw [Array.toList_extract, List.extract_eq_take_drop, hXX]
  show List.take (x.length - c) (List.drop c x) = List.drop c x
  rw [List.take_of_length_le (by rw [List.length_drop]; omega)]
 have hYs : Y.size = c := by
  have : Y.data.toList.length = Y.size := by simp
  rw [← this, hYl, List.length_take]; omega
 have hlb : Hid (out.length + Y.size ≤ 140737488355328) := Lib.hid (by omega)
 have hB' := Lib.hid hB
 have hbut' := Lib.hid hbut
 have hQ' := Lib.hid hQ
 have hend : Hid ((x.drop c).length ≤ 1000000 ∧ (out ++ x.take c).length ≤ n ∧ n ≤ 1048576) := Lib.hid (by rw [List.length_drop, List.length_append, List.length_take]; omega)
 have hbase := Lib.hid hbut.size
 have hYl' := Lib.hid hYl
 have hZl' := Lib.hid hZl
 have hfx : sT x = .string X := by rw [hXX]
 rw [hfx]
 clear hF hB hbut hQ hlen hsz hn hcn hc hx hXX hXs hYl hYs hZl hfx
 refine wpL_lit (L' := [.region 13 _ true]) (by rfl) ?_
 simp only [wpL]
 refine wp_mono (Q := Nrm fun A' w' => ∃ v', Fr 122 A' [(6, .int .i64 (n : Int)), (7, .string (X.extract c X.size)), (9, v')] ∧ BytesF w' w0.heap.size 5 v' (out ++ Y.data.toList) ∧ W.grownBy w' v.ownBlock) ?_ ?_
 ·
  go_region_law (first
   | (with_reducible (show (if Region.wanted _ _ = true then Oper.wp _ (Oper.mk _ (Op.call { callee := Callee.builtin Builtin.append, args := _, argTypes := _ }) _ _ _ _) _ _ _ _ else _)); go_loud (refine step_append_text rfl (.tmp 50) (.tmp 53) 71 9 rfl w0.heap.size 5 i0 Tryz.underlying71 Tryz.underlying9 hi hz0 hz1 hz2 v out rfl (hB'.out.kept fun g hg => Sb.blk (show Sb W _ from by repeat (first | exact Sb.refl _ | apply Sb.drew | (refine Sb.trans ?_ (by assumption)))) g (hB'.out.lt g hg).2) Y rfl hlb.out (Nat.le_trans hbase.out (Sb.siz (show Sb W _ from by repeat (first | exact Sb.refl _ | apply Sb.drew | (refine Sb.trans ?_ (by assumption)))))) ?_); intro v' w1 hB1 hg1 hn1; have hB2 := Lib.hid hB1; have hg2 := Lib.hid ((Sb.grown (show Sb W _ from by repeat (first | exact Sb.refl _ | apply Sb.drew | (refine Sb.trans ?_ (by assumption)))) v.ownBlock).trans hg1); clear hB1 hg1 hn1)
   | (go_simp; go_wp2))
  all_goals
   refine ⟨v', ⟨rfl, rfl, fun p hp => ?_⟩, hB2.out, hg2.out⟩
   simp only [List.mem_cons, List.not_mem_nil, or_false] at hp
   rcases hp with rfl | rfl | rfl <;> rfl
 ·
  intro e A1 w1 h
  cases e with
  | normal =>
   obtain ⟨v', h1, h2, h3⟩ := h
   rw [hZl'.out] at h1
   rw [hYl'.out] at h2
   obtain ⟨e1, e2, e3⟩ := hend.out
   exact hQ'.out A1 w1 ⟨⟨v', h1, h2⟩, hbut'.out.grown h3 hbase.out (fun k hk => (hB'.out.lt k hk).1), e1, e2, e3⟩
  | _ => exact h.elim
end Go.Proofs

/-! pollardref04.Spread is spreadL. -/
namespace Go.Proofs
open Go.RowKit Go.Ev Go.Lib
attribute [local go_sem] Oper.semAt_some

theorem ra6_loop {n k m : Nat} {w0 : World} {T out : List UInt8} {A : Act} {W : World} (hI : SpI n k m 0 w0 T out A W) (hm : m ≤ 1048576) (hn : out.length ≤ 1048576) (h1 : 1 ≤ k) (h2 : k ≤ out.length) {Q : Exit → Act → World → Prop}
  (hQ : ∀ A' W', SpI n k m (m + 4) w0 T out A' W' → Q (.exit 2) A' W') : (Code.loop (loopB (itemN L13b 18))).wp Tryz.prog Q A W := by
 refine wp_loop_n (P := Tryz.prog) (b := loopB (itemN L13b 18)) (Q := Q) (I := fun j A' W' => ∃ i, j = m + 4 - i ∧ i ≤ m + 4 ∧ SpI n k m i w0 T out A' W') (fun j A' W' ⟨i, hj, hi, hI⟩ => ?_) (m + 4) A W ⟨0, rfl, Nat.zero_le _, hI⟩
 by_cases hlt : i < m + 4
 ·
  exact ra6_round hI hlt hm hn h1 h2 fun A1 W1 hI1 => ⟨m + 4 - (i + 1), by omega, i + 1, rfl, hlt, hI1⟩
 ·
  obtain rfl : i = m + 4 := by omega
  exact ra6_end hI hm fun A1 hI1 => hQ A1 W' hI1
set_option maxHeartbeats 4000000 in
set_option maxRecDepth 1000000 in
theorem ra6 {n k m : Nat} {w0 : World} {T out : List UInt8} {A : Act} {W : World} (hI : SpR [(13, .int .i64 (k : Int)), (14, .int .i64 (m : Int))] n w0 T out A W) (h : m + 4 ≤ n - out.length) (h1 : 1 ≤ k) (h2 : k ≤ out.length) {Q : Exit → Act → World → Prop}
  (hQ : ∀ A' W', SpR [] n w0 T (repS k (m + 4) out) A' W' → Q .normal A' W') : wpL Tryz.prog [itemN L13b 17, itemN L13b 18] Q A W := by
 obtain ⟨⟨v, hF, hB⟩, hbut, hsz, hlen, hn⟩ := hI
 obtain ⟨f, rfl⟩ := fr5s hF
 have hK := Lib.hid (And.intro hB (And.intro hbut (And.intro hsz (And.intro hlen hn))))
 have hQ' := Lib.hid hQ
 have hm : m ≤ 1048576 := by omega
 have ho : out.length ≤ 1048576 := by omega
 have hend : (repS k (m + 4) out).length ≤ n := by rw [repS_len]; omega
 clear hF hB hbut hsz hlen hQ
 refine wpL_lit (L' := [.region 24 _ _, itemN L13b 18]) (by rfl) ?_
 simp only [wpL]
 go_wp2
 obtain ⟨hB, hbut, hsz, hlen, hn⟩ := hK.out
 rw [loop_eq id13b]
 refine wp_block ?_
 refine ra6_loop (n := n) (k := k) (m := m) (w0 := w0) (T := T) (out := out) ⟨⟨v, ⟨rfl, rfl, fun q hq => ?_⟩, hB⟩, hbut⟩ hm ho h1 h2 fun A1 W1 hI1 => ?_
 ·
  simp only [List.mem_cons, List.not_mem_nil, or_false] at hq
  rcases hq with rfl | rfl | rfl | rfl | rfl | rfl <;> rfl
 ·
  obtain ⟨⟨v', hF1, hB1⟩, hbut1⟩ := hI1
  refine hQ'.out A1 W1 ⟨⟨v', ⟨hF1.1, hF1.2.1, fun q hq => hF1.2.2 q ?_⟩, hB1⟩, hbut1, hsz, hend, hn⟩
  simp only [List.mem_cons, List.not_mem_nil, or_false] at hq ⊢
  rcases hq with rfl | rfl | rfl <;> simp

set_option maxHeartbeats 4000000 in
set_option maxRecDepth 1000000 in
theorem rh_exit {n : Nat} {w0 : World} {T out : List UInt8} {A : Act} {W : World} (hI : SpR [] n w0 T out A W) (hl : ¬ out.length < n) {Q : Exit → Act → World → Prop}
  (hQ : ∀ A' W', SpR [] n w0 T out A' W' → Q (.exit 0) A' W') : wpL Tryz.prog [itemN L13a 0, itemN L13a 1, itemN L13a 2] Q A W := by
 obtain ⟨⟨v, hF, hB⟩, hbut, hsz, hlen, hn⟩ := hI
 obtain ⟨f, rfl⟩ := fr679 hF
 obtain ⟨a, cap, rfl, hcap⟩ := hB.len
 have hl' : ¬ (out.length : Int) < (n : Int) := by omega
 have hK := Lib.hid (And.intro hB (And.intro hbut (And.intro hsz (And.intro hlen hn))))
 have hQ' := Lib.hid hQ
 clear hF hB hbut hsz hlen hn hQ
 refine wpL_lit (L' := [.region 7 _ _, .cond _ _ _, itemN L13a 2]) (by rfl) ?_
 simp only [wpL]
 go_wp2
 obtain ⟨hB, hbut, hsz, hlen, hn⟩ := hK.out
 refine hQ'.out _ _ ⟨⟨_, ⟨rfl, rfl, fun q hq => ?_⟩, hB⟩, hbut, hsz, hlen, hn⟩
 simp only [List.mem_cons, List.not_mem_nil, or_false] at hq
 rcases hq with rfl | rfl | rfl <;> rfl
set_option maxHeartbeats 4000000 in
set_option maxRecDepth 1000000 in
theorem rh_go {n : Nat} {w0 : World} {T out : List UInt8} {A : Act} {W : World} (hI : SpR [] n w0 T out A W) (hl : out.length < n) {Q : Exit → Act → World → Prop}
  (hQ : ∀ A' W', SpR [] n w0 T out A' W' → (itemN L13a 2).wp Tryz.prog Q A' W') : wpL Tryz.prog [itemN L13a 0, itemN L13a 1, itemN L13a 2] Q A W := by
 obtain ⟨⟨v, hF, hB⟩, hbut, hsz, hlen, hn⟩ := hI
 obtain ⟨f, rfl⟩ := fr679 hF
 obtain ⟨a, cap, rfl, hcap⟩ := hB.len
 have hl' : (out.length : Int) < (n : Int) := by omega
 have hK := Lib.hid (And.intro hB (And.intro hbut (And.intro hsz (And.intro hlen hn))))
 have hQ' := Lib.hid hQ
 clear hF hB hbut hsz hlen hn hQ
 refine wpL_lit (L' := [.region 7 _ _, .cond _ _ _, itemN L13a 2]) (by rfl) ?_
 simp only [wpL]
 go_wp2
 obtain ⟨hB, hbut, hsz, hlen, hn⟩ := hK.out
 refine wp_mono (hQ'.out _ _ ?_) fun e a w h => ?_
 ·
  refine ⟨⟨_, ⟨rfl, rfl, fun q hq => ?_⟩, hB⟩, hbut, hsz, hlen, hn⟩
  simp only [List.mem_cons, List.not_mem_nil, or_false] at hq
  rcases hq with rfl | rfl | rfl <;> rfl
 ·
  cases e <;> exact h

theorem round_rs {n k : Nat} {w0 : World} {T out : List UInt8} {R : Option (List UInt8)} {E : Int} {A : Act} {W : World} (hI : SpR [] n w0 T out A W) (hf : n - out.length < k) (hR : spreadR n k T out = R) (hE : spreadE n k T out = E) {Q : Exit → Act → World → Prop}
  (hX : ∀ A' W' T' out', SpR [] n w0 T' out' A' W' → (R = if T' = [] then some out' else none) → E = 5 → Q (.exit 0) A' W')
  (hB : ∀ A' W', RBad w0 E A' W' → R = none → Q .ret A' W')
  (hN : ∀ A' W' T' out' k', SpR [] n w0 T' out' A' W' → n - out'.length < k' → spreadR n k' T' out' = R → spreadE n k' T' out' = E → k' < k → Q .normal A' W') : (loopB (itemN L13 7)).wp Tryz.prog Q A W := by
 refine wpL_codes ?_
 refine wpL_lit (L' := [itemN L13a 0, itemN L13a 1, itemN L13a 2]) (by rfl) ?_
 obtain ⟨f, rfl⟩ : ∃ f', k = f' + 1 := ⟨k - 1, by omega⟩
 by_cases hlt : out.length < n
 ·
  have hlt2 : ¬ n ≤ out.length := by omega
  refine rh_go hI hlt fun A1 W1 hI1 => ?_
  rw [blk13]
  refine wp_block (wpL_codes ?_)
  refine wpL_lit (L' := [itemN L13b 0, itemN L13b 1, itemN L13b 2, itemN L13b 3, itemN L13b 4] ++ ([itemN L13b 5] ++ ([itemN L13b 6, itemN L13b 7] ++ ([itemN L13b 8, itemN L13b 9, itemN L13b 10, itemN L13b 11, itemN L13b 12, itemN L13b 13] ++ ([itemN L13b 14, itemN L13b 15, itemN L13b 16] ++ [itemN L13b 17, itemN L13b 18]))))) (by rfl) ?_
  refine wpL_app _ _ _ _ ?_
  unfold spreadR at hR
  unfold spreadE at hE
  rw [if_neg hlt2] at hR hE
  cases h1 : takS T (n - out.length) with
  | none =>
   rw [h1] at hR hE
   exact ra1_bad hI1 (.inl ⟨h1, hE⟩) fun A2 W2 hb => hB A2 W2 hb hR.symm
  | some p =>
   obtain ⟨c, t1⟩ := p
   rw [h1] at hR hE
   dsimp only at hR hE
   by_cases h2 : t1.length < c
   ·
    rw [if_pos h2] at hR hE
    exact ra1_bad hI1 (.inr ⟨c, t1, h1, h2, hE⟩) fun A2 W2 hb => hB A2 W2 hb hR.symm
   ·
    rw [if_neg h2] at hR hE
    have hc1 := takS_le h1
    have ht1 : t1.length ≤ 1000000 := Nat.le_trans (takS_len h1) hI.sz
    refine ra1_ok hI1 h1 (by omega) fun A2 W2 hI2 => ?_
    show wpL Tryz.prog _ _ A2 W2
    refine wpL_app _ _ _ _ (ra2 hI2 (by omega) ht1 (by omega) fun A3 W3 hI3 => ?_)
    show wpL Tryz.prog _ _ A3 W3
    refine wpL_app _ _ _ _ ?_
    by_cases hl : (out ++ t1.take c).length = n
    ·
     rw [if_pos hl] at hR hE
     exact ra3_end hI3 hl fun A4 W4 hI4 => hX A4 W4 _ _ hI4 hR.symm hE.symm
    ·
     rw [if_neg hl] at hR hE
     refine ra3_go hI3 hl fun A4 W4 hI4 => ?_
     show wpL Tryz.prog _ _ A4 W4
     refine wpL_app _ _ _ _ ?_
     cases h3 : takS (t1.drop c) 32768 with
     | none =>
      rw [h3] at hR hE
      exact ra4_bad1 hI4 h3 hE fun A5 W5 hb => hB A5 W5 hb hR.symm
     | some p =>
      obtain ⟨kk, t3⟩ := p
      rw [h3] at hR hE
      dsimp only at hR hE
      cases h4 : takS t3 (n - (out ++ t1.take c).length) with
      | none =>
       rw [h4] at hR hE
       exact ra4_bad2 hI4 h3 h4 hE fun A5 W5 hb => hB A5 W5 hb hR.symm
      | some p =>
       obtain ⟨m, t4⟩ := p
       rw [h4] at hR hE
       dsimp only at hR hE
       have hm := takS_le h4
       have hn := hI.n
       have ht4 : t4.length ≤ 1000000 := Nat.le_trans (takS_len h4) (Nat.le_trans (takS_len h3) (by rw [List.length_drop]; omega))
       refine ra4_ok hI4 h3 h4 fun A5 W5 hI5 => ?_
       show wpL Tryz.prog _ _ A5 W5
       refine wpL_app _ _ _ _ ?_
       by_cases hg : m + 4 ≤ n - (out ++ t1.take c).length ∧ 1 ≤ kk ∧ kk ≤ (out ++ t1.take c).length
       ·
        rw [if_pos hg] at hR hE
        refine ra5_ok hI5 ht4 hg.1 hg.2.1 hg.2.2 fun A6 W6 hI6 => ?_
        show wpL Tryz.prog _ _ A6 W6
        refine ra6 hI6 hg.1 hg.2.1 hg.2.2 fun A7 W7 hI7 => ?_
        refine hN A7 W7 _ _ f hI7 ?_ hR hE (by omega)
        rw [repS_len, List.length_append]
        omega
       ·
        rw [if_neg hg] at hR hE
        subst hE
        exact ra5_bad hI5 (by omega) hg fun A6 W6 hb => hB A6 W6 hb hR.symm
 ·
  unfold spreadR at hR
  unfold spreadE at hE
  rw [if_pos (by omega)] at hR hE
  exact rh_exit hI hlt fun A' W' h => hX A' W' _ _ h hR.symm hE.symm

theorem loop_rs {n k : Nat} {w0 : World} {T out : List UInt8} {R : Option (List UInt8)} {E : Int} {A : Act} {W : World} (hI : SpR [] n w0 T out A W) (hf : n - out.length < k) (hR : spreadR n k T out = R) (hE : spreadE n k T out = E) {Q : Exit → Act → World → Prop}
  (hX : ∀ A' W' T' out', SpR [] n w0 T' out' A' W' → (R = if T' = [] then some out' else none) → E = 5 → Q (.exit 0) A' W')
  (hB : ∀ A' W', RBad w0 E A' W' → R = none → Q .ret A' W') : (Code.loop (loopB (itemN L13 7))).wp Tryz.prog Q A W := by
 refine wp_loop_n (P := Tryz.prog) (b := loopB (itemN L13 7)) (Q := Q) (I := fun j A' W' => ∃ T out, SpR [] n w0 T out A' W' ∧ n - out.length < j ∧ spreadR n j T out = R ∧ spreadE n j T out = E) (fun j A' W' ⟨T, out, hI, hf, hR, hE⟩ => ?_) k A W ⟨T, out, hI, hf, hR, hE⟩
 exact round_rs hI hf hR hE (fun A1 W1 T1 out1 h1 h2 h3 => hX A1 W1 T1 out1 h1 h2 h3) (fun A1 W1 h1 h2 => hB A1 W1 h1 h2) fun A1 W1 T1 out1 k1 h1 h2 h3 h5 h4 => ⟨k1, h4, T1, out1, h1, h2, h3, h5⟩
end Go.Proofs

/-! pollardref04.Spread: what it answers. -/
namespace Go.Proofs
open Go.RowKit Go.Ev Go.Lib
attribute [local go_sem] Oper.semAt_some

theorem ret_bad {p : List UInt8} {most : Nat} {w0 : World} {A : Act} {W : World} {E : Int} (h : RBad w0 E A W) (hS : spreadL p most = none) (hE : sprE p most = E) : bodyPost Tryz.prog Tryz.f13 (fun r w' => SprP p most r ∧ Below w0.heap.size w0 w') .ret A W := by
 obtain ⟨⟨hsz, hd, hsl⟩, hb⟩ := h
 have h4 := hsl (4, .string ⟨#[]⟩) (by simp)
 have h5 := hsl (5, .int .i64 E) (by simp)
 clear hsl
 obtain ⟨f, rfl⟩ := lit122 hsz hd
 replace h4 : f 4 = .string ⟨#[]⟩ := h4
 replace h5 : f 5 = .int .i64 E := h5
 rw [h4, h5]
 go_ret2
 exact ⟨spr_none hS hE, hb⟩

set_option maxHeartbeats 4000000 in
set_option maxRecDepth 1000000 in
theorem rspread_calls {p : ByteArray} {most : Nat} (hp : p.size ≤ 1000000) (w : World) :
  Calls Tryz.prog 13 #[.string p, .int .i64 (most : Int)] w fun r w' => SprP p.data.toList most r ∧ Below w.heap.size w w' := by
 have hbody : Tryz.f13.body = some (Tryz.f13.body.getD .skip) := by kernel_rfl
 refine calls_of_wp Tryz.func13 hbody (wpL_codes ?_)
 obtain ⟨hsz, hd, hsl⟩ := fr_enter (args := [.string p, .int .i64 (most : Int)]) (l := [(0, .string p), (1, .int .i64 (most : Int))]) Tryz.ntmps13 (by simp) (fun q hq => by
  simp only [List.mem_cons, List.not_mem_nil, or_false] at hq
  rcases hq with rfl | rfl <;> rfl)
 generalize hA : (⟨(⟨[.string p, .int .i64 (most : Int)]⟩ : Array Value) ++ Array.replicate (Tryz.f13.ntmps - (⟨[.string p, .int .i64 (most : Int)]⟩ : Array Value).size) undef, []⟩ : Act) = A at *
 clear hA
 have h0 := hsl (0, .string p) (by simp)
 have h1 := hsl (1, .int .i64 (most : Int)) (by simp)
 clear hsl
 obtain ⟨f, rfl⟩ := lit122 hsz hd
 replace h0 : f 0 = .string p := h0
 replace h1 : f 1 = .int .i64 (most : Int) := h1
 rw [h0, h1]
 clear h0 h1 hsz hd
 have hpl : p.data.toList.length ≤ 1000000 := by simpa using hp
 cases ht : takS p.data.toList 1048576 with
 | none =>
  have hS : Hid (spreadL p.data.toList most = none) := Lib.hid (by unfold spreadL; rw [ht])
  have hSE : Hid (sprE p.data.toList most = numE p.data.toList) := Lib.hid (by unfold sprE; rw [ht])
  have hE0 : ¬ numE p.data.toList = 0 := numE_ne _
  have hnum : Hid (∀ w, Calls Tryz.prog 39 #[.string p, .int .i64 ((1048576 : Nat) : Int)] w _) := Lib.hid (rnum_none hpl (by decide) ht)
  generalize numE p.data.toList = E at hSE hE0 hnum
  clear ht
  refine wpL_lit (L' := [_, _, _, _, _, _, _, itemN L13 7, _, _, _, _]) (by rfl) ?_
  simp only [wpL]
  go_wp2_with (go_at_call 39; refine (hnum.out _).mono ?_; rintro r w1 ⟨⟨c, X, rfl⟩, hb⟩; have hb' := Lib.hid hb; clear hb)
  go_ret2
  exact ⟨spr_none hS.out hSE.out, hb'.out⟩
 | some q =>
  obtain ⟨n, t⟩ := q
  have hn := takS_le ht
  have htl := takS_len ht
  have hnum : Hid (∀ w, Calls Tryz.prog 39 #[.string p, .int .i64 ((1048576 : Nat) : Int)] w _) := Lib.hid (rnum_some hpl (by decide) ht)
  by_cases hmn : most < n
  ·
   have hmn' : (most : Int) < (n : Int) := by omega
   have hS : Hid (spreadL p.data.toList most = none) := Lib.hid (by unfold spreadL; rw [ht]; exact if_pos hmn)
   have hSE : Hid (sprE p.data.toList most = 3) := Lib.hid (by unfold sprE; rw [ht]; exact if_pos hmn)
   clear ht
   refine wpL_lit (L' := [_, _, _, _, _, _, _, itemN L13 7, _, _, _, _]) (by rfl) ?_
   simp only [wpL]
   go_wp2_with (go_at_call 39; refine (hnum.out _).mono ?_; rintro r w1 ⟨rfl, hb⟩; have hb' := Lib.hid hb; clear hb)
   go_ret2
   exact ⟨spr_none hS.out hSE.out, hb'.out⟩
  ·
   have hmn' : ¬ (most : Int) < (n : Int) := by omega
   have hS : Hid (spreadL p.data.toList most = spreadR n (n + 1) t []) := Lib.hid (by unfold spreadL; rw [ht]; exact if_neg hmn)
   have hSE : Hid (sprE p.data.toList most = spreadE n (n + 1) t []) := Lib.hid (by unfold sprE; rw [ht]; exact if_neg hmn)
   have htl2 := Lib.hid (Nat.le_trans htl hpl)
   clear ht htl hpl
   refine wpL_lit (L' := [_, _, _, _, _, _, _, itemN L13 7, _, _, _, _]) (by rfl) ?_
   simp only [wpL]
   go_wp2_with (go_at_call 39; refine (hnum.out _).mono ?_; rintro r w1 ⟨rfl, hb⟩; have hb' := Lib.hid hb; clear hb)
   rw [loop_eq id13]
   refine wp_block ?_
   have hbel := hb'.out
   have hws := Below.size hbel
   refine loop_rs (n := n) (k := n + 1) (w0 := w) (T := t) (out := []) (R := spreadR n (n + 1) t []) (E := spreadE n (n + 1) t []) ⟨⟨.slice (some ⟨w1.heap.size, 0, none⟩) 0 0, ⟨rfl, rfl, fun q hq => ?_⟩, .inr ⟨w1.heap.size, 0, 0, #[], rfl, hws, ⟨(0, 0), NoFr.zero _, heap_alloc_new w1 _⟩, Nat.le_refl _, Nat.zero_le _, ⟨Nat.le_refl _, fun h => absurd h (Nat.lt_irrefl _)⟩, rfl⟩⟩, hbel.alloc hws _, htl2.out, Nat.zero_le _, hn⟩ (by simp) rfl rfl (fun A2 W2 T2 out2 hI2 hD2 hE2 => ?_) fun A2 W2 hb2 hRn => ?_
   ·
    simp only [List.mem_cons, List.not_mem_nil, or_false] at hq
    rcases hq with rfl | rfl | rfl <;> rfl
   ·
    rw [← hS.out] at hD2
    rw [← hSE.out] at hE2
    have hE2' := Lib.hid hE2
    clear hE2
    obtain ⟨⟨v2, hF2, hB2⟩, hbut2, _, _, _⟩ := hI2
    obtain ⟨f2, rfl⟩ := fr679 hF2
    have hcv := convF_back hB2
    have hbut2' := Lib.hid hbut2
    clear hF2 hB2 hbut2 hbel hws
    by_cases hT : T2 = []
    ·
     subst hT
     rw [if_pos rfl] at hD2
     have hR2' := Lib.hid hD2
     clear hD2
     dsimp only
     go_wp2
     go_ret2
     exact ⟨spr_some hR2'.out, hbut2'.out⟩
    ·
     rw [if_neg hT] at hD2
     obtain ⟨X, hX⟩ : ∃ X : ByteArray, X = ⟨⟨T2⟩⟩ := ⟨_, rfl⟩
     have hTe : X.toList.isEmpty = false := by
      rw [ByteArray.toList_eq, hX]
      cases hl : T2 with
      | nil => exact absurd hl hT
      | cons _ _ => rfl
     have hfx : sT T2 = .string X := by rw [hX]
     rw [hfx]
     have hR2' := Lib.hid hD2
     clear hD2 hT hX hfx
     dsimp only
     go_wp2
     go_ret2
     exact ⟨spr_none hR2'.out hE2'.out, hbut2'.out⟩
   ·
    rw [← hS.out] at hRn
    exact ret_bad hb2 hRn hSE.out
end Go.Proofs
