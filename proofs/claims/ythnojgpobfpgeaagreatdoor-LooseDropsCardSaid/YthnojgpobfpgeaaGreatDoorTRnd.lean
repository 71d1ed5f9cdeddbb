/- One round of Press. -/
import Derived.Test.YthnojgpobfpgeaaGreatDoorTMid
namespace Go.Proofs
open Go.Ev Go.RowKit Go.Lib
attribute [local go_sem] Oper.semAt_some
structure InvLz (s : ByteArray) (m base : Nat) (w0 : World) (fr a : Nat) (A : Act) (W : World) : Prop where
 st : ∃ vout out, Fr 90 A [(0, .string s), (4, vout), (5, .map (some m)), (6, .int .i64 (fr : Int)), (7, .int .i64 (a : Int))] /\ BytesF W base 5 vout out /\ out.length <= 2 + 8 * fr /\ vout.ownBlock ≠ some m /\
  out ++ pressR s.data.toList s.data.toList.length fr a = pressL s.data.toList
 le : fr <= a /\ a <= s.size
 own : W.ownsMap Tryz.prog 9 (plainElem (H := Unit) Tryz.prog 3) m a (lastD s a)
 bm : base <= m
 but : Below base w0 W
theorem fr7 {A : Act} {s : ByteArray} {vout : Value} {m fr a : Nat} (h : Fr 90 A [(0, .string s), (4, vout), (5, .map (some m)), (6, .int .i64 (fr : Int)), (7, .int .i64 (a : Int))]) :
  ∃ f : Nat -> Value, A = ⟨#[.string s, f 1, f 2, f 3, vout, .map (some m), .int .i64 (fr : Int), .int .i64 (a : Int), f 8, f 9, f 10, f 11, f 12, f 13, f 14, f 15, f 16, f 17, f 18, f 19, f 20, f 21, f 22, f 23, f 24, f 25, f 26, f 27, f 28, f 29, f 30, f 31, f 32, f 33, f 34, f 35, f 36, f 37, f 38, f 39, f 40, f 41, f 42, f 43, f 44, f 45, f 46, f 47, f 48, f 49, f 50, f 51, f 52, f 53, f 54, f 55, f 56, f 57, f 58, f 59, f 60, f 61, f 62, f 63, f 64, f 65, f 66, f 67, f 68, f 69, f 70, f 71, f 72, f 73, f 74, f 75, f 76, f 77, f 78, f 79, f 80, f 81, f 82, f 83, f 84, f 85, f 86, f 87, f 88, f 89], []⟩ := by
 obtain ⟨hsz, hd, hsl⟩ := h
 have h0 := hsl (0, .string s) (by simp)
 have h4 := hsl (4, vout) (by simp)
 have h5 := hsl (5, .map (some m)) (by simp)
 have h6 := hsl (6, .int .i64 (fr : Int)) (by simp)
 have h7 := hsl (7, .int .i64 (a : Int)) (by simp)
 clear hsl
 obtain ⟨f, rfl⟩ := lit90 hsz hd
 replace h0 : f 0 = .string s := h0
 replace h4 : f 4 = vout := h4
 replace h5 : f 5 = .map (some m) := h5
 replace h6 : f 6 = .int .i64 (fr : Int) := h6
 replace h7 : f 7 = .int .i64 (a : Int) := h7
 exact ⟨f, by rw [h0, h4, h5, h6, h7]⟩
theorem find_no {s : ByteArray} (hs : s.size <= 1000) {a : Nat} (ha : a <= s.size) (hl : (if a + 4 <= s.size then lastL s.data.toList (cutL s.data.toList a 4) a else none) = none) (m : Nat) (w : World)
  (hm : w.ownsMap Tryz.prog 9 (plainElem (H := Unit) Tryz.prog 3) m a (lastD s a)) :
  Calls Tryz.prog 65 #[.map (some m), .string s, .int .i64 (a : Int)] w fun e w' => (∃ n : Nat, e = .returned (.tuple #[.int .i64 0, .int .i64 (n : Int)])) /\ ∃ n, w' = w.drewN n := by
 refine (find_calls hs ha m w hm).mono ?_
 rintro e w' ⟨b, n, rfl, hF, nd, rfl⟩
 unfold Fnd at hF
 rw [hl] at hF
 have : b = 0 := hF
 subst this
 exact ⟨⟨n, rfl⟩, nd, rfl⟩
theorem note_one {s : ByteArray} (hs : s.size <= 1000) {a : Nat} (hb : a < s.size) (m : Nat) (w : World)
  (hm : w.ownsMap Tryz.prog 9 (plainElem (H := Unit) Tryz.prog 3) m a (lastD s a)) :
  Calls Tryz.prog 66 #[.map (some m), .string s, .int .i64 (a : Int), .int .i64 ((a : Int) + 1)] w fun e w' => (∃ v, e = .returned v) /\ w'.ownsMap Tryz.prog 9 (plainElem (H := Unit) Tryz.prog 3) m (a + 1) (lastD s (a + 1)) /\ w.grownBy w' (some m) :=
 note_calls hs (Nat.le_succ a) hb m w hm
theorem below_grown {B : Nat} {w0 W W' : World} {row : Option Nat} (h : Below B w0 W) (g : W.grownBy W' row) (hB : ∀ k, row = some k -> B <= k) (hs : B <= W.heap.size) : Below B w0 W' :=
 h.grown g hs hB
set_option maxHeartbeats 2000000 in
set_option maxRecDepth 1000000 in
theorem round_end {s : ByteArray} {m base fr a : Nat} {w0 : World} {A : Act} {W : World} (hs : s.size <= 1000) (hI : InvLz s m base w0 fr a A W) (hge : ¬ a < s.size) {Q : Exit -> Act -> World -> Prop}
  (hQ : ∀ A', InvLz s m base w0 fr a A' W -> Q (.exit 0) A' W) : (loopB (itemN L28 6)).wp Tryz.prog Q A W := by
 refine wpL_codes ?_
 obtain ⟨⟨vout, out, hF, hB, hol, hne, hout⟩, hle, hown, hbm, hbut⟩ := hI
 obtain ⟨f, rfl⟩ := fr7 hF
 have hK := Lib.hid (And.intro hB (And.intro hol (And.intro hne (And.intro hout (And.intro hle (And.intro hown (And.intro hbm hbut)))))))
 have ha : a <= 1000 := by omega
 clear hF hB hol hne hout hle hown hbm hbut
 have hQ' := Lib.hid hQ
 clear hQ
 have hge' : ¬ (a : Int) < (s.size : Int) := by omega
 refine wpL_lit (L' := [_, _, itemN L28a 2]) (by rfl) ?_
 simp only [wpL]
 go_wp2
 obtain ⟨h1, h2, h3, h4, h5, h6, h7, h8⟩ := hK.out
 refine hQ'.out _ ⟨⟨vout, out, ⟨rfl, rfl, fun p hp => ?_⟩, h1, h2, h3, h4⟩, h5, h6, h7, h8⟩
 simp only [List.mem_cons, List.not_mem_nil, or_false] at hp
 rcases hp with rfl | rfl | rfl | rfl | rfl <;> rfl
set_option maxHeartbeats 2000000 in
set_option maxRecDepth 1000000 in
theorem round_none {s : ByteArray} {m base fr a : Nat} {w0 : World} {A : Act} {W : World} (hs : s.size <= 1000) (hI : InvLz s m base w0 fr a A W) (hlt : a < s.size)
  (hl : (if a + 4 <= s.size then lastL s.data.toList (cutL s.data.toList a 4) a else none) = none) {Q : Exit -> Act -> World -> Prop}
  (hQ : ∀ A' W', InvLz s m base w0 fr (a + 1) A' W' -> Q .normal A' W') : (loopB (itemN L28 6)).wp Tryz.prog Q A W := by
 refine wpL_codes ?_
 obtain ⟨⟨vout, out, hF, hB, hol, hne, hout⟩, hle, hown, hbm, hbut⟩ := hI
 obtain ⟨f, rfl⟩ := fr7 hF
 have hout2 : out ++ pressR s.data.toList s.data.toList.length fr (a + 1) = pressL s.data.toList := by
  rw [<- hout]
  congr 1
  have hsl : s.data.toList.length = s.size := by simp
  rw [pressR_more s.data.toList s.data.toList.length (s.data.toList.length + 1) fr a (by omega) (by omega)]
  conv => rhs; unfold pressR
  rw [if_neg (by omega), hsl, hl]
 have hK := Lib.hid (And.intro hB (And.intro hol (And.intro hne (And.intro hout2 (And.intro hle (And.intro hown (And.intro hbm hbut)))))))
 have hfd := Lib.hid (fun W' h => find_no hs hle.2 hl m W' h)
 have hnt := Lib.hid (fun W' h => note_one hs hlt m W' h)
 have ha : a <= 1000 := by omega
 have hown' := Lib.hid hown
 clear hF hB hol hne hout hle hown hbm hbut hout2 hl
 have hQ' := Lib.hid hQ
 clear hQ
 have hlt' : (a : Int) < (s.size : Int) := by omega
 refine wpL_lit (L' := [_, _, _]) (by rfl) ?_
 simp only [wpL]
 go_wp2_with (first
  | (go_at_call 65; refine (hfd.out _ hown'.out).mono ?_; rintro e w' ⟨⟨n, rfl⟩, nd, rfl⟩)
  | (go_at_call 66; refine (hnt.out _ (by exact hown'.out)).mono ?_; rintro e w' ⟨⟨v, rfl⟩, ho, hg⟩; have ho' := Lib.hid ho; have hg' := Lib.hid hg; clear ho hg))
 obtain ⟨h1, h2, h3, h4, h5, h6, h7, h8⟩ := hK.out
 have hgw : W.grownBy w' (some m) := ⟨hg'.out.os, hg'.out.tape, hg'.out.output, hg'.out.size, hg'.out.block⟩
 refine hQ'.out _ _ ⟨⟨vout, out, ⟨rfl, rfl, fun p hp => ?_⟩, h1.kept fun g hg => hgw.block g (h1.lt g hg).2 (fun e => h3 (by rw [hg, e])), h2, h3, h4⟩, ⟨by omega, by omega⟩, ho'.out, h7, below_grown h8 hgw (fun k hk => by cases hk; exact h7) (by have := h6.lt; omega)⟩
 simp only [List.mem_cons, List.not_mem_nil, or_false] at hp
 rcases hp with rfl | rfl | rfl | rfl | rfl <;> rfl
end Go.Proofs
namespace Go.Proofs
open Go.Ev Go.RowKit Go.Lib
attribute [local go_sem] Oper.semAt_some
theorem mid11w {s : ByteArray} {fr a b n m base : Nat} {out : List UInt8} {vout : Value} {w : World} {A : Act} (hs : s.size <= 1000) (hfa : fr <= a) (ha : a <= s.size) (hb : b <= 1000) (hn4 : 4 <= n) (hn : n <= 1000)
  (hB : BytesF w base 5 vout out) (hol : out.length <= 100000) (hbase : base <= w.heap.size)
  (hF : Fr 90 A [(0, .string s), (4, vout), (5, .map (some m)), (6, .int .i64 (fr : Int)), (7, .int .i64 (a : Int)), (8, .int .i64 (b : Int)), (9, .int .i64 (n : Int))]) {K : Act -> World -> Prop} {Q : Exit -> Act -> World -> Prop}
  (hQ : ∀ A' w' v', Fr 90 A' [(0, .string s), (4, v'), (5, .map (some m)), (6, .int .i64 (fr : Int)), (7, .int .i64 (a : Int)), (8, .int .i64 (b : Int)), (9, .int .i64 (n : Int))] ->
   BytesF w' base 5 v' (out ++ (numL (a - fr) ++ cutL s.data.toList fr (a - fr) ++ numL b ++ numL (n - 4))) -> w.grownBy w' vout.ownBlock -> (∀ g, v'.ownBlock = some g -> vout.ownBlock = some g \/ w.heap.size <= g) -> K A' w') :
  (itemN L28b 3).wp Tryz.prog (Exit.then K Q) A w := by
 have h := mid11 (Q := Exit.then K Q) hs hfa ha hb hn4 hn hB hol hbase hF hQ
 refine wp_mono (show (itemN L28b 3).wp Tryz.prog (Exit.then (wpL Tryz.prog [] (Exit.then K Q)) (Exit.then K Q)) A w from h) ?_
 intro e a1 w1 h1
 cases e <;> exact h1
theorem fr9 {A : Act} {s : ByteArray} {vout : Value} {m fr a b n : Nat} (h : Fr 90 A [(0, .string s), (4, vout), (5, .map (some m)), (6, .int .i64 (fr : Int)), (7, .int .i64 (a : Int)), (8, .int .i64 (b : Int)), (9, .int .i64 (n : Int))]) :
  ∃ f : Nat -> Value, A = ⟨#[.string s, f 1, f 2, f 3, vout, .map (some m), .int .i64 (fr : Int), .int .i64 (a : Int), .int .i64 (b : Int), .int .i64 (n : Int), f 10, f 11, f 12, f 13, f 14, f 15, f 16, f 17, f 18, f 19, f 20, f 21, f 22, f 23, f 24, f 25, f 26, f 27, f 28, f 29, f 30, f 31, f 32, f 33, f 34, f 35, f 36, f 37, f 38, f 39, f 40, f 41, f 42, f 43, f 44, f 45, f 46, f 47, f 48, f 49, f 50, f 51, f 52, f 53, f 54, f 55, f 56, f 57, f 58, f 59, f 60, f 61, f 62, f 63, f 64, f 65, f 66, f 67, f 68, f 69, f 70, f 71, f 72, f 73, f 74, f 75, f 76, f 77, f 78, f 79, f 80, f 81, f 82, f 83, f 84, f 85, f 86, f 87, f 88, f 89], []⟩ := by
 obtain ⟨hsz, hd, hsl⟩ := h
 have h0 := hsl (0, .string s) (by simp)
 have h4 := hsl (4, vout) (by simp)
 have h5 := hsl (5, .map (some m)) (by simp)
 have h6 := hsl (6, .int .i64 (fr : Int)) (by simp)
 have h7 := hsl (7, .int .i64 (a : Int)) (by simp)
 have h8 := hsl (8, .int .i64 (b : Int)) (by simp)
 have h9 := hsl (9, .int .i64 (n : Int)) (by simp)
 clear hsl
 obtain ⟨f, rfl⟩ := lit90 hsz hd
 replace h0 : f 0 = .string s := h0
 replace h4 : f 4 = vout := h4
 replace h5 : f 5 = .map (some m) := h5
 replace h6 : f 6 = .int .i64 (fr : Int) := h6
 replace h7 : f 7 = .int .i64 (a : Int) := h7
 replace h8 : f 8 = .int .i64 (b : Int) := h8
 replace h9 : f 9 = .int .i64 (n : Int) := h9
 exact ⟨f, by rw [h0, h4, h5, h6, h7, h8, h9]⟩
theorem find_yes {s : ByteArray} (hs : s.size <= 1000) {a k : Nat} (ha : a <= s.size) (hl : (if a + 4 <= s.size then lastL s.data.toList (cutL s.data.toList a 4) a else none) = some k) (m : Nat) (w : World)
  (hm : w.ownsMap Tryz.prog 9 (plainElem (H := Unit) Tryz.prog 3) m a (lastD s a)) :
  Calls Tryz.prog 65 #[.map (some m), .string s, .int .i64 (a : Int)] w fun e w' => e = .returned (.tuple #[.int .i64 ((a - k : Nat) : Int), .int .i64 ((sameL s.data.toList s.data.toList a k s.data.toList.length 4 : Nat) : Int)]) /\ ∃ n, w' = w.drewN n := by
 refine (find_calls hs ha m w hm).mono ?_
 rintro e w' ⟨b, n, rfl, hF, nd, rfl⟩
 unfold Fnd at hF
 rw [hl] at hF
 obtain ⟨rfl, rfl⟩ : b = a - k /\ n = sameL s.data.toList s.data.toList a k s.data.toList.length 4 := hF
 exact ⟨rfl, nd, rfl⟩
theorem note_many {s : ByteArray} (hs : s.size <= 1000) {a n : Nat} (hb : a + n <= s.size) (m : Nat) (w : World)
  (hm : w.ownsMap Tryz.prog 9 (plainElem (H := Unit) Tryz.prog 3) m a (lastD s a)) :
  Calls Tryz.prog 66 #[.map (some m), .string s, .int .i64 (a : Int), .int .i64 ((a : Int) + (n : Int))] w fun e w' => (∃ v, e = .returned v) /\ w'.ownsMap Tryz.prog 9 (plainElem (H := Unit) Tryz.prog 3) m (a + n) (lastD s (a + n)) /\ w.grownBy w' (some m) :=
 note_calls hs (Nat.le_add_right a n) hb m w hm
set_option maxHeartbeats 2000000 in
set_option maxRecDepth 1000000 in
theorem round_some {s : ByteArray} {m base fr a k : Nat} {w0 : World} {A : Act} {W : World} (hs : s.size <= 1000) (hI : InvLz s m base w0 fr a A W)
  (hl : (if a + 4 <= s.size then lastL s.data.toList (cutL s.data.toList a 4) a else none) = some k) {Q : Exit -> Act -> World -> Prop}
  (hQ : ∀ A' W' n, 0 < n -> InvLz s m base w0 (a + n) (a + n) A' W' -> Q .normal A' W') : (loopB (itemN L28 6)).wp Tryz.prog Q A W := by
 refine wpL_codes ?_
 obtain ⟨⟨vout, out, hF, hB, hol, hne, hout⟩, hle, hown, hbm, hbut⟩ := hI
 obtain ⟨f, rfl⟩ := fr7 hF
 have hsl : s.data.toList.length = s.size := by simp
 have h4 : a + 4 <= s.size := by
  by_cases h : a + 4 <= s.size
  ·
   exact h
  ·
   rw [if_neg h] at hl; cases hl
 have hl' := hl
 rw [if_pos h4] at hl'
 have hk := lastL_lt hl'
 have hfd0 := fun W' h => find_yes hs hle.2 hl m W' h
 obtain ⟨N, hN⟩ : ∃ N, N = sameL s.data.toList s.data.toList a k s.data.toList.length 4 := ⟨_, rfl⟩
 have hN1 := sameL_le (y := s.data.toList) (b := k) s.data.toList.length 4 (show a + 4 <= s.data.toList.length by omega)
 obtain ⟨B, hBk⟩ : ∃ B, B = a - k := ⟨_, rfl⟩
 have hout2 : (out ++ (numL (a - fr) ++ cutL s.data.toList fr (a - fr) ++ numL B ++ numL (N - 4))) ++ pressR s.data.toList s.data.toList.length (a + N) (a + N) = pressL s.data.toList := by
  rw [<- hout, List.append_assoc]
  congr 1
  rw [pressR_more s.data.toList s.data.toList.length (s.data.toList.length + 1) fr a (by omega) (by omega)]
  conv => rhs; unfold pressR
  rw [if_neg (by omega), hsl, hl]
  rw [hN, hBk, hsl]
 rw [<- hN] at hfd0 hN1
 rw [<- hBk] at hfd0
 have hnt := Lib.hid (fun W' h => note_many hs (show a + N <= s.size by omega) m W' h)
 have hBp : 0 < B := by omega
 have hB1 : B <= 1000 := by omega
 have ha : a <= 1000 := by omega
 have hNb : N <= 1000 := by omega
 have hN4 : 4 <= N := hN1.2
 have hN5 := hN1.1
 rw [hsl] at hN5
 have hK := Lib.hid (And.intro hB (And.intro hol (And.intro hne (And.intro hout2 (And.intro hle (And.intro hown (And.intro hbm (And.intro hbut (And.intro hN4 hN5)))))))))
 have hfd := Lib.hid hfd0
 have hown' := Lib.hid hown
 have hlt' : (a : Int) < (s.size : Int) := by omega
 have hb0 : ¬ (B : Int) = 0 := by omega
 clear hF hB hol hne hout hle hown hbm hbut hout2 hl hl' hk hN hBk hfd0 hN1 hsl
 have hQ' := Lib.hid hQ
 clear hQ
 refine wpL_lit (L' := [_, _, itemN L28a 2]) (by rfl) ?_
 simp only [wpL]
 go_wp2
 rw [blk28]
 refine wp_block (wpL_codes ?_)
 refine wpL_lit (L' := [_, _, _, itemN L28b 3, _, _, _]) (by rfl) ?_
 simp only [wpL]
 go_wp2_with (go_at_call 65; refine (hfd.out _ (by exact hown'.out)).mono ?_; rintro e w' ⟨rfl, nd, rfl⟩)
 obtain ⟨h1, h2, h3, h5, h6, h7, h8, h9, h10, h11⟩ := hK.out
 have hbw : base <= W.heap.size := by have := h7.lt; omega
 refine mid11w (fr := fr) (a := a) (b := B) (n := N) (m := m) (base := base) (out := out) (vout := vout) hs h6.1 h6.2 hB1 hN4 hNb (by exact h1) (by omega) (by exact hbw) ⟨rfl, rfl, fun p hp => ?_⟩ fun A1 W1 v1 hF1 hB2 hg1 hn1 => ?_
 ·
  simp only [List.mem_cons, List.not_mem_nil, or_false] at hp
  rcases hp with rfl | rfl | rfl | rfl | rfl | rfl | rfl <;> rfl
 obtain ⟨f', rfl⟩ := fr9 hF1
 have hgW : W.grownBy W1 vout.ownBlock := ⟨hg1.os, hg1.tape, hg1.output, hg1.size, hg1.block⟩
 have hn2 : ∀ g, v1.ownBlock = some g -> vout.ownBlock = some g \/ W.heap.size <= g := hn1
 have ho1 : W1.ownsMap Tryz.prog 9 (plainElem (H := Unit) Tryz.prog 3) m a (lastD s a) := h7.kept hgW (fun e => h3 e.symm)
 have hmW := h7.lt
 have hne1 : v1.ownBlock ≠ some m := fun e => (hn2 m e).elim h3 (fun h => by omega)
 have hbut1 : Below base w0 W1 := below_grown h9 hgW (fun g hg => (h1.lt g hg).1) hbw
 have hlen1 : (out ++ (numL (a - fr) ++ cutL s.data.toList fr (a - fr) ++ numL B ++ numL (N - 4))).length <= 2 + 8 * (a + N) := by
  have n1 := numL_le (a - fr)
  have n2 := numL_le B
  have n3 := numL_le (N - 4)
  have n4 := cutL_len (l := s.data.toList) (a := fr) (w := a - fr) (by simp; omega)
  simp only [List.length_append]
  omega
 have hS := Lib.hid (And.intro hB2 (And.intro hlen1 (And.intro hne1 (And.intro h5 (And.intro ho1 (And.intro h8 (And.intro hbut1 (And.intro hgW h11))))))))
 have ho1' := Lib.hid ho1
 clear h1 h2 h3 h5 h6 h7 h8 h9 h10 h11 hB2 hlen1 hne1 ho1 hbut1 hgW hn2 hn1 hg1 hF1 hmW hbw hK
 go_wp2_with (go_at_call 66; refine (hnt.out _ (by exact ho1'.out)).mono ?_; rintro e w' ⟨⟨v, rfl⟩, ho, hg⟩; have ho' := Lib.hid ho; have hg' := Lib.hid hg; clear ho hg)
 obtain ⟨h1, h2, h3, h4, h5, h6, h7, h8, h9⟩ := hS.out
 refine hQ'.out _ _ N (by omega) ⟨⟨v1, _, ⟨rfl, rfl, fun p hp => ?_⟩, h1.kept fun g hg => hg'.out.block g (h1.lt g hg).2 (fun e => h3 (by rw [hg, e])), h2, h3, h4⟩, ⟨Nat.le_refl _, h9⟩, ho'.out, h6, below_grown h7 hg'.out (fun k hk => by cases hk; exact h6) (by have := h5.lt; omega)⟩
 simp only [List.mem_cons, List.not_mem_nil, or_false] at hp
 rcases hp with rfl | rfl | rfl | rfl | rfl <;> rfl
end Go.Proofs
namespace Go.Proofs
open Go.Ev Go.RowKit Go.Lib
attribute [local go_sem] Oper.semAt_some
theorem loop_press {s : ByteArray} {m base : Nat} {w0 : World} (hs : s.size <= 1000) {fr a : Nat} {A : Act} {W : World} (hI : InvLz s m base w0 fr a A W) {Q : Exit -> Act -> World -> Prop}
  (hQ : ∀ fr A' W', InvLz s m base w0 fr s.size A' W' -> Q (.exit 0) A' W') : (Code.loop (loopB (itemN L28 6))).wp Tryz.prog Q A W := by
 refine wp_loop_n (P := Tryz.prog) (b := loopB (itemN L28 6)) (Q := Q) (I := fun k A' W' => ∃ fr a, k = s.size - a /\ InvLz s m base w0 fr a A' W') (fun k A' W' ⟨fr, a, hk, hI⟩ => ?_) (s.size - a) A W ⟨fr, a, rfl, hI⟩
 have hle := hI.le
 by_cases hlt : a < s.size
 ·
  cases hl : (if a + 4 <= s.size then lastL s.data.toList (cutL s.data.toList a 4) a else none) with
  | none => exact round_none hs hI hlt hl fun A1 W1 h1 => ⟨s.size - (a + 1), by omega, _, _, rfl, h1⟩
  | some k' => exact round_some hs hI hl fun A1 W1 n hn h1 => ⟨s.size - (a + n), by have := h1.le.2; omega, _, _, rfl, h1⟩
 ·
  obtain rfl : a = s.size := by omega
  exact round_end hs hI hlt fun A1 h1 => hQ fr A1 W' h1
theorem pressR_end (s : List UInt8) (fr : Nat) : pressR s s.length fr s.length = if fr < s.length then numL (s.length - fr) ++ s.drop fr else [] := by
 rw [pressR_more s s.length 0 fr s.length (by omega) (by omega)]
 rfl
theorem convF_back {W : World} {base : Nat} {v : Value} {l : List UInt8} (h : BytesF W base 5 v l) : (convert 71 9 v).run Tryz.prog W = .ok (.string ⟨⟨l⟩⟩) W := by
 rcases h with ⟨rfl, rfl⟩ | ⟨g, off, cap, cur, rfl, hbg, ⟨fr, hfr, hg⟩, hnc, hcm, hcs, htake⟩
 ·
  exact run_convert_bytes_nil W 71 5 Tryz.underlying71 Tryz.underlying5 0 0 9 Tryz.underlying9
 ·
  refine run_convert_bytes_back (P := Tryz.prog) W 71 9 5 ⟨g, off, none⟩ cap l Tryz.underlying71 Tryz.underlying5 Tryz.underlying9 fun j hj => ?_
  have h1 : (⟨g, off, none⟩ : Addr).add j = ⟨g, off + j, none⟩ := by unfold Addr.add; split <;> simp_all
  rw [h1, cell_of_row W g (off + j) cur 5 fr hg]
  have h2 : ((cur.toList.drop off).take l.length)[j]? = (l.map fun b => Value.int .u8 b.toNat)[j]? := by rw [htake]
  rw [List.getElem?_take_of_lt hj, List.getElem?_drop, List.getElem?_map, List.getElem?_eq_getElem hj] at h2
  simpa using h2
set_option maxHeartbeats 2000000 in
set_option maxRecDepth 1000000 in
theorem press_calls {s : ByteArray} (hs : s.size <= 1000) (w : World) :
  Calls Tryz.prog 28 #[.string s] w fun e w' => e = .returned (.tuple #[.string ⟨⟨pressL s.data.toList⟩⟩, .int .i64 0]) /\ Below w.heap.size w w' := by
 have hbody : Tryz.f28.body = some (Tryz.f28.body.getD .skip) := by kernel_rfl
 refine calls_of_wp Tryz.func28 hbody (wpL_codes ?_)
 obtain ⟨hsz, hd, hsl⟩ := fr_enter (args := [.string s]) (l := [(0, .string s)]) Tryz.ntmps28 (by simp) (fun p hp => by
  simp only [List.mem_cons, List.not_mem_nil, or_false] at hp
  subst hp; rfl)
 generalize hA : (⟨(⟨[.string s]⟩ : Array Value) ++ Array.replicate (Tryz.f28.ntmps - (⟨[.string s]⟩ : Array Value).size) undef, []⟩ : Act) = A at *
 clear hA
 have h0 := hsl (0, .string s) (by simp)
 clear hsl
 obtain ⟨f, rfl⟩ := lit90 hsz hd
 replace h0 : f 0 = .string s := h0
 rw [h0]
 clear h0 hsz hd
 obtain ⟨Ns, hNs⟩ : ∃ x : ByteArray, x = ⟨⟨numL s.size⟩⟩ := ⟨_, rfl⟩
 have kn : Hid (∀ W, Calls Tryz.prog 64 #[.int .u64 (s.size : Int)] W fun e w' => e = .returned (.string Ns) /\ Below W.heap.size W w') := Lib.hid (fun W => hNs ▸ num_calls (show s.size < 16512 by omega) W)
 have kc := fun W => Lib.run_convert_string_bytes (P := Tryz.prog) W 9 71 5 Ns Tryz.underlying9 Tryz.underlying71 Tryz.underlying5
 have hmm := @run_makeMap Tryz.prog
 have wu : IntKind.u64.wrap (s.size : Int) = (s.size : Int) := wrapU64 _ (by omega)
 have hsi : (s.size : Int) <= 1000 := by omega
 have hNs' := Lib.hid hNs
 clear hNs
 refine wpL_lit (L' := [_, _, _, _, _, _, itemN L28 6, _, _, _, _]) (by rfl) ?_
 simp only [wpL]
 go_wp2_with (go_at_call 64; refine (kn.out _).mono ?_; rintro e w' ⟨rfl, hb⟩)
 rw [loop_eq id28]
 refine wp_block ?_
 have hbs := Below.size hb
 have hms : (bytesWorld w' 5 Ns).heap.size = w'.heap.size + 1 := bytesWorld_size w' 5 Ns
 have hsl : s.data.toList.length = s.size := by simp
 have hB0 := (bytesF_conv w' 5 Ns w.heap.size hbs (by rw [hNs'.out]; show (numL s.size).length <= _; have := numL_le s.size; omega))
 have hbut0 : Below w.heap.size w ((bytesWorld w' 5 Ns).alloc (.map #[] 0)) := (below_grown hb (bytesWorld_grown w' 5 Ns) (fun k hk => by cases hk) hbs).alloc (by omega) _
 have hm0 := World.ownsMap_made (bytesWorld w' 5 Ns) Tryz.prog 9 (plainElem (H := Unit) Tryz.prog 3)
 refine loop_press (m := (bytesWorld w' 5 Ns).heap.size) (base := w.heap.size) (w0 := w) (fr := 0) (a := 0) hs ⟨⟨.slice (some { block := w'.heap.size, off := 0 }) Ns.size (grownCap w' Ns.size 0 5), numL s.size, ⟨rfl, rfl, fun p hp => ?_⟩, ?_, ?_, ?_, ?_⟩, ⟨Nat.le_refl _, Nat.zero_le _⟩, hm0, by omega, hbut0⟩ fun fr A1 W1 hI1 => ?_
 ·
  simp only [List.mem_cons, List.not_mem_nil, or_false] at hp
  rcases hp with rfl | rfl | rfl | rfl | rfl <;> rfl
 ·
  have e : Ns.data.toList = numL s.size := by rw [hNs'.out]
  rw [e] at hB0
  exact hB0.kept fun g hg => heap_alloc_old _ _ (hB0.lt g hg).2
 ·
  have := numL_le s.size; omega
 ·
  intro e
  have : w'.heap.size = (bytesWorld w' 5 Ns).heap.size := by injection e
  omega
 ·
  show _ = numL s.data.toList.length ++ _
  rw [hsl]
 obtain ⟨⟨vout, out, hF, hB, hol, hne, hout⟩, hle, hown, hbm, hbut⟩ := hI1
 obtain ⟨f', rfl⟩ := fr7 hF
 clear hb hB0 hbut0 hm0 hms hF hne hown hbm kn kc hmm
 have hbut' := Lib.hid hbut
 have hout' := Lib.hid hout
 have hB' := Lib.hid hB
 by_cases hlt : fr < s.size
 ·
  have hlt' : (fr : Int) < (s.size : Int) := by omega
  obtain ⟨i0, hi, hz0, hz1, hz2⟩ := info_parts info71
  obtain ⟨d, hd⟩ : ∃ d, d = s.size - fr := ⟨_, rfl⟩
  have hd1 : (s.size : Int) - (fr : Int) = (d : Int) := by omega
  have hd2 : d <= 1000 := by omega
  have hle1 : fr <= s.size := by omega
  have hle2 : (fr : Int) <= (s.size : Int) := by omega
  have hle3 : ¬ (s.size : Int) < (fr : Int) := by omega
  have nd := numL_le d
  obtain ⟨Nd, hNd⟩ : ∃ x : ByteArray, x = ⟨⟨numL d⟩⟩ := ⟨_, rfl⟩
  obtain ⟨X, hX⟩ : ∃ x : ByteArray, s.extract fr s.size = x := ⟨_, rfl⟩
  have zd : Nd.size = (numL d).length := by rw [hNd]; rfl
  have hx : X.size <= 1000 := by rw [<- hX, ByteArray.size_extract]; omega
  have b1 : Nd.size + X.size <= 9223372036854775807 := by omega
  have e1 : (9223372036854775807 < Nd.size + X.size) = False := eq_false (Nat.not_lt.2 b1)
  have hXl : X.data.toList = s.data.toList.drop fr := by
   rw [<- hX, ByteArray.data_extract, Array.toList_extract, List.extract_eq_take_drop, List.take_of_length_le (by rw [List.length_drop, hsl]; omega)]
  have e : out ++ (Nd ++ X).data.toList = pressL s.data.toList := by
   rw [ByteArray.data_append, Array.toList_append, hNd, hXl, <- hout, <- hsl, pressR_end, if_pos (by omega), hsl, <- hd]
  have z1 : (Nd ++ X).size = Nd.size + X.size := ByteArray.size_append
  have hlen : Hid (out.length + (Nd ++ X).size <= 140737488355328) := Lib.hid (by omega)
  obtain ⟨tl, htl⟩ : ∃ l, l = (Nd ++ X).data.toList := ⟨_, rfl⟩
  rw [<- htl] at e
  have htl' := Lib.hid htl
  have e' := Lib.hid e
  have wd1 : IntKind.i64.wrap (d : Int) = (d : Int) := wrapI64 _ (by omega)
  have wd2 : IntKind.u64.wrap (d : Int) = (d : Int) := wrapU64 _ (by omega)
  have kd : Hid (∀ W, Calls Tryz.prog 64 #[.int .u64 (d : Int)] W fun e w' => e = .returned (.string Nd) /\ Below W.heap.size W w') := Lib.hid (fun W => hNd ▸ num_calls (show d < 16512 by omega) W)
  have hbase1 : Hid (w.heap.size <= W1.heap.size) := Lib.hid (Below.size hbut)
  clear hout hbut hB htl e hXl hNd zd z1 hd nd hx hNs' hbs hsl hol hle wu
  go_wp2
  refine wp_mono (Q := Nrm fun A' w' => ∃ v', Fr 90 A' [(0, .string s), (4, v')] /\ BytesF w' w.heap.size 5 v' (out ++ tl) /\ W1.grownBy w' vout.ownBlock) ?_ ?_
  ·
   go_region_law (first
    | (with_reducible (show (if Region.wanted _ _ = true then Oper.wp _ (Oper.mk _ (Op.call { callee := Callee.builtin Builtin.append, args := _, argTypes := _ }) _ _ _ _) _ _ _ _ else _)); go_loud (refine step_append_text rfl (.tmp 76) (.tmp 86) 71 9 rfl w.heap.size 5 i0 Tryz.underlying71 Tryz.underlying9 hi hz0 hz1 hz2 vout out rfl (hB'.out.kept fun g hg => Sb.blk (show Sb W1 _ from by repeat (first | exact Sb.refl _ | apply Sb.drew | (refine Sb.trans ?_ (by assumption)))) g (hB'.out.lt g hg).2) (Nd ++ X) rfl hlen.out (Nat.le_trans hbase1.out (Sb.siz (show Sb W1 _ from by repeat (first | exact Sb.refl _ | apply Sb.drew | (refine Sb.trans ?_ (by assumption)))))) ?_); intro v' w1 hB1 hg1 hn1; rw [<- htl'.out] at hB1; have hB2 := Lib.hid hB1; have hg2 := Lib.hid ((Sb.grown (show Sb W1 _ from by repeat (first | exact Sb.refl _ | apply Sb.drew | (refine Sb.trans ?_ (by assumption)))) vout.ownBlock).trans hg1); clear hB1 hg1 hn1)
    | (go_simp; go_wp2_with (go_at_call_of 64 (d : Int); refine (kd.out _).mono ?_; rintro e w' ⟨rfl, hb⟩)))
   all_goals
    refine ⟨v', ⟨rfl, rfl, fun p hp => ?_⟩, hB2.out, hg2.out⟩
    simp only [List.mem_cons, List.not_mem_nil, or_false] at hp
    rcases hp with rfl | rfl <;> rfl
  ·
   intro e0 A2 w2 h
   cases e0 with
   | normal =>
    obtain ⟨v', hF2, hB2, hg2⟩ := h
    obtain ⟨hsz2, hd2', hsl2⟩ := hF2
    have h4 := hsl2 (4, v') (by simp)
    clear hsl2
    obtain ⟨f2, rfl⟩ := lit90 hsz2 hd2'
    replace h4 : f2 4 = v' := h4
    have cb := convF_back hB2
    have hfin : Below w.heap.size w w2 := below_grown hbut'.out hg2 (fun k hk => (hB'.out.lt k hk).1) hbase1.out
    have hfin' := Lib.hid hfin
    rw [h4]
    clear h4 hB2 hg2 hfin hsz2 hd2'
    dsimp only
    go_wp2
    go_ret2
    exact ⟨by rw [e'.out]; rfl, hfin'.out⟩
   | _ => exact h.elim
 ·
  have hge' : ¬ (fr : Int) < (s.size : Int) := by omega
  have cb := convF_back hB
  have e : out = pressL s.data.toList := by
   rw [<- hout, <- hsl, pressR_end, if_neg (by omega), List.append_nil]
  have e' := Lib.hid e
  clear hout hbut hB e
  go_wp2
  go_ret2
  exact ⟨by rw [e'.out]; rfl, hbut'.out⟩
end Go.Proofs
