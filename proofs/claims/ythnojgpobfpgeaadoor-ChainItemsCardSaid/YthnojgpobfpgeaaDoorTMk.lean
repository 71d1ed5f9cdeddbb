/- A text made of another one: what both programs make is the document's. -/
import Derived.Test.YthnojgpobfpgeaaDoorPCm1
import Derived.Test.YthnojgpobfpgeaaDoorTNum
/-! A text made of another one: what both programs make is the document's. -/
namespace Go.Proofs
open Go.Ev Go.RowKit Go.Proofs.YthnojgpobfpgeaaDoor.PCa Go.Proofs.YthnojgpobfpgeaaDoorW.PrintWords

def ofL (l : List UInt8) : ByteArray := ⟨⟨l⟩⟩
theorem ofL_app (l m : List UInt8) : ofL l ++ ofL m = ofL (l ++ m) := by
 apply ByteArray.ext
 rw [ByteArray.data_append]
 apply Array.ext'
 simp [ofL]
theorem ofL_size (l : List UInt8) : (ofL l).size = l.length := rfl
theorem ofL_toList (l : List UInt8) : (ofL l).toList = l := by simp [Go.ByteArray.toList_eq, ofL]
theorem ext_ofL (s : ByteArray) (a b : Nat) : s.extract a b = ofL (cutL s.data.toList a (b - a)) := by
 apply ByteArray.ext
 rw [ByteArray.data_extract]
 apply Array.ext'
 simp [ofL, cutL]
theorem bt_eq {s b : ByteArray} {i j : Nat} (hi : i < s.size) (hj : j < b.size) : bt s (i : Int) = bt b (j : Int) ↔ s.data.toList[i]? = b.data.toList[j]? := by
 have h1 : ∀ (s : ByteArray) (i : Nat) (h : i < s.size), bt s (i : Int) = ((s.data.toList[i]'(by simpa using h)).toNat : Int) := by
  intro s i h
  unfold bt
  rw [dif_pos (show ((i : Int)).toNat < s.size from h)]
  rfl
 rw [h1 s i hi, h1 b j hj, List.getElem?_eq_getElem (by simpa using hi), List.getElem?_eq_getElem (by simpa using hj)]
 constructor
 ·
  intro h
  have : (s.data.toList[i]'(by simpa using hi)).toNat = (b.data.toList[j]'(by simpa using hj)).toNat := by omega
  rw [UInt8.toNat_inj.1 this]
 ·
  intro h
  rw [Option.some.inj h]
theorem cutL_le (l : List UInt8) (a w : Nat) : (cutL l a w).length ≤ w := by unfold cutL; rw [List.length_take]; omega
theorem putL_le (l : List UInt8) : (putL l).length ≤ l.length + 2 := by
 unfold putL
 split
 ·
  simp
 ·
  have := numL_le (2 * (l.length - 1)); simp only [List.length_append]; omega

theorem insert_pure {l : List UInt8} (h : l.length ≤ 8000) (k : Nat) : delta_insert.f (k + 2) (ofL l) = some (ofL (putL l)) := by
 unfold delta_insert.f
 rw [ofL_toList, ofL_size]
 by_cases e : l = []
 ·
  subst e; rw [if_pos rfl]; rfl
 ·
  rw [if_neg e]
  have h0 : 0 < l.length := List.length_pos_iff.2 e
  rw [wrapI (x := (l.length : Int) - 1) (by omega) (by omega), wrapI (x := 2 * ((l.length : Int) - 1)) (by omega) (by omega), wrapU (by omega) (by omega), show 2 * ((l.length : Int) - 1) = ((2 * (l.length - 1) : Nat) : Int) by omega, num_pure (by omega) k, Option.bind_some]
  have := numL_le (2 * (l.length - 1))
  rw [if_pos (by show (numL _).length + l.length ≤ _; omega)]
  show some (ofL _ ++ ofL l) = _
  rw [ofL_app]
  unfold putL
  rw [if_neg e]
theorem put_pure {l : List UInt8} (h : l.length ≤ 8000) (k : Nat) : pollardref09_put.f (k + 6) (ofL l) = some (ofL (putL l)) := by
 unfold pollardref09_put.f
 rw [ofL_toList, ofL_size]
 by_cases e : l = []
 ·
  subst e; rw [if_pos rfl]; rfl
 ·
  rw [if_neg e]
  have h0 : 0 < l.length := List.length_pos_iff.2 e
  rw [wrapI (x := 2 * (l.length : Int)) (by omega) (by omega), wrapI (x := 2 * (l.length : Int) - 2) (by omega) (by omega), wrapU (by omega) (by omega), show 2 * (l.length : Int) - 2 = ((2 * (l.length - 1) : Nat) : Int) by omega, ref_num_pure (by omega) k, Option.bind_some]
  have := numL_le (2 * (l.length - 1))
  rw [if_pos (by show (numL _).length + l.length ≤ _; omega)]
  show some (ofL _ ++ ofL l) = _
  rw [ofL_app]
  unfold putL
  rw [if_neg e]

theorem w_add {a n : Nat} (h : a + n ≤ 1000000) : wrap64 ((a : Int) + (n : Int)) = ((a + n : Nat) : Int) := by rw [wrapI (by omega) (by omega)]; omega
theorem w_one {n : Nat} (h : n ≤ 1000000) : wrap64 ((n : Int) + 1) = ((n + 1 : Nat) : Int) := by rw [wrapI (by omega) (by omega)]; omega

section
open Go.Proofs.YthnojgpobfpgeaaDoor.PCm
variable {b s : ByteArray} (hb : b.size ≤ 1000) (hs : s.size ≤ 1000)

include hs in
theorem cont_ok {fr a n q : Nat} {out : List UInt8} {r : ByteArray} {K : Nat} (hf : fr ≤ a) (ha : a ≤ s.size) (hn1 : 1 ≤ n) (hn : n ≤ 1000) (hq : q ≤ 1000) (ho : out.length ≤ 100000)
  (h : ∀ k, K ≤ k → delta_Make.l0 k b s b (ofL (out ++ (putL (cutL s.data.toList fr (a - fr)) ++ numL (2 * (n - 1) + 1) ++ numL q))) ((a + n : Nat) : Int) ((a + n : Nat) : Int) = some r) (k : Nat) (hk : K + 4 ≤ k) :
  (if (0 : Int) ≤ (fr : Int) then (if (fr : Int) ≤ (a : Int) then (if (a : Int) ≤ (s.size : Int) then ((delta_insert.f k (s.extract (fr : Int).toNat (a : Int).toNat)).bind fun t107 => ((code_Num.f k (IntKind.u64.wrap (wrap64 ((wrap64 (2 * (wrap64 ((n : Int) - 1)))) + 1)))).bind fun t108 => (if t107.size + t108.size ≤ 9223372036854775807 then ((code_Num.f k (IntKind.u64.wrap ((q : Int)))).bind fun t109 => (if (t107 ++ t108).size + t109.size ≤ 9223372036854775807 then (if (ofL out).size + ((t107 ++ t108) ++ t109).size ≤ 9223372036854775807 then (delta_Make.l0 k b s b (ofL out ++ ((t107 ++ t108) ++ t109)) (wrap64 ((a : Int) + (n : Int))) (wrap64 ((a : Int) + (n : Int)))) else (none)) else (none))) else (none)))) else (none)) else (none)) else (none)) = some r := by
 obtain ⟨k, rfl⟩ : ∃ k', k = k' + 2 := ⟨k - 2, by omega⟩
 have c1 := cutL_le s.data.toList fr (a - fr)
 have c2 := putL_le (cutL s.data.toList fr (a - fr))
 have c3 := numL_le (2 * (n - 1) + 1)
 have c4 := numL_le q
 rw [if_pos (by omega), if_pos (by omega), if_pos (by omega), show ((fr : Int)).toNat = fr from rfl, show ((a : Int)).toNat = a from rfl, ext_ofL, insert_pure (by omega), Option.bind_some,
  wrapI (x := (n : Int) - 1) (by omega) (by omega), wrapI (x := 2 * ((n : Int) - 1)) (by omega) (by omega), wrapI (x := 2 * ((n : Int) - 1) + 1) (by omega) (by omega), wrapU (x := 2 * ((n : Int) - 1) + 1) (by omega) (by omega), show 2 * ((n : Int) - 1) + 1 = ((2 * (n - 1) + 1 : Nat) : Int) by omega, num_pure (by omega), Option.bind_some]
 change (if (ofL _).size + (ofL (numL _)).size ≤ 9223372036854775807 then _ else _) = _
 rw [ofL_size, ofL_size, if_pos (by omega), wrapU (by omega) (by omega), num_pure (by omega), Option.bind_some]
 change (if (ofL _ ++ ofL (numL _)).size + (ofL (numL _)).size ≤ 9223372036854775807 then (if _ + (ofL _ ++ ofL (numL _) ++ ofL (numL _)).size ≤ 9223372036854775807 then delta_Make.l0 _ _ _ _ (ofL _ ++ (ofL _ ++ ofL (numL _) ++ ofL (numL _))) _ _ else _) else _) = _
 rw [ofL_app, ofL_app, ofL_app, ofL_size, ofL_size, ofL_size, ofL_size, if_pos (by simp only [List.length_append]; omega), if_pos (by simp only [List.length_append]; omega), wrapI (by omega) (by omega), show (a : Int) + (n : Int) = ((a + n : Nat) : Int) by omega]
 exact h _ (by omega)

include hb hs in
theorem inner_ok {fr a q : Nat} {out : List UInt8} {r : ByteArray} (hf : fr ≤ a) (ha : a + 16 ≤ s.size) (hq : q + 16 ≤ b.size) (ho : out.length ≤ 100000) : ∀ (f n : Nat), 16 ≤ n → a + n ≤ s.size → q + n ≤ b.size → s.size - (a + n) ≤ f → ∀ {K : Nat},
  (∀ k, K ≤ k → delta_Make.l0 k b s b (ofL (out ++ (putL (cutL s.data.toList fr (a - fr)) ++ numL (2 * (sameL s.data.toList b.data.toList a q f n - 1) + 1) ++ numL q))) ((a + sameL s.data.toList b.data.toList a q f n : Nat) : Int) ((a + sameL s.data.toList b.data.toList a q f n : Nat) : Int) = some r) →
  ∀ k, K + f + 6 ≤ k → delta_Make.l1 k b s b (ofL out) (fr : Int) (a : Int) (q : Int) (n : Int) = some r := by
 have hsl : s.data.toList.length = s.size := by simp
 have hbl : b.data.toList.length = b.size := by simp
 intro f
 induction f with
 | zero =>
  intro n hn h1 h2 h3 K h k hk
  obtain ⟨k, rfl⟩ : ∃ k', k = k' + 1 := ⟨k - 1, by omega⟩
  have e : sameL s.data.toList b.data.toList a q 0 n = n := by unfold sameL; rfl
  rw [e] at h
  rw [delta_Make.l1]
  rw [w_add (by omega), if_neg (by omega)]
  have := cont_ok (b := b) hs hf (by omega) (by omega : 1 ≤ n) (by omega) (by omega) ho h k (by omega)
  rw [w_add (by omega)] at this
  exact this
 | succ f ih =>
  intro n hn h1 h2 h3 K h k hk
  obtain ⟨k, rfl⟩ : ∃ k', k = k' + 1 := ⟨k - 1, by omega⟩
  rw [delta_Make.l1]
  by_cases c1 : a + n < s.size
  ·
   by_cases c2 : q + n < b.size
   ·
    by_cases c3 : s.data.toList[a + n]? = b.data.toList[q + n]?
    ·
     rw [w_add (by omega), w_add (by omega), w_one (by omega), if_pos (by omega), if_pos (by omega), if_pos (by omega), if_pos (by omega), if_pos ((bt_eq c1 c2).2 c3)]
     have e : sameL s.data.toList b.data.toList a q (f + 1) n = sameL s.data.toList b.data.toList a q f (n + 1) := by
      conv => lhs; unfold sameL
      rw [if_pos ⟨by omega, by omega, c3⟩]
     rw [e] at h
     exact ih (n + 1) (by omega) (by omega) (by omega) (by omega) h k (by omega)
    ·
     have e : sameL s.data.toList b.data.toList a q (f + 1) n = n := by
      unfold sameL
      rw [if_neg (fun h => c3 h.2.2)]
     rw [e] at h
     have := cont_ok (b := b) hs hf (by omega) (by omega : 1 ≤ n) (by omega) (by omega) ho h k (by omega)
     rw [w_add (by omega)] at this
     rw [w_add (by omega), w_add (by omega), if_pos (by omega), if_pos (by omega), if_pos (by omega), if_pos (by omega), if_neg (fun h => c3 ((bt_eq c1 c2).1 h))]
     exact this
   ·
    have e : sameL s.data.toList b.data.toList a q (f + 1) n = n := by
     unfold sameL
     rw [if_neg (fun h => by omega)]
    rw [e] at h
    have := cont_ok (b := b) hs hf (by omega) (by omega : 1 ≤ n) (by omega) (by omega) ho h k (by omega)
    rw [w_add (by omega)] at this
    rw [w_add (by omega), w_add (by omega), if_pos (by omega), if_neg (by omega)]
    exact this
  ·
   have e : sameL s.data.toList b.data.toList a q (f + 1) n = n := by
    unfold sameL
    rw [if_neg (fun h => by omega)]
   rw [e] at h
   have := cont_ok (b := b) hs hf (by omega) (by omega : 1 ≤ n) (by omega) (by omega) ho h k (by omega)
   rw [w_add (by omega)] at this
   rw [w_add (by omega), if_neg (by omega)]
   exact this

theorem cut_drop (l : List UInt8) (a : Nat) : cutL l a (l.length - a) = l.drop a := by
 unfold cutL
 exact List.take_of_length_le (by rw [List.length_drop]; omega)

include hb hs in
theorem outer_ok : ∀ (f fr a : Nat) (out : List UInt8), fr ≤ a → a ≤ s.size → s.size - a ≤ f → out.length + (s.size - fr) + 8 * (s.size - a) ≤ 50000 →
  ∃ K, ∀ k, K ≤ k → delta_Make.l0 k b s b (ofL out) (fr : Int) (a : Int) = some (ofL (out ++ deltaR b.data.toList s.data.toList f fr a)) := by
 have hsl : s.data.toList.length = s.size := by simp
 have hbl : b.data.toList.length = b.size := by simp
 have hend : ∀ (fr a : Nat) (out : List UInt8), fr ≤ s.size → a ≤ s.size → s.size < a + 16 → out.length ≤ 50000 → ∃ K, ∀ k, K ≤ k → delta_Make.l0 k b s b (ofL out) (fr : Int) (a : Int) = some (ofL (out ++ putL (s.data.toList.drop fr))) := by
  intro fr a out h1 h2 h3 h4
  refine ⟨3, fun k hk => ?_⟩
  obtain ⟨k, rfl⟩ : ∃ k', k = k' + 3 := ⟨k - 3, by omega⟩
  rw [delta_Make.l0]
  have c1 := putL_le (cutL s.data.toList fr (s.size - fr))
  have c2 := cutL_le s.data.toList fr (s.size - fr)
  rw [show (16 : Int) = ((16 : Nat) : Int) from rfl, w_add (by omega), if_neg (by omega), if_pos (by omega), if_pos (by omega), show ((fr : Int)).toNat = fr from rfl, ext_ofL, insert_pure (by omega), Option.bind_some, ofL_size, ofL_size, if_pos (by omega), ofL_app, ← hsl, cut_drop]
 intro f
 induction f with
 | zero =>
  intro fr a out h1 h2 h3 h4
  exact hend fr a out (by omega) h2 (by omega) (by omega)
 | succ f ih =>
  intro fr a out h1 h2 h3 h4
  by_cases c : s.size < a + 16
  ·
   have e : deltaR b.data.toList s.data.toList (f + 1) fr a = putL (s.data.toList.drop fr) := by unfold deltaR; rw [if_pos (by omega)]
   rw [e]
   exact hend fr a out (by omega) h2 c (by omega)
  ·
   cases hk : blockL b.data.toList (cutL s.data.toList a 16) b.data.toList.length 0 with
   | none =>
    have e : deltaR b.data.toList s.data.toList (f + 1) fr a = deltaR b.data.toList s.data.toList f fr (a + 1) := by
     conv => lhs; unfold deltaR
     rw [if_neg (by omega), hk]
    obtain ⟨K, hK⟩ := ih fr (a + 1) out (by omega) (by omega) (by omega) (by omega)
    refine ⟨K + 1, fun k hk' => ?_⟩
    obtain ⟨k, rfl⟩ : ∃ k', k = k' + 1 := ⟨k - 1, by omega⟩
    have hl : delta_look.f b (s.extract a (a + 16)) = some (0, false) := by
     unfold delta_look.f
     rw [ext_ofL, show (ofL (cutL s.data.toList a (a + 16 - a))).data.toList = cutL s.data.toList a 16 from by rw [show a + 16 - a = 16 by omega]; rfl, hk]
    rw [delta_Make.l0]
    rw [show (16 : Int) = ((16 : Nat) : Int) from rfl, w_add (by omega), if_pos (by omega), if_pos (by omega), if_pos (by omega), show ((a : Int)).toNat = a from rfl, show (((a + 16 : Nat) : Int)).toNat = a + 16 from rfl, hl, Option.bind_some, if_neg (by decide), w_one (by omega), e]
    exact hK k (by omega)
   | some q =>
    obtain ⟨_, hq, _⟩ := blockL_ok hk
    have s1 := sameL_le (x := s.data.toList) (y := b.data.toList) (a := a) (b := q) s.data.toList.length 16 (by omega)
    have s2 := sameL_le2 (x := s.data.toList) (y := b.data.toList) (a := a) (b := q) s.data.toList.length 16 (by omega)
    obtain ⟨N, hN⟩ : ∃ N, N = sameL s.data.toList b.data.toList a q s.data.toList.length 16 := ⟨_, rfl⟩
    have e : deltaR b.data.toList s.data.toList (f + 1) fr a = putL (cutL s.data.toList fr (a - fr)) ++ numL (2 * (N - 1) + 1) ++ numL q ++ deltaR b.data.toList s.data.toList f (a + N) (a + N) := by
     conv => lhs; unfold deltaR
     rw [if_neg (by omega), hk, hN]
    rw [← hN] at s1 s2
    have c1 := putL_le (cutL s.data.toList fr (a - fr))
    have c2 := cutL_le s.data.toList fr (a - fr)
    have c3 := numL_le (2 * (N - 1) + 1)
    have c4 := numL_le q
    obtain ⟨K, hK⟩ := ih (a + N) (a + N) (out ++ (putL (cutL s.data.toList fr (a - fr)) ++ numL (2 * (N - 1) + 1) ++ numL q)) (Nat.le_refl _) (by omega) (by omega) (by simp only [List.length_append]; omega)
    have hin := inner_ok hb hs (q := q) (out := out) h1 (by omega) (by omega) (by omega) s.data.toList.length 16 (Nat.le_refl _) (by omega) (by omega) (by omega) (K := K) (r := ofL (out ++ deltaR b.data.toList s.data.toList (f + 1) fr a)) (by
     intro k hk'
     rw [← hN, e]
     have := hK k hk'
     rw [this]
     simp only [List.append_assoc])
    refine ⟨K + s.data.toList.length + 6 + 1, fun k hk' => ?_⟩
    obtain ⟨k, rfl⟩ : ∃ k', k = k' + 1 := ⟨k - 1, by omega⟩
    have hl : delta_look.f b (s.extract a (a + 16)) = some ((q : Int), true) := by
     unfold delta_look.f
     rw [ext_ofL, show (ofL (cutL s.data.toList a (a + 16 - a))).data.toList = cutL s.data.toList a 16 from by rw [show a + 16 - a = 16 by omega]; rfl, hk]
    rw [delta_Make.l0]
    rw [show (16 : Int) = ((16 : Nat) : Int) from rfl, w_add (by omega), if_pos (by omega), if_pos (by omega), if_pos (by omega), show ((a : Int)).toNat = a from rfl, show (((a + 16 : Nat) : Int)).toNat = a + 16 from rfl, hl, Option.bind_some, if_pos rfl]
    exact hin k (by omega)

include hb hs in
theorem make_pure : ∃ k, delta_Make.f k b s = some (ofL (deltaL b.data.toList s.data.toList)) := by
 have hsl : s.data.toList.length = s.size := by simp
 have hbl : b.data.toList.length = b.size := by simp
 have c1 := numL_le b.size
 have c2 := numL_le s.size
 obtain ⟨K, hK⟩ := outer_ok hb hs s.data.toList.length 0 0 (numL b.size ++ numL s.size) (Nat.le_refl _) (Nat.zero_le _) (by omega) (by simp only [List.length_append]; omega)
 refine ⟨K + 2, ?_⟩
 unfold delta_Make.f
 rw [show delta_known.f b = some b from rfl, Option.bind_some, wrapU (by omega) (by omega), num_pure (by omega) K, Option.bind_some, wrapU (by omega) (by omega), num_pure (by omega) K, Option.bind_some]
 change (if (ofL _).size + (ofL _).size ≤ 9223372036854775807 then delta_Make.l0 _ _ _ _ (ofL _ ++ ofL _) _ _ else _) = _
 rw [ofL_size, ofL_size, if_pos (by omega), ofL_app]
 have := hK (K + 2) (by omega)
 unfold deltaL
 rw [hbl, hsl]
 rw [hsl] at this
 exact this
/-- delta.Make. -/
theorem make_calls (w : World) (hb : b.size ≤ 1000) (hs : s.size ≤ 1000) : Calls Tryd.prog 10 #[.string b, .string s] w fun e w' => e = .returned (.string (ofL (deltaL b.data.toList s.data.toList))) ∧ Below w.heap.size w w' := by
 obtain ⟨k, hk⟩ := make_pure hb hs
 exact delta_Make.calls k b s _ w (by omega) (by omega) hk
end
end Go.Proofs
