/- Numbers' bytes, both programs'. -/
import Derived.Test.YthnojgpobfpgeaaGreatDoorPLa2
import Derived.Test.YthnojgpobfpgeaaGreatDoorEvText
/-! Numbers' bytes, both programs'. -/
namespace Go.Proofs
open Go.Ev Go.RowKit Go.Proofs.YthnojgpobfpgeaaGreatDoor.PLa Go.Proofs.YthnojgpobfpgeaaGreatDoorW.PrintWords

theorem strOf2 (a b : Nat) : strOfNums [(a : Int), (b : Int)] = ⟨⟨[UInt8.ofNat a, UInt8.ofNat b]⟩⟩ := rfl
theorem strOf1 (a : Nat) : strOfNums [(a : Int)] = ⟨⟨[UInt8.ofNat a]⟩⟩ := rfl

theorem num_pure {n : Nat} (h : n < 16512) : ∀ k, code_Num.f (k + 2) (n : Int) = some ⟨⟨numL n⟩⟩ := by
 intro k
 unfold code_Num.f
 rw [show Int.tdiv (n : Int) 128 = ((n / 128 : Nat) : Int) from rfl, show Int.tmod (n : Int) 128 = ((n % 128 : Nat) : Int) from rfl, wrapU (by omega) (by omega), show (((n % 128 : Nat) : Int) % 256) = ((n % 128 : Nat) : Int) by omega]
 simp only [code_Num.l0]
 by_cases h1 : n < 128
 ·
  rw [if_neg (by omega), strOf1]
  unfold numL
  rw [if_pos h1, show n % 128 = n by omega]
 ·
  rw [if_pos (by omega), Option.bind_some, if_pos (by simp)]
  rw [show ((n / 128 : Nat) : Int) - 1 = ((n / 128 - 1 : Nat) : Int) by omega, wrapU (x := ((n / 128 - 1 : Nat) : Int)) (by omega) (by omega)]
  rw [show Int.tdiv ((n / 128 - 1 : Nat) : Int) 128 = (((n / 128 - 1) / 128 : Nat) : Int) from rfl, show Int.tmod ((n / 128 - 1 : Nat) : Int) 128 = (((n / 128 - 1) % 128 : Nat) : Int) from rfl, wrapU (x := (((n / 128 - 1) / 128 : Nat) : Int)) (by omega) (by omega), if_neg (by omega)]
  rw [show (((((n / 128 - 1) % 128 : Nat) : Int) % 256 + 128) % 256) = ((n / 128 - 1 + 128 : Nat) : Int) by omega]
  rw [List.singleton_append, strOf2]
  unfold numL
  rw [if_neg h1]

theorem ref_l1 {x0 : Nat} (h : x0 < 128) (k : Nat) : pollardref02_Num.l1 (k + 2) (x0 : Int) 1 ⟨#[]⟩ 0 = some ⟨⟨[UInt8.ofNat x0]⟩⟩ := by
 simp only [pollardref02_Num.l1]
 rw [if_pos (by omega), if_neg (by omega), Option.bind_some, show Int.tmod (x0 : Int) 128 = ((x0 % 128 : Nat) : Int) from rfl, show (((x0 % 128 : Nat) : Int) % 256) = ((x0 : Nat) : Int) by omega, strOf1, if_pos (by show 1 + 0 ≤ _; omega), if_neg (by rw [show wrap64 (0 + 1) = 1 by unfold wrap64; omega]; omega)]
 rfl
theorem ref_l2 {x0 : Nat} (h : x0 < 16384) (k : Nat) : pollardref02_Num.l1 (k + 3) (x0 : Int) 2 ⟨#[]⟩ 0 = some ⟨⟨[UInt8.ofNat (x0 / 128 + 128), UInt8.ofNat (x0 % 128)]⟩⟩ := by
 simp only [pollardref02_Num.l1]
 rw [if_pos (by omega), if_neg (by omega), Option.bind_some, show Int.tmod (x0 : Int) 128 = ((x0 % 128 : Nat) : Int) from rfl, show (((x0 % 128 : Nat) : Int) % 256) = ((x0 % 128 : Nat) : Int) by omega, strOf1, if_pos (by show 1 + 0 ≤ _; omega), show Int.tdiv (x0 : Int) 128 = ((x0 / 128 : Nat) : Int) from rfl, wrapU (x := ((x0 / 128 : Nat) : Int)) (by omega) (by omega), show wrap64 (0 + 1) = 1 by unfold wrap64; omega, if_pos (by omega), if_pos (by omega), Option.bind_some,
  show Int.tmod ((x0 / 128 : Nat) : Int) 128 = (((x0 / 128) % 128 : Nat) : Int) from rfl, show (((((x0 / 128) % 128 : Nat) : Int) % 256 + 128) % 256) = ((x0 / 128 + 128 : Nat) : Int) by omega, strOf1, if_pos (by show 1 + 1 ≤ _; omega), show wrap64 (1 + 1) = 2 by unfold wrap64; omega, if_neg (by omega)]
 rfl
theorem ref_num_pure {n : Nat} (h : n < 16512) : ∀ k, pollardref02_Num.f (k + 6) (n : Int) = some ⟨⟨numL n⟩⟩ := by
 intro k
 unfold pollardref02_Num.f
 rw [pollardref02_Num.l0]
 rw [if_pos (by omega)]
 rw [show (n : Int) - 0 = ((n : Nat) : Int) by omega, wrapU (by omega) (by omega)]
 by_cases h1 : n < 128
 ·
  rw [if_neg (by omega), pollardref02_Num.j1, show (n : Int) - 0 = ((n : Nat) : Int) by omega, wrapU (by omega) (by omega), ref_l1 h1]
  unfold numL
  rw [if_pos h1]
 ·
  rw [if_pos (by omega), pollardref02_Num.l0]
  rw [show wrap64 (1 + 1) = 2 by unfold wrap64; omega, if_pos (by omega), show IntKind.u64.wrap (0 + 128) = 128 by rfl, show IntKind.u64.wrap (128 * 128) = 16384 by rfl, show (n : Int) - 128 = ((n - 128 : Nat) : Int) by omega, wrapU (x := ((n - 128 : Nat) : Int)) (by omega) (by omega), if_neg (by omega), pollardref02_Num.j1,
   show (n : Int) - 128 = ((n - 128 : Nat) : Int) by omega, wrapU (x := ((n - 128 : Nat) : Int)) (by omega) (by omega), ref_l2 (by omega)]
  unfold numL
  rw [if_neg h1, show (n - 128) / 128 + 128 = n / 128 - 1 + 128 by omega, show (n - 128) % 128 = n % 128 by omega]
end Go.Proofs

/-! Texts as lists. -/
namespace Go.Proofs
open Go.Ev Go.RowKit Go.Proofs.YthnojgpobfpgeaaGreatDoorW.PrintWords
def ofL (l : List UInt8) : ByteArray := ⟨⟨l⟩⟩
theorem ofL_app (l m : List UInt8) : ofL l ++ ofL m = ofL (l ++ m) := by
 apply ByteArray.ext
 rw [ByteArray.data_append]
 apply Array.ext'
 simp [ofL]
theorem ofL_size (l : List UInt8) : (ofL l).size = l.length := rfl
theorem ofL_toList (l : List UInt8) : (ofL l).toList = l := by simp [Go.ByteArray.toList_eq, ofL]
theorem ext_ofL (s : ByteArray) (a b : Nat) : s.extract a b = ofL (cutL s.data.toList a (b - a)) := by
 apply ByteArray.ext
 rw [ByteArray.data_extract]
 apply Array.ext'
 simp [ofL, cutL]
theorem bt_eq {s b : ByteArray} {i j : Nat} (hi : i < s.size) (hj : j < b.size) : bt s (i : Int) = bt b (j : Int) ↔ s.data.toList[i]? = b.data.toList[j]? := by
 have h1 : ∀ (s : ByteArray) (i : Nat) (h : i < s.size), bt s (i : Int) = ((s.data.toList[i]'(by simpa using h)).toNat : Int) := by
  intro s i h
  unfold bt
  rw [dif_pos (show ((i : Int)).toNat < s.size from h)]
  rfl
 rw [h1 s i hi, h1 b j hj, List.getElem?_eq_getElem (by simpa using hi), List.getElem?_eq_getElem (by simpa using hj)]
 constructor
 ·
  intro h
  have : (s.data.toList[i]'(by simpa using hi)).toNat = (b.data.toList[j]'(by simpa using hj)).toNat := by omega
  rw [UInt8.toNat_inj.1 this]
 ·
  intro h
  rw [Option.some.inj h]
theorem cutL_le (l : List UInt8) (a w : Nat) : (cutL l a w).length ≤ w := by unfold cutL; rw [List.length_take]; omega

theorem w_add {a n : Nat} (h : a + n ≤ 1000000) : wrap64 ((a : Int) + (n : Int)) = ((a + n : Nat) : Int) := by rw [wrapI (by omega) (by omega)]; omega
theorem w_one {n : Nat} (h : n ≤ 1000000) : wrap64 ((n : Int) + 1) = ((n + 1 : Nat) : Int) := by rw [wrapI (by omega) (by omega)]; omega

end Go.Proofs

/-! The reference's Press is the document's. -/
namespace Go.Proofs
open Go.Ev Go.RowKit Go.Proofs.YthnojgpobfpgeaaGreatDoor.PLa Go.Proofs.YthnojgpobfpgeaaGreatDoorW.PrintWords

theorem w_sub {a n : Nat} (h : n ≤ a) (ha : a ≤ 1000000) : wrap64 ((a : Int) - (n : Int)) = ((a - n : Nat) : Int) := by rw [wrapI (by omega) (by omega)]; omega
/-- how far back, or 0 -/
def bk (a : Nat) : Option Nat → Int
 | none => 0
 | some q => ((a - q : Nat) : Int)
variable {s : ByteArray} (hs : s.size ≤ 1000)
include hs in
theorem back_ok {a : Nat} (ha : a + 4 ≤ s.size) : ∀ (n : Nat), n ≤ a → ∀ k, 2 * n + 3 ≤ k → pollardref04_back.l0 k s (a : Int) ((n : Int) - 1) = some (bk a (lastL s.data.toList (cutL s.data.toList a 4) n)) := by
 have hsl : s.data.toList.length = s.size := by simp
 intro n
 induction n with
 | zero =>
  intro _ k hk
  obtain ⟨k, rfl⟩ : ∃ k', k = k' + 2 := ⟨k - 2, by omega⟩
  rw [pollardref04_back.l0]
  rw [if_neg (by omega), pollardref04_back.j1]
  rw [if_neg (by decide)]
  rfl
 | succ n ih =>
  intro hn k hk
  obtain ⟨k, rfl⟩ : ∃ k', k = k' + 2 := ⟨k - 2, by omega⟩
  rw [show ((n + 1 : Nat) : Int) - 1 = (n : Int) by omega, pollardref04_back.l0]
  rw [if_pos (by omega), w_sub (by omega) (by omega), show decide (((a - n : Nat) : Int) ≤ 32768) = true from decide_eq_true (by omega), pollardref04_back.j1]
  rw [if_pos rfl, if_pos (by omega), show (4 : Int) = ((4 : Nat) : Int) from rfl, w_add (by omega), if_pos (by omega), if_pos (by omega), if_pos (by omega), w_add (by omega), if_pos (by omega), if_pos (by omega)]
  rw [show ((n : Int)).toNat = n from rfl, show (((n + 4 : Nat) : Int)).toNat = n + 4 from rfl, show ((a : Int)).toNat = a from rfl, show (((a + 4 : Nat) : Int)).toNat = a + 4 from rfl, ext_ofL, ext_ofL, ofL_toList, ofL_toList, show n + 4 - n = 4 by omega, show a + 4 - a = 4 by omega]
  by_cases e : cutL s.data.toList n 4 = cutL s.data.toList a 4
  ·
   rw [if_pos e]
   have : lastL s.data.toList (cutL s.data.toList a 4) (n + 1) = some n := by unfold lastL; rw [if_pos ⟨by omega, e⟩]
   rw [this, w_sub (by omega) (by omega)]
   rfl
  ·
   rw [if_neg e]
   have : lastL s.data.toList (cutL s.data.toList a 4) (n + 1) = lastL s.data.toList (cutL s.data.toList a 4) n := by
    conv => lhs; unfold lastL
    rw [if_neg (fun h => e h.2)]
   rw [this, wrapI (x := (n : Int) - 1) (by omega) (by omega)]
   exact ih (by omega) k (by omega)
include hs in
theorem back_pure {a : Nat} (ha : a ≤ s.size) (k : Nat) (hk : 2 * a + 3 ≤ k) : pollardref04_back.f k s (a : Int) = some (bk a (if a + 4 ≤ s.data.toList.length then lastL s.data.toList (cutL s.data.toList a 4) a else none)) := by
 have hsl : s.data.toList.length = s.size := by simp
 unfold pollardref04_back.f
 rw [show (4 : Int) = ((4 : Nat) : Int) from rfl, w_add (by omega)]
 by_cases c : a + 4 ≤ s.size
 ·
  rw [if_neg (by omega), if_pos (by omega), wrapI (x := (a : Int) - 1) (by omega) (by omega)]
  exact back_ok hs c a (Nat.le_refl _) k hk
 ·
  rw [if_pos (by omega), if_neg (by omega)]
  rfl

include hs in
theorem pcont_ok {fr a n d : Nat} {out : List UInt8} {r : ByteArray} {K : Nat} (hf : fr ≤ a) (ha : a ≤ s.size) (hn1 : 4 ≤ n) (hn : n ≤ 1000) (hd : d ≤ 1000) (ho : out.length ≤ 100000)
  (h : ∀ k, K ≤ k → pollardref04_Press.l0 k s (ofL (out ++ (numL (a - fr) ++ cutL s.data.toList fr (a - fr) ++ numL d ++ numL (n - 4)))) (ofL []) ((a + n : Nat) : Int) = some r) (k : Nat) (hk : K + 8 ≤ k) :
  ((pollardref02_Num.f k (IntKind.u64.wrap (((ofL (cutL s.data.toList fr (a - fr))).size : Int)))).bind fun t110 => (if t110.size + (ofL (cutL s.data.toList fr (a - fr))).size ≤ 9223372036854775807 then ((pollardref02_Num.f k (IntKind.u64.wrap ((d : Int)))).bind fun t111 => (if (t110 ++ ofL (cutL s.data.toList fr (a - fr))).size + t111.size ≤ 9223372036854775807 then ((pollardref02_Num.f k (IntKind.u64.wrap (wrap64 ((n : Int) - 4)))).bind fun t112 => (if ((t110 ++ ofL (cutL s.data.toList fr (a - fr))) ++ t111).size + t112.size ≤ 9223372036854775807 then (if (ofL out).size + (((t110 ++ ofL (cutL s.data.toList fr (a - fr))) ++ t111) ++ t112).size ≤ 9223372036854775807 then (pollardref04_Press.l0 k s (ofL out ++ (((t110 ++ ofL (cutL s.data.toList fr (a - fr))) ++ t111) ++ t112)) (⟨#[]⟩ : ByteArray) (((a + n : Nat) : Int))) else (none)) else (none))) else (none))) else (none))) = some r := by
 obtain ⟨k, rfl⟩ : ∃ k', k = k' + 6 := ⟨k - 6, by omega⟩
 have hsl : s.data.toList.length = s.size := by simp
 have c1 : (cutL s.data.toList fr (a - fr)).length = a - fr := cutL_len (by omega)
 have c2 := numL_le (a - fr)
 have c3 := numL_le d
 have c4 := numL_le (n - 4)
 rw [ofL_size, c1, wrapU (by omega) (by omega), ref_num_pure (by omega), Option.bind_some]
 change (if (ofL (numL _)).size + _ ≤ 9223372036854775807 then _ else _) = _
 rw [ofL_size, if_pos (by omega), wrapU (by omega) (by omega), ref_num_pure (by omega), Option.bind_some]
 change (if (ofL (numL _) ++ ofL _).size + (ofL (numL _)).size ≤ 9223372036854775807 then _ else _) = _
 rw [ofL_app, ofL_size, ofL_size, if_pos (by simp only [List.length_append]; omega), wrapI (x := (n : Int) - 4) (by omega) (by omega), wrapU (by omega) (by omega), show (n : Int) - 4 = ((n - 4 : Nat) : Int) by omega, ref_num_pure (by omega), Option.bind_some]
 change (if (ofL (numL _) ++ ofL _ ++ ofL (numL _)).size + (ofL (numL _)).size ≤ 9223372036854775807 then (if _ + (ofL (numL _) ++ ofL _ ++ ofL (numL _) ++ ofL (numL _)).size ≤ 9223372036854775807 then pollardref04_Press.l0 _ _ (ofL _ ++ (ofL (numL _) ++ ofL _ ++ ofL (numL _) ++ ofL (numL _))) _ _ else _) else _) = _
 rw [ofL_app, ofL_app, ofL_app, ofL_app, ofL_size, ofL_size, ofL_size, ofL_size, if_pos (by simp only [List.length_append]; omega), if_pos (by simp only [List.length_append]; omega)]
 exact h _ (by omega)

include hs in
theorem pinner_ok {fr a q : Nat} {out : List UInt8} {r : ByteArray} (hf : fr ≤ a) (ha : a + 4 ≤ s.size) (hq : q < a) (ho : out.length ≤ 100000) : ∀ (f n : Nat), 4 ≤ n → a + n ≤ s.size → s.size - (a + n) ≤ f → ∀ {K : Nat},
  (∀ k, K ≤ k → pollardref04_Press.l0 k s (ofL (out ++ (numL (a - fr) ++ cutL s.data.toList fr (a - fr) ++ numL (a - q) ++ numL (sameL s.data.toList s.data.toList a q f n - 4)))) (ofL []) ((a + sameL s.data.toList s.data.toList a q f n : Nat) : Int) = some r) →
  ∀ k, K + f + 10 ≤ k → pollardref04_Press.l1 k s (ofL out) (ofL (cutL s.data.toList fr (a - fr))) (a : Int) ((a - q : Nat) : Int) (n : Int) = some r := by
 have hsl : s.data.toList.length = s.size := by simp
 intro f
 induction f with
 | zero =>
  intro n hn h1 h3 K h k hk
  obtain ⟨k, rfl⟩ : ∃ k', k = k' + 1 := ⟨k - 1, by omega⟩
  have e : sameL s.data.toList s.data.toList a q 0 n = n := by unfold sameL; rfl
  rw [e] at h
  rw [pollardref04_Press.l1]
  rw [w_add (by omega), if_neg (by omega)]
  exact pcont_ok hs hf (by omega) (by omega : 4 ≤ n) (by omega) (by omega) ho h k (by omega)
 | succ f ih =>
  intro n hn h1 h3 K h k hk
  obtain ⟨k, rfl⟩ : ∃ k', k = k' + 1 := ⟨k - 1, by omega⟩
  rw [pollardref04_Press.l1]
  by_cases c1 : a + n < s.size
  ·
   have c2 : q + n < s.size := by omega
   by_cases c3 : s.data.toList[a + n]? = s.data.toList[q + n]?
   ·
    rw [w_add (by omega), w_one (by omega), w_sub (by omega) (by omega), show a + n - (a - q) = q + n by omega, if_pos (by omega), if_pos (by omega), if_pos (by omega), if_pos (by omega), if_pos ((bt_eq c1 c2).2 c3)]
    have e : sameL s.data.toList s.data.toList a q (f + 1) n = sameL s.data.toList s.data.toList a q f (n + 1) := by
     conv => lhs; unfold sameL
     rw [if_pos ⟨by omega, by omega, c3⟩]
    rw [e] at h
    exact ih (n + 1) (by omega) (by omega) (by omega) h k (by omega)
   ·
    have e : sameL s.data.toList s.data.toList a q (f + 1) n = n := by
     unfold sameL
     rw [if_neg (fun h => c3 h.2.2)]
    rw [e] at h
    rw [w_add (by omega), w_sub (by omega) (by omega), show a + n - (a - q) = q + n by omega, if_pos (by omega), if_pos (by omega), if_pos (by omega), if_pos (by omega), if_neg (fun h => c3 ((bt_eq c1 c2).1 h))]
    exact pcont_ok hs hf (by omega) (by omega : 4 ≤ n) (by omega) (by omega) ho h k (by omega)
  ·
   have e : sameL s.data.toList s.data.toList a q (f + 1) n = n := by
    unfold sameL
    rw [if_neg (fun h => by omega)]
   rw [e] at h
   rw [w_add (by omega), if_neg (by omega)]
   exact pcont_ok hs hf (by omega) (by omega : 4 ≤ n) (by omega) (by omega) ho h k (by omega)

theorem cut_one {l : List UInt8} {fr a : Nat} (h : fr ≤ a) : cutL l fr (a - fr) ++ cutL l a 1 = cutL l fr (a + 1 - fr) := by
 unfold cutL
 rw [show a + 1 - fr = (a - fr) + 1 by omega, List.take_add, List.drop_drop, show fr + (a - fr) = a by omega]
theorem cut_drop (l : List UInt8) (a : Nat) : cutL l a (l.length - a) = l.drop a := by
 unfold cutL
 exact List.take_of_length_le (by rw [List.length_drop]; omega)

include hs in
theorem press_ok : ∀ (f fr a : Nat) (out : List UInt8), fr ≤ a → a ≤ s.size → s.size - a ≤ f → out.length + (s.size - fr) + 8 * (s.size - a) ≤ 50000 →
  ∃ K, ∀ k, K ≤ k → pollardref04_Press.l0 k s (ofL out) (ofL (cutL s.data.toList fr (a - fr))) (a : Int) = some (ofL (out ++ pressR s.data.toList f fr a)) := by
 have hsl : s.data.toList.length = s.size := by simp
 have hfin : ∀ (fr : Nat) (out : List UInt8), fr ≤ s.size → out.length ≤ 50000 → ∀ k, 8 ≤ k → pollardref04_Press.l0 k s (ofL out) (ofL (cutL s.data.toList fr (s.size - fr))) (s.size : Int) = some (ofL (out ++ (if fr < s.data.toList.length then numL (s.data.toList.length - fr) ++ s.data.toList.drop fr else []))) := by
  intro fr out h1 h4 k hk
  obtain ⟨k, rfl⟩ : ∃ k', k = k' + 7 := ⟨k - 7, by omega⟩
  rw [pollardref04_Press.l0]
  have c2 := cutL_le s.data.toList fr (s.size - fr)
  have c3 : (cutL s.data.toList fr (s.size - fr)).length = s.size - fr := cutL_len (by omega)
  have c4 := numL_le (s.size - fr)
  rw [if_neg (by omega), ofL_toList]
  by_cases c : fr < s.size
  ·
   rw [if_neg (fun e => by rw [e] at c3; simp at c3; omega), if_pos (by omega), ofL_size, c3, wrapU (by omega) (by omega), ref_num_pure (by omega), Option.bind_some]
   change (if (ofL (numL _)).size + _ ≤ 9223372036854775807 then (if _ + (ofL (numL _) ++ _).size ≤ 9223372036854775807 then some (_ ++ (ofL (numL _) ++ _)) else _) else _) = _
   rw [ofL_size, ofL_size, if_pos (by omega), ofL_app, ofL_size, if_pos (by simp only [List.length_append]; omega), ofL_app, hsl, ← hsl, cut_drop]
  ·
   have e : cutL s.data.toList fr (s.size - fr) = [] := List.eq_nil_of_length_eq_zero (by omega)
   rw [if_pos e, if_neg (by omega), List.append_nil]
 intro f
 induction f with
 | zero =>
  intro fr a out h1 h2 h3 h4
  obtain rfl : a = s.size := by omega
  exact ⟨8, hfin fr out h1 (by omega)⟩
 | succ f ih =>
  intro fr a out h1 h2 h3 h4
  by_cases c : s.size ≤ a
  ·
   obtain rfl : a = s.size := by omega
   have e : pressR s.data.toList (f + 1) fr s.size = (if fr < s.data.toList.length then numL (s.data.toList.length - fr) ++ s.data.toList.drop fr else []) := by unfold pressR; rw [if_pos (by omega)]
   rw [e]
   exact ⟨8, hfin fr out h1 (by omega)⟩
  ·
   cases hk : (if a + 4 ≤ s.data.toList.length then lastL s.data.toList (cutL s.data.toList a 4) a else none) with
   | none =>
    have e : pressR s.data.toList (f + 1) fr a = pressR s.data.toList f fr (a + 1) := by
     conv => lhs; unfold pressR
     rw [if_neg (by omega), hk]
    obtain ⟨K, hK⟩ := ih fr (a + 1) out (by omega) (by omega) (by omega) (by omega)
    refine ⟨K + 2 * a + 10, fun k hk' => ?_⟩
    obtain ⟨k, rfl⟩ : ∃ k', k = k' + 1 := ⟨k - 1, by omega⟩
    have c1 := cutL_le s.data.toList fr (a - fr)
    have c2 := cutL_le s.data.toList a 1
    rw [pollardref04_Press.l0]
    rw [if_pos (by omega), back_pure hs (by omega) k (by omega), hk, Option.bind_some, if_pos (show bk a none = 0 from rfl), if_pos (by omega), w_one (by omega), if_pos (by omega), if_pos (by omega), show ((a : Int)).toNat = a from rfl, show (((a + 1 : Nat) : Int)).toNat = a + 1 from rfl, ext_ofL, show a + 1 - a = 1 by omega, ofL_size, ofL_size, if_pos (by omega), ofL_app, cut_one h1, e]
    exact hK k (by omega)
   | some q =>
    have h4' : a + 4 ≤ s.size := by
     split at hk
     ·
      omega
     ·
      cases hk
    rw [if_pos (by omega)] at hk
    obtain ⟨hq, _, _⟩ := lastL_lt hk
    have s1 := sameL_le (x := s.data.toList) (y := s.data.toList) (a := a) (b := q) s.data.toList.length 4 (by omega)
    obtain ⟨N, hN⟩ : ∃ N, N = sameL s.data.toList s.data.toList a q s.data.toList.length 4 := ⟨_, rfl⟩
    have e : pressR s.data.toList (f + 1) fr a = numL (a - fr) ++ cutL s.data.toList fr (a - fr) ++ numL (a - q) ++ numL (N - 4) ++ pressR s.data.toList f (a + N) (a + N) := by
     conv => lhs; unfold pressR
     rw [if_neg (by omega), if_pos (by omega), hk, hN]
    rw [← hN] at s1
    have c2 := cutL_le s.data.toList fr (a - fr)
    have c3 := numL_le (a - fr)
    have c4 := numL_le (a - q)
    have c5 := numL_le (N - 4)
    obtain ⟨K, hK⟩ := ih (a + N) (a + N) (out ++ (numL (a - fr) ++ cutL s.data.toList fr (a - fr) ++ numL (a - q) ++ numL (N - 4))) (Nat.le_refl _) (by omega) (by omega) (by simp only [List.length_append]; omega)
    have e0 : cutL s.data.toList (a + N) (a + N - (a + N)) = [] := by unfold cutL; rw [Nat.sub_self]; rfl
    have hin := pinner_ok hs (q := q) (out := out) h1 h4' hq (by omega) s.data.toList.length 4 (Nat.le_refl _) (by omega) (by omega) (K := K) (r := ofL (out ++ pressR s.data.toList (f + 1) fr a)) (by
     intro k hk'
     rw [← hN, e]
     have := hK k hk'
     rw [e0] at this
     rw [this]
     simp only [List.append_assoc])
    refine ⟨K + s.data.toList.length + 2 * a + 20, fun k hk' => ?_⟩
    obtain ⟨k, rfl⟩ : ∃ k', k = k' + 1 := ⟨k - 1, by omega⟩
    rw [pollardref04_Press.l0]
    rw [if_pos (by omega), back_pure hs (by omega) k (by omega), if_pos (by omega), hk, Option.bind_some]
    show (if ((a - q : Nat) : Int) = 0 then _ else pollardref04_Press.l1 k s (ofL out) _ (a : Int) ((a - q : Nat) : Int) 4) = _
    rw [if_neg (by omega)]
    exact hin k (by omega)
include hs in
theorem ref_press_pure : ∃ K, ∀ k, K ≤ k → pollardref04_Press.f k s = some (ofL (pressL s.data.toList)) := by
 have hsl : s.data.toList.length = s.size := by simp
 have c2 := numL_le s.size
 obtain ⟨K, hK⟩ := press_ok hs s.data.toList.length 0 0 (numL s.size) (Nat.le_refl _) (Nat.zero_le _) (by omega) (by omega)
 refine ⟨K + 6, fun k hk => ?_⟩
 obtain ⟨k, rfl⟩ : ∃ k', k = k' + 6 := ⟨k - 6, by omega⟩
 unfold pollardref04_Press.f
 rw [wrapU (by omega) (by omega), ref_num_pure (by omega), Option.bind_some]
 have := hK (k + 6) (by omega)
 unfold pressL
 rw [hsl]
 rw [hsl] at this
 exact this
end Go.Proofs
