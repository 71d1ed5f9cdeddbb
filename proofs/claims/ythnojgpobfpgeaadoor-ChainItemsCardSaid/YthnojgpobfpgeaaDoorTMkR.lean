/- The reference's Make. -/
import Derived.Test.YthnojgpobfpgeaaDoorTMk
import Derived.Test.YthnojgpobfpgeaaDoorPCa2
/-! The reference's Make. -/
namespace Go.Proofs
open Go.Ev Go.RowKit Go.Proofs.YthnojgpobfpgeaaDoor.PCa Go.Proofs.YthnojgpobfpgeaaDoorW.PrintWords

variable {b s : ByteArray} (hb : b.size ≤ 1000) (hs : s.size ≤ 1000)

/-- The reference's word for a place that may be none. -/
def plc (x : Option Nat) : Int := match x with
  | some q => (q : Int)
  | none => -1
include hb in
theorem block_ok (g : List UInt8) : ∀ (f j : Nat), j ≤ 2000 → b.size < j + 16 * f + 16 → ∀ k, f + 1 ≤ k → pollardref09_block.l0 k b (ofL g) (j : Int) = some (plc (blockL b.data.toList g f j)) := by
  have hbl : b.data.toList.length = b.size := by simp
  intro f
  induction f with
  | zero =>
    intro j hj h k hk
    obtain ⟨k, rfl⟩ : ∃ k', k = k' + 1 := ⟨k - 1, by omega⟩
    rw [pollardref09_block.l0]
    rw [show (16 : Int) = ((16 : Nat) : Int) from rfl, w_add (by omega), if_neg (by omega)]
    rfl
  | succ f ih =>
    intro j hj h k hk
    obtain ⟨k, rfl⟩ : ∃ k', k = k' + 1 := ⟨k - 1, by omega⟩
    rw [pollardref09_block.l0]
    rw [show (16 : Int) = ((16 : Nat) : Int) from rfl, w_add (by omega)]
    by_cases c : j + 16 ≤ b.size
    · rw [if_pos (by omega), if_pos (by omega), if_pos (by omega), show ((j : Int)).toNat = j from rfl, show (((j + 16 : Nat) : Int)).toNat = j + 16 from rfl, ext_ofL, ofL_toList, ofL_toList, show j + 16 - j = 16 by omega]
      by_cases e : cutL b.data.toList j 16 = g
      · rw [if_pos e]
        have : blockL b.data.toList g (f + 1) j = some j := by unfold blockL; rw [if_pos (by omega), if_pos e]
        rw [this]; rfl
      · rw [if_neg e]
        have : blockL b.data.toList g (f + 1) j = blockL b.data.toList g f (j + 16) := by conv => lhs; unfold blockL
                                                                                          rw [if_pos (by omega), if_neg e]
        rw [this]
        exact ih (j + 16) (by omega) (by omega) k (by omega)
    · rw [if_neg (by omega)]
      have : blockL b.data.toList g (f + 1) j = none := by unfold blockL; rw [if_neg (by omega)]
      rw [this]; rfl
include hb in
theorem block_pure (g : List UInt8) (k : Nat) (hk : b.size + 1 ≤ k) : pollardref09_block.f k b (ofL g) = some (plc (blockL b.data.toList g b.data.toList.length 0)) := by
  have hbl : b.data.toList.length = b.size := by simp
  unfold pollardref09_block.f
  exact block_ok hb g _ 0 (by omega) (by omega) k (by omega)

include hs in
theorem rcont_ok {fr a n q : Nat} {out : List UInt8} {r : ByteArray} {K : Nat} (hf : fr ≤ a) (ha : a ≤ s.size) (hn1 : 1 ≤ n) (hn : n ≤ 1000) (hq : q ≤ 1000) (ho : out.length ≤ 100000)
    (h : ∀ k, K ≤ k → pollardref09_Make.l0 k b s (ofL (out ++ (putL (cutL s.data.toList fr (a - fr)) ++ numL (2 * (n - 1) + 1) ++ numL q))) (ofL []) ((a + n : Nat) : Int) = some r) (k : Nat) (hk : K + 8 ≤ k) :
    ((pollardref09_put.f k (ofL (cutL s.data.toList fr (a - fr)))).bind fun t121 => ((pollardref02_Num.f k (IntKind.u64.wrap (wrap64 ((wrap64 (2 * (n : Int))) - 1)))).bind fun t122 => (if t121.size + t122.size ≤ 9223372036854775807 then ((pollardref02_Num.f k (IntKind.u64.wrap ((q : Int)))).bind fun t123 => (if (t121 ++ t122).size + t123.size ≤ 9223372036854775807 then (if (ofL out).size + ((t121 ++ t122) ++ t123).size ≤ 9223372036854775807 then (pollardref09_Make.l0 k b s (ofL out ++ ((t121 ++ t122) ++ t123)) (⟨#[]⟩ : ByteArray) (((a + n : Nat) : Int))) else (none)) else (none))) else (none)))) = some r := by
  obtain ⟨k, rfl⟩ : ∃ k', k = k' + 6 := ⟨k - 6, by omega⟩
  have c1 := cutL_le s.data.toList fr (a - fr)
  have c2 := putL_le (cutL s.data.toList fr (a - fr))
  have c3 := numL_le (2 * (n - 1) + 1)
  have c4 := numL_le q
  rw [put_pure (by omega), Option.bind_some,
    wrapI (x := 2 * (n : Int)) (by omega) (by omega), wrapI (x := 2 * (n : Int) - 1) (by omega) (by omega), wrapU (x := 2 * (n : Int) - 1) (by omega) (by omega), show 2 * (n : Int) - 1 = ((2 * (n - 1) + 1 : Nat) : Int) by omega, ref_num_pure (by omega), Option.bind_some]
  change (if (ofL _).size + (ofL (numL _)).size ≤ 9223372036854775807 then _ else _) = _
  rw [ofL_size, ofL_size, if_pos (by omega), wrapU (by omega) (by omega), ref_num_pure (by omega), Option.bind_some]
  change (if (ofL _ ++ ofL (numL _)).size + (ofL (numL _)).size ≤ 9223372036854775807 then (if _ + (ofL _ ++ ofL (numL _) ++ ofL (numL _)).size ≤ 9223372036854775807 then pollardref09_Make.l0 _ _ _ (ofL _ ++ (ofL _ ++ ofL (numL _) ++ ofL (numL _))) _ _ else _) else _) = _
  rw [ofL_app, ofL_app, ofL_app, ofL_size, ofL_size, ofL_size, ofL_size, if_pos (by simp only [List.length_append]; omega), if_pos (by simp only [List.length_append]; omega)]
  exact h _ (by omega)

include hb hs in
theorem rinner_ok {fr a q : Nat} {out : List UInt8} {r : ByteArray} (hf : fr ≤ a) (ha : a + 16 ≤ s.size) (hq : q + 16 ≤ b.size) (ho : out.length ≤ 100000) : ∀ (f n : Nat), 16 ≤ n → a + n ≤ s.size → q + n ≤ b.size → s.size - (a + n) ≤ f → ∀ {K : Nat},
    (∀ k, K ≤ k → pollardref09_Make.l0 k b s (ofL (out ++ (putL (cutL s.data.toList fr (a - fr)) ++ numL (2 * (sameL s.data.toList b.data.toList a q f n - 1) + 1) ++ numL q))) (ofL []) ((a + sameL s.data.toList b.data.toList a q f n : Nat) : Int) = some r) →
    ∀ k, K + f + 10 ≤ k → pollardref09_Make.l1 k b s (ofL out) (ofL (cutL s.data.toList fr (a - fr))) (a : Int) (q : Int) (n : Int) = some r := by
  have hsl : s.data.toList.length = s.size := by simp
  have hbl : b.data.toList.length = b.size := by simp
  intro f
  induction f with
  | zero =>
    intro n hn h1 h2 h3 K h k hk
    obtain ⟨k, rfl⟩ : ∃ k', k = k' + 1 := ⟨k - 1, by omega⟩
    have e : sameL s.data.toList b.data.toList a q 0 n = n := by unfold sameL; rfl
    rw [e] at h
    rw [pollardref09_Make.l1]
    rw [w_add (by omega), if_neg (by omega)]
    exact rcont_ok (b := b) hs hf (by omega) (by omega : 1 ≤ n) (by omega) (by omega) ho h k (by omega)
  | succ f ih =>
    intro n hn h1 h2 h3 K h k hk
    obtain ⟨k, rfl⟩ : ∃ k', k = k' + 1 := ⟨k - 1, by omega⟩
    rw [pollardref09_Make.l1]
    by_cases c1 : a + n < s.size
    · by_cases c2 : q + n < b.size
      · by_cases c3 : s.data.toList[a + n]? = b.data.toList[q + n]?
        · rw [w_add (by omega), w_add (by omega), w_one (by omega), if_pos (by omega), if_pos (by omega), if_pos (by omega), if_pos (by omega), if_pos ((bt_eq c1 c2).2 c3)]
          have e : sameL s.data.toList b.data.toList a q (f + 1) n = sameL s.data.toList b.data.toList a q f (n + 1) := by
            conv => lhs; unfold sameL
            rw [if_pos ⟨by omega, by omega, c3⟩]
          rw [e] at h
          exact ih (n + 1) (by omega) (by omega) (by omega) (by omega) h k (by omega)
        · have e : sameL s.data.toList b.data.toList a q (f + 1) n = n := by
            unfold sameL
            rw [if_neg (fun h => c3 h.2.2)]
          rw [e] at h
          rw [w_add (by omega), w_add (by omega), if_pos (by omega), if_pos (by omega), if_pos (by omega), if_pos (by omega), if_neg (fun h => c3 ((bt_eq c1 c2).1 h))]
          exact rcont_ok (b := b) hs hf (by omega) (by omega : 1 ≤ n) (by omega) (by omega) ho h k (by omega)
      · have e : sameL s.data.toList b.data.toList a q (f + 1) n = n := by
          unfold sameL
          rw [if_neg (fun h => by omega)]
        rw [e] at h
        rw [w_add (by omega), w_add (by omega), if_pos (by omega), if_neg (by omega)]
        exact rcont_ok (b := b) hs hf (by omega) (by omega : 1 ≤ n) (by omega) (by omega) ho h k (by omega)
    · have e : sameL s.data.toList b.data.toList a q (f + 1) n = n := by
        unfold sameL
        rw [if_neg (fun h => by omega)]
      rw [e] at h
      rw [w_add (by omega), if_neg (by omega)]
      exact rcont_ok (b := b) hs hf (by omega) (by omega : 1 ≤ n) (by omega) (by omega) ho h k (by omega)

theorem cut_one {l : List UInt8} {fr a : Nat} (h : fr ≤ a) : cutL l fr (a - fr) ++ cutL l a 1 = cutL l fr (a + 1 - fr) := by
  unfold cutL
  rw [show a + 1 - fr = (a - fr) + 1 by omega, List.take_add, List.drop_drop, show fr + (a - fr) = a by omega]

include hs in
/-- No block at a place: the byte waits. -/
theorem lone_step {fr a : Nat} {out : List UInt8} {r : ByteArray} {k : Nat} (hf : fr ≤ a) (ha : a < s.size) (h : pollardref09_Make.l0 k b s (ofL out) (ofL (cutL s.data.toList fr (a + 1 - fr))) ((a + 1 : Nat) : Int) = some r) :
    pollardref09_Make.j1 (k + 1) b s (ofL out) (ofL (cutL s.data.toList fr (a - fr))) (a : Int) (-1) = some r := by
  have c1 := cutL_le s.data.toList fr (a - fr)
  have c2 := cutL_le s.data.toList a 1
  rw [pollardref09_Make.j1]
  rw [if_pos (by omega), if_pos (by omega), w_one (by omega), if_pos (by omega), if_pos (by omega), show ((a : Int)).toNat = a from rfl, show (((a + 1 : Nat) : Int)).toNat = a + 1 from rfl, ext_ofL, show a + 1 - a = 1 by omega, ofL_size, ofL_size, if_pos (by omega), ofL_app, cut_one hf]
  exact h

include hb hs in
theorem router_ok : ∀ (f fr a : Nat) (out : List UInt8), fr ≤ a → a ≤ s.size → s.size - a ≤ f → out.length + (s.size - fr) + 8 * (s.size - a) ≤ 50000 →
    ∃ K, ∀ k, K ≤ k → pollardref09_Make.l0 k b s (ofL out) (ofL (cutL s.data.toList fr (a - fr))) (a : Int) = some (ofL (out ++ deltaR b.data.toList s.data.toList f fr a)) := by
  have hsl : s.data.toList.length = s.size := by simp
  have hbl : b.data.toList.length = b.size := by simp
  have hfin : ∀ (fr : Nat) (out : List UInt8), fr ≤ s.size → out.length ≤ 50000 → ∀ k, 8 ≤ k → pollardref09_Make.l0 k b s (ofL out) (ofL (cutL s.data.toList fr (s.size - fr))) (s.size : Int) = some (ofL (out ++ putL (s.data.toList.drop fr))) := by
    intro fr out h1 h4 k hk
    obtain ⟨k, rfl⟩ : ∃ k', k = k' + 7 := ⟨k - 7, by omega⟩
    rw [pollardref09_Make.l0]
    have c1 := putL_le (cutL s.data.toList fr (s.size - fr))
    have c2 := cutL_le s.data.toList fr (s.size - fr)
    rw [if_neg (by omega), put_pure (by omega), Option.bind_some, ofL_size, ofL_size, if_pos (by omega), ofL_app, ← hsl, cut_drop]
  have hend : ∀ (m fr a : Nat) (out : List UInt8), fr ≤ a → a ≤ s.size → s.size < a + 16 → s.size - a = m → out.length ≤ 50000 → ∀ k, 8 + 2 * m ≤ k → pollardref09_Make.l0 k b s (ofL out) (ofL (cutL s.data.toList fr (a - fr))) (a : Int) = some (ofL (out ++ putL (s.data.toList.drop fr))) := by
    intro m
    induction m with
    | zero =>
      intro fr a out h0 h1 h2 h3 h4 k hk
      obtain rfl : a = s.size := by omega
      exact hfin fr out h0 h4 k (by omega)
    | succ m ih =>
      intro fr a out h0 h1 h2 h3 h4 k hk
      obtain ⟨k, rfl⟩ : ∃ k', k = k' + 2 := ⟨k - 2, by omega⟩
      rw [pollardref09_Make.l0]
      rw [if_pos (by omega), show (16 : Int) = ((16 : Nat) : Int) from rfl, w_add (by omega), if_neg (by omega)]
      exact lone_step hs h0 (by omega) (ih fr (a + 1) out (by omega) (by omega) (by omega) (by omega) h4 k (by omega))
  intro f
  induction f with
  | zero =>
    intro fr a out h1 h2 h3 h4
    exact ⟨_, hend _ fr a out h1 h2 (by omega) rfl (by omega)⟩
  | succ f ih =>
    intro fr a out h1 h2 h3 h4
    by_cases c : s.size < a + 16
    · have e : deltaR b.data.toList s.data.toList (f + 1) fr a = putL (s.data.toList.drop fr) := by unfold deltaR; rw [if_pos (by omega)]
      rw [e]
      exact ⟨_, hend _ fr a out h1 h2 c rfl (by omega)⟩
    · cases hk : blockL b.data.toList (cutL s.data.toList a 16) b.data.toList.length 0 with
      | none =>
        have e : deltaR b.data.toList s.data.toList (f + 1) fr a = deltaR b.data.toList s.data.toList f fr (a + 1) := by
          conv => lhs; unfold deltaR
          rw [if_neg (by omega), hk]
        obtain ⟨K, hK⟩ := ih fr (a + 1) out (by omega) (by omega) (by omega) (by omega)
        refine ⟨K + b.size + 10, fun k hk' => ?_⟩
        obtain ⟨k, rfl⟩ : ∃ k', k = k' + 2 := ⟨k - 2, by omega⟩
        rw [pollardref09_Make.l0]
        rw [if_pos (by omega), show (16 : Int) = ((16 : Nat) : Int) from rfl, w_add (by omega), if_pos (by omega), if_pos (by omega), if_pos (by omega), show ((a : Int)).toNat = a from rfl, show (((a + 16 : Nat) : Int)).toNat = a + 16 from rfl, ext_ofL, show a + 16 - a = 16 by omega, block_pure hb _ _ (by omega), hk, Option.bind_some, e]
        exact lone_step hs h1 (by omega) (hK k (by omega))
      | some q =>
        obtain ⟨_, hq, _⟩ := blockL_ok hk
        have s1 := sameL_le (x := s.data.toList) (y := b.data.toList) (a := a) (b := q) s.data.toList.length 16 (by omega)
        have s2 := sameL_le2 (x := s.data.toList) (y := b.data.toList) (a := a) (b := q) s.data.toList.length 16 (by omega)
        obtain ⟨N, hN⟩ : ∃ N, N = sameL s.data.toList b.data.toList a q s.data.toList.length 16 := ⟨_, rfl⟩
        have e : deltaR b.data.toList s.data.toList (f + 1) fr a = putL (cutL s.data.toList fr (a - fr)) ++ numL (2 * (N - 1) + 1) ++ numL q ++ deltaR b.data.toList s.data.toList f (a + N) (a + N) := by
          conv => lhs; unfold deltaR
          rw [if_neg (by omega), hk, hN]
        rw [← hN] at s1 s2
        have c1 := putL_le (cutL s.data.toList fr (a - fr))
        have c2 := cutL_le s.data.toList fr (a - fr)
        have c3 := numL_le (2 * (N - 1) + 1)
        have c4 := numL_le q
        obtain ⟨K, hK⟩ := ih (a + N) (a + N) (out ++ (putL (cutL s.data.toList fr (a - fr)) ++ numL (2 * (N - 1) + 1) ++ numL q)) (Nat.le_refl _) (by omega) (by omega) (by simp only [List.length_append]; omega)
        have e0 : cutL s.data.toList (a + N) (a + N - (a + N)) = [] := by unfold cutL; rw [Nat.sub_self]; rfl
        have hin := rinner_ok hb hs (q := q) (out := out) h1 (by omega) (by omega) (by omega) s.data.toList.length 16 (Nat.le_refl _) (by omega) (by omega) (by omega) (K := K) (r := ofL (out ++ deltaR b.data.toList s.data.toList (f + 1) fr a)) (by
          intro k hk'
          rw [← hN, e]
          have := hK k hk'
          rw [e0] at this
          rw [this]
          simp only [List.append_assoc])
        refine ⟨K + s.data.toList.length + b.size + 20, fun k hk' => ?_⟩
        obtain ⟨k, rfl⟩ : ∃ k', k = k' + 2 := ⟨k - 2, by omega⟩
        rw [pollardref09_Make.l0]
        rw [if_pos (by omega), show (16 : Int) = ((16 : Nat) : Int) from rfl, w_add (by omega), if_pos (by omega), if_pos (by omega), if_pos (by omega), show ((a : Int)).toNat = a from rfl, show (((a + 16 : Nat) : Int)).toNat = a + 16 from rfl, ext_ofL, show a + 16 - a = 16 by omega, block_pure hb _ _ (by omega), hk, Option.bind_some]
        show pollardref09_Make.j1 (k + 1) b s (ofL out) _ _ (q : Int) = _
        rw [pollardref09_Make.j1]
        rw [if_neg (by omega)]
        exact hin k (by omega)

include hb hs in
theorem ref_make_pure : ∃ K, ∀ k, K ≤ k → pollardref09_Make.f k b s = some (ofL (deltaL b.data.toList s.data.toList)) := by
  have hsl : s.data.toList.length = s.size := by simp
  have hbl : b.data.toList.length = b.size := by simp
  have c1 := numL_le b.size
  have c2 := numL_le s.size
  obtain ⟨K, hK⟩ := router_ok hb hs s.data.toList.length 0 0 (numL b.size ++ numL s.size) (Nat.le_refl _) (Nat.zero_le _) (by omega) (by simp only [List.length_append]; omega)
  refine ⟨K + 6, fun k hk => ?_⟩
  obtain ⟨k, rfl⟩ : ∃ k', k = k' + 6 := ⟨k - 6, by omega⟩
  unfold pollardref09_Make.f
  rw [wrapU (by omega) (by omega), ref_num_pure (by omega), Option.bind_some, wrapU (by omega) (by omega), ref_num_pure (by omega), Option.bind_some]
  change (if (ofL _).size + (ofL _).size ≤ 9223372036854775807 then pollardref09_Make.l0 _ _ _ (ofL _ ++ ofL _) _ _ else _) = _
  rw [ofL_size, ofL_size, if_pos (by omega), ofL_app]
  have := hK (k + 6) (by omega)
  unfold deltaL
  rw [hbl, hsl]
  rw [hsl] at this
  exact this
end Go.Proofs
