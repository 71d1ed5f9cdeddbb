/- ChainItems answers true: plain. -/
import Derived.Test.YthnojgpobfpgeaaDoorPCb4
/-! ChainItems answers true: plain. -/
namespace Go.Proofs
open Go.Ev Go.RowKit Go.Proofs.YthnojgpobfpgeaaDoor.PCa Go.Proofs.YthnojgpobfpgeaaDoor.PCb Go.Proofs.YthnojgpobfpgeaaDoor.PCg Go.Proofs.YthnojgpobfpgeaaDoorW.PrintWords

theorem digit_some (n : Int) : ∃ t : ByteArray, t.size = 1 ∧ pollardref02_digit.f n = some t := by
 unfold pollardref02_digit.f
 split <;> exact ⟨_, rfl, rfl⟩
theorem dec_some : ∀ (d n : Nat), d ≤ 5 → n < 10 ^ (d + 1) → n < 1000000 → ∃ t : ByteArray, t.size ≤ d + 1 ∧ ∀ k, d + 1 ≤ k → pollardref02_Dec.f k (n : Int) = some t := by
 intro d
 induction d with
 | zero =>
  intro n _ h _
  obtain ⟨t, h1, h2⟩ := digit_some (wrap64 (n : Int))
  refine ⟨t, by omega, fun k hk => ?_⟩
  obtain ⟨k, rfl⟩ : ∃ k', k = k' + 1 := ⟨k - 1, by omega⟩
  rw [pollardref02_Dec.f]
  rw [if_pos (by omega), h2, Option.bind_some]
 | succ d ih =>
  intro n hd h hm
  by_cases c : n < 10
  ·
   obtain ⟨t, h1, h2⟩ := digit_some (wrap64 (n : Int))
   refine ⟨t, by omega, fun k hk => ?_⟩
   obtain ⟨k, rfl⟩ : ∃ k', k = k' + 1 := ⟨k - 1, by omega⟩
   rw [pollardref02_Dec.f]
   rw [if_pos (by omega), h2, Option.bind_some]
  ·
   obtain ⟨t, h1, h2⟩ := ih (n / 10) (by omega) (by rw [Nat.pow_succ] at h; omega) (by omega)
   obtain ⟨u, h3, h4⟩ := digit_some (wrap64 (Int.tmod (n : Int) 10))
   refine ⟨t ++ u, by rw [ByteArray.size_append]; omega, fun k hk => ?_⟩
   obtain ⟨k, rfl⟩ : ∃ k', k = k' + 1 := ⟨k - 1, by omega⟩
   rw [pollardref02_Dec.f]
   rw [if_neg (by omega), show Int.tdiv (n : Int) 10 = ((n / 10 : Nat) : Int) from rfl, wrapU (by omega) (by omega), h2 k (by omega), Option.bind_some, h4, Option.bind_some, if_pos (by omega)]

theorem kind_blob : pollardref07_kind.f 1 = some ⟨#[98, 108, 111, 98]⟩ := rfl
theorem raw_some (s : ByteArray) (h : s.size ≤ 250) : ∃ t : ByteArray, t.size ≤ 300 ∧ ∀ k, 3 ≤ k → pollardref07_Raw.f k 1 s = some t := by
 obtain ⟨t, h1, h2⟩ := dec_some 2 s.size (by omega) (by omega) (by omega)
 have e1 : (⟨#[98, 108, 111, 98]⟩ : ByteArray).size = 4 := rfl
 have e2 : (⟨#[32]⟩ : ByteArray).size = 1 := rfl
 have e3 : (⟨#[0]⟩ : ByteArray).size = 1 := rfl
 refine ⟨(⟨#[98, 108, 111, 98]⟩ : ByteArray) ++ (⟨#[32]⟩ : ByteArray) ++ t ++ (⟨#[0]⟩ : ByteArray) ++ s, ?_, fun k hk => ?_⟩
 ·
  rw [ByteArray.size_append, ByteArray.size_append, ByteArray.size_append, ByteArray.size_append]; omega
 ·
  unfold pollardref07_Raw.f
  rw [kind_blob, Option.bind_some, if_pos (by omega), wrapU (by omega) (by omega), h2 k hk, Option.bind_some, if_pos (by rw [ByteArray.size_append]; omega), if_pos (by rw [ByteArray.size_append, ByteArray.size_append]; omega), if_pos (by rw [ByteArray.size_append, ByteArray.size_append, ByteArray.size_append]; omega)]

/-- The inner loop of Blobs: it goes on with the text or without it. -/
theorem blobs_inner {x0 out : List ByteArray} {i : Int} {raw : ByteArray} {rA rB : List ByteArray} (ho : out.length ≤ 1000)
  (hA : ∃ K, ∀ k, K ≤ k → pollardlaw12_Blobs.l0 k x0 20 out (wrap64 (i + 1)) = some rA) (hB : ∃ K, ∀ k, K ≤ k → pollardlaw12_Blobs.l0 k x0 20 (out ++ [raw]) (wrap64 (i + 1)) = some rB) :
  ∀ (d j : Nat) (tw : Bool), j ≤ out.length → out.length - j = d → ∃ r, (r = rA ∨ r = rB) ∧ ∃ K, ∀ k, K ≤ k → pollardlaw12_Blobs.l1 k x0 20 out i raw tw (j : Int) = some r := by
 intro d
 induction d with
 | zero =>
  intro j tw h1 h2
  obtain ⟨KA, hA⟩ := hA
  obtain ⟨KB, hB⟩ := hB
  cases tw with
  | true =>
   refine ⟨rA, .inl rfl, KA + 1, fun k hk => ?_⟩
   obtain ⟨k, rfl⟩ : ∃ k', k = k' + 1 := ⟨k - 1, by omega⟩
   rw [pollardlaw12_Blobs.l1]
   rw [if_neg (by omega), if_pos rfl]
   exact hA k (by omega)
  | false =>
   refine ⟨rB, .inr rfl, KB + 1, fun k hk => ?_⟩
   obtain ⟨k, rfl⟩ : ∃ k', k = k' + 1 := ⟨k - 1, by omega⟩
   rw [pollardlaw12_Blobs.l1]
   rw [if_neg (by omega), if_neg (by decide), if_pos (by omega)]
   exact hB k (by omega)
 | succ d ih =>
  intro j tw h1 h2
  cases tw with
  | true =>
   obtain ⟨r, hr, K, hK⟩ := ih (j + 1) true (by omega) (by omega)
   refine ⟨r, hr, K + 1, fun k hk => ?_⟩
   obtain ⟨k, rfl⟩ : ∃ k', k = k' + 1 := ⟨k - 1, by omega⟩
   rw [pollardlaw12_Blobs.l1]
   rw [if_pos (by omega), if_pos rfl, w_one (by omega)]
   exact hK k (by omega)
  | false =>
   obtain ⟨r, hr, K, hK⟩ := ih (j + 1) ((rdOf ByteArray.empty out (j : Int)).toList == raw.toList) (by omega) (by omega)
   refine ⟨r, hr, K + 1, fun k hk => ?_⟩
   obtain ⟨k, rfl⟩ : ∃ k', k = k' + 1 := ⟨k - 1, by omega⟩
   rw [pollardlaw12_Blobs.l1]
   rw [if_pos (by omega), if_neg (by decide), if_pos (by omega), w_one (by omega)]
   exact hK k (by omega)

def Raws (l : List ByteArray) : Prop := l.length ≤ 20 ∧ ∀ r ∈ l, r.size ≤ 300
theorem blobs_outer {x0 : List ByteArray} (hx : x0.length ≤ 9223372036854775807) : ∀ (d i : Nat) (out : List ByteArray), i ≤ x0.length → x0.length - i = d → Raws out → ∃ r, Raws r ∧ ∃ K, ∀ k, K ≤ k → pollardlaw12_Blobs.l0 k x0 20 out (i : Int) = some r := by
 intro d
 induction d with
 | zero =>
  intro i out h1 h2 ho
  refine ⟨out, ho, 2, fun k hk => ?_⟩
  obtain ⟨k, rfl⟩ : ∃ k', k = k' + 2 := ⟨k - 2, by omega⟩
  rw [pollardlaw12_Blobs.l0]
  rw [if_neg (by omega), pollardlaw12_Blobs.j1]
  rw [if_neg (by decide)]
 | succ d ih =>
  intro i out h1 h2 ho
  by_cases hfull : out.length < 20
  ·
   have key : ∀ s : ByteArray, s.size ≤ 150 → ∃ r, Raws r ∧ ∃ K, ∀ k, K ≤ k → pollardlaw12_Blobs.j2 k x0 20 out (i : Int) s = some r := by
    intro s hs
    obtain ⟨raw, hr1, hr2⟩ := raw_some s (by omega)
    have e1 : wrap64 ((i : Int) + 1) = ((i + 1 : Nat) : Int) := by rw [wrapI (by omega) (by omega)]; omega
    obtain ⟨rA, hA, hA2⟩ := ih (i + 1) out (by omega) (by omega) ho
    obtain ⟨rB, hB, hB2⟩ := ih (i + 1) (out ++ [raw]) (by omega) (by omega) ⟨by simp; omega, fun r hr => by
     rcases List.mem_append.1 hr with h | h
     ·
      exact ho.2 r h
     ·
      rw [List.mem_singleton.1 h]; exact hr1⟩
    rw [← e1] at hA2 hB2
    clear e1
    obtain ⟨r, hr, K, hK⟩ := blobs_inner (raw := raw) (by omega) hA2 hB2 out.length 0 false (Nat.zero_le _) (by omega)
    refine ⟨r, by rcases hr with rfl | rfl <;> assumption, K + 4, fun k hk => ?_⟩
    obtain ⟨k, rfl⟩ : ∃ k', k = k' + 1 := ⟨k - 1, by omega⟩
    rw [pollardlaw12_Blobs.j2]
    rw [hr2 k (by omega), Option.bind_some]
    exact hK k (by omega)
   by_cases hs : ((rdOf ByteArray.empty x0 (i : Int)).size : Int) > 150
   ·
    obtain ⟨r, hr, K, hK⟩ := key ((rdOf ByteArray.empty x0 (i : Int)).extract 0 150) (by rw [ByteArray.size_extract]; omega)
    refine ⟨r, hr, K + 2, fun k hk => ?_⟩
    obtain ⟨k, rfl⟩ : ∃ k', k = k' + 2 := ⟨k - 2, by omega⟩
    rw [pollardlaw12_Blobs.l0]
    rw [if_pos (by omega), show decide ((out.length : Int) < 20) = true from decide_eq_true (by omega), pollardlaw12_Blobs.j1]
    rw [if_pos rfl, if_pos (by omega), if_pos (by omega), if_pos hs, if_pos (by omega), if_pos (by omega)]
    exact hK k (by omega)
   ·
    obtain ⟨r, hr, K, hK⟩ := key (rdOf ByteArray.empty x0 (i : Int)) (by omega)
    refine ⟨r, hr, K + 2, fun k hk => ?_⟩
    obtain ⟨k, rfl⟩ : ∃ k', k = k' + 2 := ⟨k - 2, by omega⟩
    rw [pollardlaw12_Blobs.l0]
    rw [if_pos (by omega), show decide ((out.length : Int) < 20) = true from decide_eq_true (by omega), pollardlaw12_Blobs.j1]
    rw [if_pos rfl, if_pos (by omega), if_pos (by omega), if_neg hs]
    exact hK k (by omega)
  ·
   refine ⟨out, ho, 2, fun k hk => ?_⟩
   obtain ⟨k, rfl⟩ : ∃ k', k = k' + 2 := ⟨k - 2, by omega⟩
   rw [pollardlaw12_Blobs.l0]
   rw [if_pos (by omega), show decide ((out.length : Int) < 20) = false from decide_eq_false (by omega), pollardlaw12_Blobs.j1]
   rw [if_neg (by decide)]
theorem blobs_pure {x0 : List ByteArray} (hx : x0.length ≤ 9223372036854775807) : ∃ r, Raws r ∧ ∃ K, ∀ k, K ≤ k → pollardlaw12_Blobs.f k x0 20 = some r := by
 obtain ⟨r, hr, K, hK⟩ := blobs_outer hx x0.length 0 [] (Nat.zero_le _) rfl ⟨by simp, fun r h => by cases h⟩
 exact ⟨r, hr, K, fun k hk => hK k hk⟩

/-- An item of the reference's. -/
def toR (x : S32) : S31 := ⟨x.f0, x.f1, x.f2⟩
theorem rdOf_nat {α : Type} (d : α) (l : List α) (i : Nat) : rdOf d l (i : Int) = l.getD i d := rfl
theorem rd_nat (l : List Int) (i : Nat) : rd l (i : Int) = l.getD i 0 := rfl
theorem raws_get {raws : List ByteArray} (h : Raws raws) (i : Nat) : (raws.getD i ByteArray.empty).size ≤ 300 := by
 rw [List.getD_eq_getElem?_getD]
 cases e : raws[i]? with
 | none => show (ByteArray.empty).size ≤ 300; decide
 | some r => exact h.2 r (List.mem_of_getElem? e)

/-- Both programs' items, one beside the other. -/
theorem items_both {raws : List ByteArray} {bases : List Int} (hr : Raws raws) : ∀ (d i : Nat) (o : List S32) (dr : List Int), i ≤ raws.length → raws.length - i = d → o.length = i → dr.length = i →
  ∃ R : List S32, R.length = raws.length ∧ (∃ K, ∀ k, K ≤ k → chain_Items.l0 k raws bases o (dr ++ List.replicate (raws.length - i) 0) raws (raws.length : Int) (i : Int) = some R) ∧ (∃ K, ∀ k, K ≤ k → pollardref12_Items.l0 k raws bases (o.map toR) dr (i : Int) = some (R.map toR)) := by
 have hl := hr.1
 intro d
 induction d with
 | zero =>
  intro i o dr h1 h2 h3 h4
  refine ⟨o, by omega, ⟨1, fun k hk => ?_⟩, ⟨1, fun k hk => ?_⟩⟩
  ·
   obtain ⟨k, rfl⟩ : ∃ k', k = k' + 1 := ⟨k - 1, by omega⟩
   rw [chain_Items.l0]
   rw [if_neg (by omega)]
  ·
   obtain ⟨k, rfl⟩ : ∃ k', k = k' + 1 := ⟨k - 1, by omega⟩
   rw [pollardref12_Items.l0]
   rw [if_neg (by omega)]
 | succ d ih =>
  intro i o dr h1 h2 h3 h4
  have hlt : i < raws.length := by omega
  have hmap : (o.map toR).length = i := by simp [h3]
  have hdp : (dr ++ List.replicate (raws.length - i) (0 : Int)).length = raws.length := by simp; omega
  -- what is put as it is
  have plain : ∃ R : List S32, R.length = raws.length ∧ (∃ K, ∀ k, K ≤ k → chain_Items.l0 k raws bases (o ++ [⟨⟨#[]⟩, raws.getD i ByteArray.empty, 0⟩]) (dr ++ List.replicate (raws.length - i) 0) raws (raws.length : Int) (wrap64 ((i : Int) + 1)) = some R) ∧
    (∃ K, ∀ k, K ≤ k → pollardref12_Items.l0 k raws bases (o.map toR ++ [⟨⟨#[]⟩, raws.getD i ByteArray.empty, 0⟩]) (dr ++ [0]) (wrap64 ((i : Int) + 1)) = some (R.map toR)) := by
   obtain ⟨R, hR, h5, h6⟩ := ih (i + 1) (o ++ [⟨⟨#[]⟩, raws.getD i ByteArray.empty, 0⟩]) (dr ++ [0]) (by omega) (by omega) (by simp [h3]) (by simp [h4])
   refine ⟨R, hR, ?_, ?_⟩
   ·
    rw [w_one (by omega)]
    have e : dr ++ List.replicate (raws.length - i) (0 : Int) = (dr ++ [0]) ++ List.replicate (raws.length - (i + 1)) 0 := by
     rw [show raws.length - i = (raws.length - (i + 1)) + 1 by omega, List.replicate_succ, List.append_assoc]; rfl
    rw [e]; exact h5
   ·
    rw [w_one (by omega)]
    rw [List.map_append] at h6
    exact h6
  by_cases c1 : (i : Int) < (bases.length : Int)
  ·
   by_cases c2 : rd bases (i : Int) ≥ 0
   ·
    by_cases c3 : rd bases (i : Int) < (i : Int)
    ·
     obtain ⟨q, hq⟩ : ∃ q : Nat, rd bases (i : Int) = (q : Int) := ⟨(rd bases (i : Int)).toNat, by omega⟩
     have hqi : q < i := by omega
     have erd : rd (dr ++ List.replicate (raws.length - i) 0) (q : Int) = rd dr (q : Int) := by
      rw [rd_nat, rd_nat, List.getD_eq_getElem?_getD, List.getD_eq_getElem?_getD, List.getElem?_append_left (by omega)]
     by_cases c4 : rd dr (q : Int) < 12
     ·
      -- made of another one
      have hb1 := raws_get hr q
      have hb2 := raws_get hr i
      have eid : object_ID.f (raws.getD q ByteArray.empty) = some (ofL (shaF (raws.getD q ByteArray.empty).data.toList)) := by unfold object_ID.f; rw [if_pos (by omega)]
      have eid2 : pollardref07_ID.f (raws.getD q ByteArray.empty) = some (ofL (shaF (raws.getD q ByteArray.empty).data.toList)) := by unfold pollardref07_ID.f; rw [if_pos (by omega)]
      have emk : delta_Make.f (raws.getD q ByteArray.empty) (raws.getD i ByteArray.empty) = some (ofL (deltaL (raws.getD q ByteArray.empty).data.toList (raws.getD i ByteArray.empty).data.toList)) := by unfold delta_Make.f; rw [if_pos ⟨by omega, by omega⟩]
      obtain ⟨KM, emk2⟩ := ref_make_pure (b := raws.getD q ByteArray.empty) (s := raws.getD i ByteArray.empty) (by omega) (by omega)
      obtain ⟨R, hR, ⟨K5, h5⟩, ⟨K6, h6⟩⟩ := ih (i + 1) (o ++ [⟨ofL (shaF (raws.getD q ByteArray.empty).data.toList), ofL (deltaL (raws.getD q ByteArray.empty).data.toList (raws.getD i ByteArray.empty).data.toList), 0⟩]) (dr ++ [wrap64 (rd dr (q : Int) + 1)]) (by omega) (by omega) (by simp [h3]) (by simp [h4])
      have eset : (dr ++ List.replicate (raws.length - i) (0 : Int)).set i (wrap64 (rd dr (q : Int) + 1)) = (dr ++ [wrap64 (rd dr (q : Int) + 1)]) ++ List.replicate (raws.length - (i + 1)) 0 := by
       rw [show raws.length - i = (raws.length - (i + 1)) + 1 by omega, List.replicate_succ, List.append_assoc, List.set_append_right _ _ (by omega), h4, Nat.sub_self]
       rfl
      refine ⟨R, hR, ⟨K5 + 2, fun k hk => ?_⟩, ⟨K6 + KM + 2, fun k hk => ?_⟩⟩
      ·
       obtain ⟨k, rfl⟩ : ∃ k', k = k' + 2 := ⟨k - 2, by omega⟩
       rw [chain_Items.l0]
       rw [if_pos (by omega), if_pos (by omega), if_pos (by omega), if_pos c1, if_pos c2, if_pos c3, if_pos (by omega), if_pos (by rw [hdp]; omega), hq, erd, show decide (rd dr (q : Int) < 12) = true from decide_eq_true c4, chain_Items.j1]
       rw [if_pos rfl, if_pos (by omega), if_pos (by omega), rdOf_nat, rdOf_nat, eid, Option.bind_some, emk, Option.bind_some, if_pos (by rw [hdp]; omega), if_pos (by omega), if_pos (by rw [hdp]; omega), if_pos (by omega), erd, show ((i : Int)).toNat = i from rfl, eset, w_one (by omega)]
       exact h5 k (by omega)
      ·
       obtain ⟨k, rfl⟩ : ∃ k', k = k' + 2 := ⟨k - 2, by omega⟩
       rw [pollardref12_Items.l0]
       rw [if_pos (by omega), if_pos (by omega), if_pos c1, if_pos c2, if_pos c3, if_pos (by omega), if_pos (by rw [h4]; omega), hq, show decide (rd dr (q : Int) < 12) = true from decide_eq_true c4, pollardref12_Items.j1]
       rw [if_pos rfl, if_pos (by omega), if_pos c1, if_pos (by omega), if_pos (by omega), hq, rdOf_nat, rdOf_nat, eid2, Option.bind_some, if_pos (by omega), emk2 k (by omega), Option.bind_some, if_pos (by rw [h4]; omega), if_pos (by omega), if_pos (by omega), w_one (by omega)]
       rw [List.map_append] at h6
       exact h6 k (by omega)
     ·
      obtain ⟨R, hR, ⟨K5, h5⟩, ⟨K6, h6⟩⟩ := plain
      refine ⟨R, hR, ⟨K5 + 2, fun k hk => ?_⟩, ⟨K6 + 2, fun k hk => ?_⟩⟩
      ·
       obtain ⟨k, rfl⟩ : ∃ k', k = k' + 2 := ⟨k - 2, by omega⟩
       rw [chain_Items.l0]
       rw [if_pos (by omega), if_pos (by omega), if_pos (by omega), if_pos c1, if_pos c2, if_pos c3, if_pos (by omega), if_pos (by rw [hdp]; omega), hq, erd, show decide (rd dr (q : Int) < 12) = false from decide_eq_false c4, chain_Items.j1]
       rw [if_neg (by decide), if_pos (by omega), rdOf_nat]
       exact h5 k (by omega)
      ·
       obtain ⟨k, rfl⟩ : ∃ k', k = k' + 2 := ⟨k - 2, by omega⟩
       rw [pollardref12_Items.l0]
       rw [if_pos (by omega), if_pos (by omega), if_pos c1, if_pos c2, if_pos c3, if_pos (by omega), if_pos (by rw [h4]; omega), hq, show decide (rd dr (q : Int) < 12) = false from decide_eq_false c4, pollardref12_Items.j1]
       rw [if_neg (by decide), if_pos (by omega), if_pos (by omega), rdOf_nat]
       exact h6 k (by omega)
    ·
     obtain ⟨R, hR, ⟨K5, h5⟩, ⟨K6, h6⟩⟩ := plain
     refine ⟨R, hR, ⟨K5 + 2, fun k hk => ?_⟩, ⟨K6 + 2, fun k hk => ?_⟩⟩
     ·
      obtain ⟨k, rfl⟩ : ∃ k', k = k' + 2 := ⟨k - 2, by omega⟩
      rw [chain_Items.l0]
      rw [if_pos (by omega), if_pos (by omega), if_pos (by omega), if_pos c1, if_pos c2, if_neg c3, chain_Items.j1]
      rw [if_neg (by decide), if_pos (by omega), rdOf_nat]
      exact h5 k (by omega)
     ·
      obtain ⟨k, rfl⟩ : ∃ k', k = k' + 2 := ⟨k - 2, by omega⟩
      rw [pollardref12_Items.l0]
      rw [if_pos (by omega), if_pos (by omega), if_pos c1, if_pos c2, if_neg c3, pollardref12_Items.j1]
      rw [if_neg (by decide), if_pos (by omega), if_pos (by omega), rdOf_nat]
      exact h6 k (by omega)
   ·
    obtain ⟨R, hR, ⟨K5, h5⟩, ⟨K6, h6⟩⟩ := plain
    refine ⟨R, hR, ⟨K5 + 2, fun k hk => ?_⟩, ⟨K6 + 2, fun k hk => ?_⟩⟩
    ·
     obtain ⟨k, rfl⟩ : ∃ k', k = k' + 2 := ⟨k - 2, by omega⟩
     rw [chain_Items.l0]
     rw [if_pos (by omega), if_pos (by omega), if_pos (by omega), if_pos c1, if_neg c2, chain_Items.j1]
     rw [if_neg (by decide), if_pos (by omega), rdOf_nat]
     exact h5 k (by omega)
    ·
     obtain ⟨k, rfl⟩ : ∃ k', k = k' + 2 := ⟨k - 2, by omega⟩
     rw [pollardref12_Items.l0]
     rw [if_pos (by omega), if_pos (by omega), if_pos c1, if_neg c2, pollardref12_Items.j1]
     rw [if_neg (by decide), if_pos (by omega), if_pos (by omega), rdOf_nat]
     exact h6 k (by omega)
  ·
   obtain ⟨R, hR, ⟨K5, h5⟩, ⟨K6, h6⟩⟩ := plain
   refine ⟨R, hR, ⟨K5 + 2, fun k hk => ?_⟩, ⟨K6 + 2, fun k hk => ?_⟩⟩
   ·
    obtain ⟨k, rfl⟩ : ∃ k', k = k' + 1 := ⟨k - 1, by omega⟩
    rw [chain_Items.l0]
    rw [if_pos (by omega), if_pos (by omega), if_pos (by omega), if_neg c1, if_pos (by omega), rdOf_nat]
    exact h5 k (by omega)
   ·
    obtain ⟨k, rfl⟩ : ∃ k', k = k' + 2 := ⟨k - 2, by omega⟩
    rw [pollardref12_Items.l0]
    rw [if_pos (by omega), if_pos (by omega), if_neg c1, pollardref12_Items.j1]
    rw [if_neg (by decide), if_pos (by omega), if_pos (by omega), rdOf_nat]
    exact h6 k (by omega)

theorem items_eq {R : List S32} (hl : R.length ≤ 20) : ∀ (d i : Nat), i ≤ R.length → R.length - i = d → ∃ K, ∀ k, K ≤ k → pollardlaw12_ChainItems.l0 k R (R.map toR) (i : Int) = some true := by
 have hm : (R.map toR).length = R.length := by simp
 intro d
 induction d with
 | zero =>
  intro i h1 h2
  refine ⟨1, fun k hk => ?_⟩
  obtain ⟨k, rfl⟩ : ∃ k', k = k' + 1 := ⟨k - 1, by omega⟩
  rw [pollardlaw12_ChainItems.l0]
  rw [if_neg (by rw [hm]; omega)]
 | succ d ih =>
  intro i h1 h2
  obtain ⟨K, hK⟩ := ih (i + 1) (by omega) (by omega)
  refine ⟨K + 1, fun k hk => ?_⟩
  obtain ⟨k, rfl⟩ : ∃ k', k = k' + 1 := ⟨k - 1, by omega⟩
  have e : rd_T31 (R.map toR) (i : Int) = toR (rd_T32 R (i : Int)) := by
   show (R.map toR).getD i z31 = toR (R.getD i z32)
   rw [List.getD_eq_getElem?_getD, List.getD_eq_getElem?_getD, List.getElem?_map, List.getElem?_eq_getElem (show i < R.length by omega)]
   rfl
  rw [pollardlaw12_ChainItems.l0]
  rw [if_pos (by rw [hm]; omega), if_pos (by omega), if_pos (by omega), e, if_neg (by simp [toR]), w_one (by omega)]
  exact hK k (by omega)

/-- THE PLAIN LAW. -/
theorem chainItems_pure {l : List ByteArray} (bases : List Int) (hx : l.length ≤ 9223372036854775807) : ∃ k, pollardlaw12_ChainItems.f k l bases = some true := by
 obtain ⟨raws, hr, K1, h1⟩ := blobs_pure hx
 have hl := hr.1
 obtain ⟨R, hR, ⟨K2, h2⟩, ⟨K3, h3⟩⟩ := items_both (bases := bases) hr raws.length 0 [] [] (Nat.zero_le _) rfl rfl rfl
 obtain ⟨K4, h4⟩ := items_eq (R := R) (by omega) R.length 0 (Nat.zero_le _) rfl
 refine ⟨K1 + K2 + K3 + K4 + 1, ?_⟩
 unfold pollardlaw12_ChainItems.f
 rw [h1 _ (by omega), Option.bind_some]
 have e1 : chain_Items.f (K1 + K2 + K3 + K4 + 1) raws bases = some R := by
  unfold chain_Items.f
  rw [if_pos (by omega), if_pos (by omega)]
  exact h2 _ (by omega)
 have e2 : pollardref12_Items.f (K1 + K2 + K3 + K4 + 1) raws bases = some (R.map toR) := h3 _ (by omega)
 rw [e1, Option.bind_some, e2, Option.bind_some, show pollardlaw12_awake.f = some true from rfl, Option.bind_some, if_pos rfl, show (((R.length : Int)) != (((R.map toR).length : Int))) = false by simp, pollardlaw12_ChainItems.j0]
 rw [if_neg (by decide)]
 exact h4 _ (by omega)
end Go.Proofs
