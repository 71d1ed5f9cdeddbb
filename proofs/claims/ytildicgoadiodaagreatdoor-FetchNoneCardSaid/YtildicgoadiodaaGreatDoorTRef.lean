/- pollardref05.Ref, at every text. -/
import Derived.Test.YtildicgoadiodaaGreatDoorProg
import Derived.WalkKit
import Derived.ProofKit
import Derived.LoopN
import Derived.BigQuiet
/-! pollardref05.Ref, at every text. -/
namespace Go.Proofs
open Go.RowKit

/-- A byte that may stand in a ref's name. -/
def okC (c : Nat) : Bool := (decide (97 ≤ c) && decide (c ≤ 122)) || (decide (48 ≤ c) && decide (c ≤ 57)) || decide (c = 45) || decide (c = 95)
def okL (l : List UInt8) : Bool := l.all fun c => okC c.toNat
/-- What Ref answers for what is behind the first word. -/
def refOf (kind : Int) (l : List UInt8) : Int := if okL l = true ∧ l.length ≤ 64 then kind else 0


theorem okL_take {l : List UInt8} {i : Nat} {c : UInt8} (h : okL (l.take i) = true) (hc : l[i]? = some c) : okL (l.take (i + 1)) = okC c.toNat := by
  rw [List.take_add_one, hc]
  unfold okL at h ⊢
  rw [List.all_append, h]
  simp
theorem okL_bad {l : List UInt8} {i : Nat} {c : UInt8} (hc : l[i]? = some c) (h : okC c.toNat = false) : okL l = false := by
  unfold okL
  rw [List.all_eq_false]
  exact ⟨c, List.mem_of_getElem? hc, by simp [h]⟩

set_option maxHeartbeats 4000000 in
set_option maxRecDepth 1000000 in
theorem ref_none (s : ByteArray) (h1 : ¬ ((s.size : Int) > 6)) (h2 : ¬ ((s.size : Int) > 5)) (w : World) : Calls Tryz.prog 15 #[.string s] w fun e w' => e = .returned (.int .i64 0) ∧ Below w.heap.size w w' := by
  go_enter Tryz.func15, Tryz.ntmps15
  go_wp2
  refine wp_loop_rounds 1 ?_
  rw [rounds_succ]
  go_wp2
  go_ret
  exact ⟨rfl, Below.refl _ _⟩

set_option maxHeartbeats 4000000 in
set_option maxRecDepth 1000000 in
theorem ref_heads (s r : ByteArray) (hr : s.extract 6 s.size = r) (h1 : (6 : Int) < (s.size : Int)) (h6 : ((s.extract 0 6).toList == [104, 101, 97, 100, 115, 47]) = true) (h5 : ((s.extract 0 5).toList == [116, 97, 103, 115, 47]) = false) (hrs : r.size ≤ 9223372036854775807) (w : World) :
    Calls Tryz.prog 15 #[.string s] w fun e w' => e = .returned (.int .i64 (refOf 1 r.data.toList)) ∧ Below w.heap.size w w' := by
  have h2 : (5 : Int) < (s.size : Int) := by omega
  have h3 : (6 : Int) ≤ (s.size : Int) := by omega
  have h4 : (5 : Int) ≤ (s.size : Int) := by omega
  go_enter Tryz.func15, Tryz.ntmps15
  go_wp2
  go_quiet (fail)
  go_wp2
  clear h1 h2 h3 h4 h5 h6 hr
  have hB0 : Below w.heap.size w (w.drewN nq) := ⟨rfl, rfl, rfl, Nat.le_refl _, fun _ _ => rfl⟩
  go_loopw [5] (fun v wr => ∃ i : Nat, i ≤ r.size ∧ v = .int .i64 i ∧ okL (r.data.toList.take i) = true ∧ wr = w.drewN nq) (fun v _ => r.size - (valOf v).toNat)
  case atStart => exact ⟨0, Nat.zero_le _, rfl, rfl, rfl⟩
  case round =>
    obtain ⟨i, hi, rfl, hok, rfl⟩ := hrel
    by_cases hlt : i < r.size
    · have hlt' : ((i : Int) < (r.size : Int)) := by exact_mod_cast hlt
      have hget : r.data.toList[i]? = some r[i] := by
        have hlen : i < r.data.toList.length := by simpa using hlt
        rw [List.getElem?_eq_getElem hlen]; rfl
      have hw : wrap64 ((i : Int) + 1) = (i : Int) + 1 := by unfold wrap64; omega
      go_wp2
      all_goals first
      | (refine ⟨⟨i + 1, by omega, by push_cast; rfl, ?_, trivial⟩, ?_⟩
         · rw [okL_take hok hget]
           simp only [okC, Bool.or_eq_true, Bool.and_eq_true, decide_eq_true_eq]
           first
           | omega
           | (simp only [Bool.not_eq_false', decide_eq_true_eq, beq_iff_eq] at *
              omega)
         · simp only [valOf]; omega)
      | (have hbad : okC r[i].toNat = false := by
           rw [Bool.eq_false_iff]
           intro hC
           simp only [okC, Bool.or_eq_true, Bool.and_eq_true, decide_eq_true_eq, Bool.not_eq_true', decide_eq_false_iff_not, beq_eq_false_iff_ne, ne_eq] at *
           omega
         go_ret
         have e : refOf 1 r.data.toList = 0 := by rw [refOf, if_neg (by rw [okL_bad hget hbad]; simp)]
         refine ⟨?_, hB0⟩
         rw [e]; rfl)
    · have hi' : i = r.size := by omega
      subst hi'
      have htake : r.data.toList.take r.size = r.data.toList := by rw [List.take_of_length_le]; simp
      rw [htake] at hok
      have hlen : r.data.toList.length = r.size := by simp
      have hlt' : ¬ ((r.size : Int) < (r.size : Int)) := by omega
      by_cases h64 : (r.size : Int) > 64
      · go_wp2
        go_ret
        have e : refOf 1 r.data.toList = 0 := by rw [refOf, if_neg (by rw [hlen]; omega)]
        refine ⟨?_, hB0⟩
        rw [e]; rfl
      · go_wp2
        go_ret
        have e : refOf 1 r.data.toList = 1 := by rw [refOf, if_pos ⟨hok, by rw [hlen]; omega⟩]
        refine ⟨?_, hB0⟩
        rw [e]; rfl

set_option maxHeartbeats 4000000 in
set_option maxRecDepth 1000000 in
theorem ref_tags_a (s r : ByteArray) (hr : s.extract 5 s.size = r) (h1 : (6 : Int) < (s.size : Int)) (h6 : ((s.extract 0 6).toList == [104, 101, 97, 100, 115, 47]) = false) (h5 : ((s.extract 0 5).toList == [116, 97, 103, 115, 47]) = true) (hrs : r.size ≤ 9223372036854775807) (w : World) :
    Calls Tryz.prog 15 #[.string s] w fun e w' => e = .returned (.int .i64 (refOf 2 r.data.toList)) ∧ Below w.heap.size w w' := by
  have h2 : (5 : Int) < (s.size : Int) := by omega
  have h3 : (6 : Int) ≤ (s.size : Int) := by omega
  have h4 : (5 : Int) ≤ (s.size : Int) := by omega
  go_enter Tryz.func15, Tryz.ntmps15
  go_wp2
  go_quiet (fail)
  go_wp2
  clear h1 h2 h3 h4 h5 h6 hr
  have hB0 : Below w.heap.size w (w.drewN nq) := ⟨rfl, rfl, rfl, Nat.le_refl _, fun _ _ => rfl⟩
  go_loopw [5] (fun v wr => ∃ i : Nat, i ≤ r.size ∧ v = .int .i64 i ∧ okL (r.data.toList.take i) = true ∧ wr = w.drewN nq) (fun v _ => r.size - (valOf v).toNat)
  case atStart => exact ⟨0, Nat.zero_le _, rfl, rfl, rfl⟩
  case round =>
    obtain ⟨i, hi, rfl, hok, rfl⟩ := hrel
    by_cases hlt : i < r.size
    · have hlt' : ((i : Int) < (r.size : Int)) := by exact_mod_cast hlt
      have hget : r.data.toList[i]? = some r[i] := by
        have hlen : i < r.data.toList.length := by simpa using hlt
        rw [List.getElem?_eq_getElem hlen]; rfl
      have hw : wrap64 ((i : Int) + 1) = (i : Int) + 1 := by unfold wrap64; omega
      go_wp2
      all_goals first
      | (refine ⟨⟨i + 1, by omega, by push_cast; rfl, ?_, trivial⟩, ?_⟩
         · rw [okL_take hok hget]
           simp only [okC, Bool.or_eq_true, Bool.and_eq_true, decide_eq_true_eq]
           first
           | omega
           | (simp only [Bool.not_eq_false', decide_eq_true_eq, beq_iff_eq] at *
              omega)
         · simp only [valOf]; omega)
      | (have hbad : okC r[i].toNat = false := by
           rw [Bool.eq_false_iff]
           intro hC
           simp only [okC, Bool.or_eq_true, Bool.and_eq_true, decide_eq_true_eq, Bool.not_eq_true', decide_eq_false_iff_not, beq_eq_false_iff_ne, ne_eq] at *
           omega
         go_ret
         have e : refOf 2 r.data.toList = 0 := by rw [refOf, if_neg (by rw [okL_bad hget hbad]; simp)]
         refine ⟨?_, hB0⟩
         rw [e]; rfl)
    · have hi' : i = r.size := by omega
      subst hi'
      have htake : r.data.toList.take r.size = r.data.toList := by rw [List.take_of_length_le]; simp
      rw [htake] at hok
      have hlen : r.data.toList.length = r.size := by simp
      have hlt' : ¬ ((r.size : Int) < (r.size : Int)) := by omega
      by_cases h64 : (r.size : Int) > 64
      · go_wp2
        go_ret
        have e : refOf 2 r.data.toList = 0 := by rw [refOf, if_neg (by rw [hlen]; omega)]
        refine ⟨?_, hB0⟩
        rw [e]; rfl
      · go_wp2
        go_ret
        have e : refOf 2 r.data.toList = 2 := by rw [refOf, if_pos ⟨hok, by rw [hlen]; omega⟩]
        refine ⟨?_, hB0⟩
        rw [e]; rfl

set_option maxHeartbeats 4000000 in
set_option maxRecDepth 1000000 in
theorem ref_tags_b (s r : ByteArray) (hr : s.extract 5 s.size = r) (h1 : ¬ ((s.size : Int) > 6)) (h2 : (5 : Int) < (s.size : Int)) (h5 : ((s.extract 0 5).toList == [116, 97, 103, 115, 47]) = true) (hrs : r.size ≤ 9223372036854775807) (w : World) :
    Calls Tryz.prog 15 #[.string s] w fun e w' => e = .returned (.int .i64 (refOf 2 r.data.toList)) ∧ Below w.heap.size w w' := by
  have h4 : (5 : Int) ≤ (s.size : Int) := by omega
  go_enter Tryz.func15, Tryz.ntmps15
  go_wp2
  go_quiet (fail)
  go_wp2
  clear h1 h2 h4 h5 hr
  have hB0 : Below w.heap.size w (w.drewN nq) := ⟨rfl, rfl, rfl, Nat.le_refl _, fun _ _ => rfl⟩
  go_loopw [5] (fun v wr => ∃ i : Nat, i ≤ r.size ∧ v = .int .i64 i ∧ okL (r.data.toList.take i) = true ∧ wr = w.drewN nq) (fun v _ => r.size - (valOf v).toNat)
  case atStart => exact ⟨0, Nat.zero_le _, rfl, rfl, rfl⟩
  case round =>
    obtain ⟨i, hi, rfl, hok, rfl⟩ := hrel
    by_cases hlt : i < r.size
    · have hlt' : ((i : Int) < (r.size : Int)) := by exact_mod_cast hlt
      have hget : r.data.toList[i]? = some r[i] := by
        have hlen : i < r.data.toList.length := by simpa using hlt
        rw [List.getElem?_eq_getElem hlen]; rfl
      have hw : wrap64 ((i : Int) + 1) = (i : Int) + 1 := by unfold wrap64; omega
      go_wp2
      all_goals first
      | (refine ⟨⟨i + 1, by omega, by push_cast; rfl, ?_, trivial⟩, ?_⟩
         · rw [okL_take hok hget]
           simp only [okC, Bool.or_eq_true, Bool.and_eq_true, decide_eq_true_eq]
           first
           | omega
           | (simp only [Bool.not_eq_false', decide_eq_true_eq, beq_iff_eq] at *
              omega)
         · simp only [valOf]; omega)
      | (have hbad : okC r[i].toNat = false := by
           rw [Bool.eq_false_iff]
           intro hC
           simp only [okC, Bool.or_eq_true, Bool.and_eq_true, decide_eq_true_eq, Bool.not_eq_true', decide_eq_false_iff_not, beq_eq_false_iff_ne, ne_eq] at *
           omega
         go_ret
         have e : refOf 2 r.data.toList = 0 := by rw [refOf, if_neg (by rw [okL_bad hget hbad]; simp)]
         refine ⟨?_, hB0⟩
         rw [e]; rfl)
    · have hi' : i = r.size := by omega
      subst hi'
      have htake : r.data.toList.take r.size = r.data.toList := by rw [List.take_of_length_le]; simp
      rw [htake] at hok
      have hlen : r.data.toList.length = r.size := by simp
      have hlt' : ¬ ((r.size : Int) < (r.size : Int)) := by omega
      by_cases h64 : (r.size : Int) > 64
      · go_wp2
        go_ret
        have e : refOf 2 r.data.toList = 0 := by rw [refOf, if_neg (by rw [hlen]; omega)]
        refine ⟨?_, hB0⟩
        rw [e]; rfl
      · go_wp2
        go_ret
        have e : refOf 2 r.data.toList = 2 := by rw [refOf, if_pos ⟨hok, by rw [hlen]; omega⟩]
        refine ⟨?_, hB0⟩
        rw [e]; rfl

set_option maxHeartbeats 4000000 in
set_option maxRecDepth 1000000 in
theorem ref_other_a (s : ByteArray) (h1 : (6 : Int) < (s.size : Int)) (h6 : ((s.extract 0 6).toList == [104, 101, 97, 100, 115, 47]) = false) (h5 : ((s.extract 0 5).toList == [116, 97, 103, 115, 47]) = false) (w : World) : Calls Tryz.prog 15 #[.string s] w fun e w' => e = .returned (.int .i64 0) ∧ Below w.heap.size w w' := by
  have h2 : (5 : Int) < (s.size : Int) := by omega
  have h3 : (6 : Int) ≤ (s.size : Int) := by omega
  have h4 : (5 : Int) ≤ (s.size : Int) := by omega
  go_enter Tryz.func15, Tryz.ntmps15
  go_wp2
  refine wp_loop_rounds 1 ?_
  rw [rounds_succ]
  go_wp2
  go_ret
  exact ⟨rfl, Below.refl _ _⟩

set_option maxHeartbeats 4000000 in
set_option maxRecDepth 1000000 in
theorem ref_other_b (s : ByteArray) (h1 : ¬ ((s.size : Int) > 6)) (h2 : (5 : Int) < (s.size : Int)) (h5 : ((s.extract 0 5).toList == [116, 97, 103, 115, 47]) = false) (w : World) : Calls Tryz.prog 15 #[.string s] w fun e w' => e = .returned (.int .i64 0) ∧ Below w.heap.size w w' := by
  have h4 : (5 : Int) ≤ (s.size : Int) := by omega
  go_enter Tryz.func15, Tryz.ntmps15
  go_wp2
  refine wp_loop_rounds 1 ?_
  rw [rounds_succ]
  go_wp2
  go_ret
  exact ⟨rfl, Below.refl _ _⟩

/-- What Ref answers for a text. -/
def refF (s : ByteArray) : Int :=
  if (s.size : Int) > 6 ∧ ((s.extract 0 6).toList == [104, 101, 97, 100, 115, 47]) = true then refOf 1 (s.extract 6 s.size).data.toList
  else if (s.size : Int) > 5 ∧ ((s.extract 0 5).toList == [116, 97, 103, 115, 47]) = true then refOf 2 (s.extract 5 s.size).data.toList
  else 0

theorem not_both {s : ByteArray} (h6 : ((s.extract 0 6).toList == [104, 101, 97, 100, 115, 47]) = true) : ((s.extract 0 5).toList == [116, 97, 103, 115, 47]) = false := by
  rw [beq_iff_eq, ByteArray.toList_eq] at h6
  rw [beq_eq_false_iff_ne, ByteArray.toList_eq]
  intro h5
  have e6 : (s.extract 0 6).data.toList = s.data.toList.take 6 := by simp
  have e5 : (s.extract 0 5).data.toList = s.data.toList.take 5 := by simp
  rw [e6] at h6
  rw [e5] at h5
  have : s.data.toList.take 5 = (s.data.toList.take 6).take 5 := by rw [List.take_take]; rfl
  rw [this, h6] at h5
  cases h5

theorem ref_calls (s : ByteArray) (hs : s.size ≤ 9223372036854775807) (w : World) : Calls Tryz.prog 15 #[.string s] w fun e w' => e = .returned (.int .i64 (refF s)) ∧ Below w.heap.size w w' := by
  have hx : ∀ n, (s.extract n s.size).size ≤ 9223372036854775807 := fun n => by
    have : (s.extract n s.size).size = s.size - n := by simp
    omega
  unfold refF
  by_cases h1 : (s.size : Int) > 6
  · cases h6 : ((s.extract 0 6).toList == [104, 101, 97, 100, 115, 47]) with
    | true =>
      rw [if_pos ⟨h1, rfl⟩]
      exact ref_heads s _ rfl h1 h6 (not_both h6) (hx 6) w
    | false =>
      rw [if_neg (by rintro ⟨_, h⟩; cases h)]
      have h2 : (s.size : Int) > 5 := by omega
      cases h5 : ((s.extract 0 5).toList == [116, 97, 103, 115, 47]) with
      | true =>
        rw [if_pos ⟨h2, rfl⟩]
        exact ref_tags_a s _ rfl h1 h6 h5 (hx 5) w
      | false =>
        rw [if_neg (by rintro ⟨_, h⟩; cases h)]
        exact ref_other_a s h1 h6 h5 w
  · rw [if_neg (fun h => h1 h.1)]
    by_cases h2 : (s.size : Int) > 5
    · cases h5 : ((s.extract 0 5).toList == [116, 97, 103, 115, 47]) with
      | true =>
        rw [if_pos ⟨h2, rfl⟩]
        exact ref_tags_b s _ rfl h1 h2 h5 (hx 5) w
      | false =>
        rw [if_neg (by rintro ⟨_, h⟩; cases h)]
        exact ref_other_b s h1 h2 h5 w
    · rw [if_neg (fun h => h2 h.1)]
      exact ref_none s h1 h2 w

/-- What is so where it answers 1, and where it answers something else but 0. -/
theorem refF_one {s : ByteArray} (h : refF s = 1) : 6 < s.size ∧ s.data.toList.take 6 = [104, 101, 97, 100, 115, 47] ∧ (s.data.toList.drop 6).length ≤ 64 := by
  unfold refF at h
  split at h
  · rename_i hc
    refine ⟨by omega, ?_, ?_⟩
    · have h6 := hc.2
      rw [beq_iff_eq, ByteArray.toList_eq] at h6
      rw [← h6]; simp
    · unfold refOf at h
      split at h
      · rename_i hd
        have h7 := hd.2
        have e : (s.extract 6 s.size).data.toList.length = s.size - 6 := by simp
        rw [e] at h7
        have e2 : (s.data.toList.drop 6).length = s.size - 6 := by simp
        omega
      · cases h
  · split at h
    · unfold refOf at h
      split at h <;> cases h
    · cases h
theorem refF_cases (s : ByteArray) : refF s = 0 ∨ refF s = 1 ∨ (refF s = 2 ∧ 6 ≤ s.size ∧ s.data.toList.take 5 = [116, 97, 103, 115, 47]) := by
  unfold refF
  split
  · unfold refOf
    split
    · exact .inr (.inl rfl)
    · exact .inl rfl
  · split
    · rename_i hc
      unfold refOf
      split
      · refine .inr (.inr ⟨rfl, by omega, ?_⟩)
        have h5 := hc.2
        rw [beq_iff_eq, ByteArray.toList_eq] at h5
        rw [← h5]; simp
      · exact .inl rfl
    · exact .inl rfl
end Go.Proofs
