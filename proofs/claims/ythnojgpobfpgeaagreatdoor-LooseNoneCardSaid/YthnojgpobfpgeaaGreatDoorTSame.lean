/- lz.same, (last).find, (last).note. -/
import Derived.Test.YthnojgpobfpgeaaGreatDoorTPress
import Derived.Test.YthnojgpobfpgeaaGreatDoorPLb1
import Derived.Maps.OwnOps
import Derived.Maps.OwnSet
import Derived.Lib.Hide
/-! lz.same, (last).find, (last).note. -/
namespace Go.Proofs
open Go.Ev Go.RowKit Go.Proofs.YthnojgpobfpgeaaGreatDoor.PLb Go.Proofs.YthnojgpobfpgeaaGreatDoorW.PrintWords

variable {s : ByteArray} (hs : s.size ≤ 1000)
include hs in
theorem same_ok {a q : Nat} (_ha : a ≤ s.size) (hq : q ≤ a) : ∀ (f n : Nat), a + n ≤ s.size → s.size - (a + n) ≤ f → ∀ k, f + 1 ≤ k → lz_same.l0 k s (q : Int) (a : Int) (n : Int) = some ((sameL s.data.toList s.data.toList a q f n : Nat) : Int) := by
 have hsl : s.data.toList.length = s.size := by simp
 intro f
 induction f with
 | zero =>
  intro n h1 h2 k hk
  obtain ⟨k, rfl⟩ : ∃ k', k = k' + 1 := ⟨k - 1, by omega⟩
  rw [lz_same.l0]
  rw [w_add (by omega), if_neg (by omega)]
  rfl
 | succ f ih =>
  intro n h1 h2 k hk
  obtain ⟨k, rfl⟩ : ∃ k', k = k' + 1 := ⟨k - 1, by omega⟩
  rw [lz_same.l0]
  by_cases c1 : a + n < s.size
  ·
   have c2 : q + n < s.size := by omega
   rw [w_add (by omega), w_add (by omega), w_one (by omega), if_pos (by omega), if_pos (by omega), if_pos (by omega), if_pos (by omega)]
   by_cases c3 : s.data.toList[a + n]? = s.data.toList[q + n]?
   ·
    have e : sameL s.data.toList s.data.toList a q (f + 1) n = sameL s.data.toList s.data.toList a q f (n + 1) := by
     conv => lhs; unfold sameL
     rw [if_pos ⟨by omega, by omega, c3⟩]
    rw [if_pos ((bt_eq c2 c1).2 c3.symm), e]
    exact ih (n + 1) (by omega) (by omega) k (by omega)
   ·
    have e : sameL s.data.toList s.data.toList a q (f + 1) n = n := by
     unfold sameL
     rw [if_neg (fun h => c3 h.2.2)]
    rw [if_neg (fun h => c3 ((bt_eq c2 c1).1 h).symm), e]
  ·
   have e : sameL s.data.toList s.data.toList a q (f + 1) n = n := by
    unfold sameL
    rw [if_neg (fun h => by omega)]
   rw [w_add (by omega), if_neg (by omega), e]
/-- the first four are the same already -/
theorem same_four {l : List UInt8} {a q f : Nat} (h : cutL l q 4 = cutL l a 4) (ha : a + 4 ≤ l.length) (hq : q ≤ a) : sameL l l a q (f + 4) 0 = sameL l l a q f 4 := by
 have g : ∀ i, i < 4 → l[a + i]? = l[q + i]? := by
  intro i hi
  have e1 : (cutL l q 4)[i]? = l[q + i]? := by unfold cutL; rw [List.getElem?_take_of_lt hi, List.getElem?_drop]
  have e2 : (cutL l a 4)[i]? = l[a + i]? := by unfold cutL; rw [List.getElem?_take_of_lt hi, List.getElem?_drop]
  rw [← e1, ← e2, h]
 have step : ∀ f n, n < 4 → sameL l l a q (f + 1) n = sameL l l a q f (n + 1) := by
  intro f n hn
  conv => lhs; unfold sameL
  rw [if_pos ⟨by omega, by omega, g n hn⟩]
 rw [step _ 0 (by omega), step _ 1 (by omega), step _ 2 (by omega), step _ 3 (by omega)]
include hs in
theorem same_calls {a q : Nat} (ha : a + 4 ≤ s.size) (hq : q ≤ a) (h : cutL s.data.toList q 4 = cutL s.data.toList a 4) (w : World) :
  Calls Tryz.prog 110 #[.string s, .int .i64 (q : Int), .int .i64 (a : Int)] w fun e w' => e = .returned (.int .i64 ((sameL s.data.toList s.data.toList a q s.data.toList.length 4 : Nat) : Int)) ∧ ∃ n, w' = w.drewN n := by
 have hsl : s.data.toList.length = s.size := by simp
 have h1 := same_ok hs (a := a) (q := q) (by omega) hq (s.data.toList.length + 4) 0 (by omega) (by omega) (s.size + 5) (by omega)
 rw [same_four h (by omega) hq] at h1
 exact (lz_same.calls (s.size + 5) s (q : Int) (a : Int) _ w h1).mono fun e w' ⟨he, n, hw⟩ => ⟨he, n, hw⟩
end Go.Proofs
