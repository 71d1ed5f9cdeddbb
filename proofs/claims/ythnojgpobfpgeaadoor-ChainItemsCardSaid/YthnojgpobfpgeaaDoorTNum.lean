/- Numbers' bytes, both programs'. -/
import Derived.Test.YthnojgpobfpgeaaDoorPCa1
import Derived.Test.YthnojgpobfpgeaaDoorTBlk
/-! Numbers' bytes, both programs'. -/
namespace Go.Proofs
open Go.Ev Go.RowKit Go.Proofs.YthnojgpobfpgeaaDoor.PCa Go.Proofs.YthnojgpobfpgeaaDoorW.PrintWords

theorem strOf2 (a b : Nat) : strOfNums [(a : Int), (b : Int)] = ⟨⟨[UInt8.ofNat a, UInt8.ofNat b]⟩⟩ := rfl
theorem strOf1 (a : Nat) : strOfNums [(a : Int)] = ⟨⟨[UInt8.ofNat a]⟩⟩ := rfl

theorem num_pure {n : Nat} (h : n < 16512) : ∀ k, code_Num.f (k + 2) (n : Int) = some ⟨⟨numL n⟩⟩ := by
 intro k
 unfold code_Num.f
 rw [show Int.tdiv (n : Int) 128 = ((n / 128 : Nat) : Int) from rfl, show Int.tmod (n : Int) 128 = ((n % 128 : Nat) : Int) from rfl, wrapU (by omega) (by omega), show (((n % 128 : Nat) : Int) % 256) = ((n % 128 : Nat) : Int) by omega]
 simp only [code_Num.l0]
 by_cases h1 : n < 128
 ·
  rw [if_neg (by omega), strOf1]
  unfold numL
  rw [if_pos h1, show n % 128 = n by omega]
 ·
  rw [if_pos (by omega), Option.bind_some, if_pos (by simp)]
  rw [show ((n / 128 : Nat) : Int) - 1 = ((n / 128 - 1 : Nat) : Int) by omega, wrapU (x := ((n / 128 - 1 : Nat) : Int)) (by omega) (by omega)]
  rw [show Int.tdiv ((n / 128 - 1 : Nat) : Int) 128 = (((n / 128 - 1) / 128 : Nat) : Int) from rfl, show Int.tmod ((n / 128 - 1 : Nat) : Int) 128 = (((n / 128 - 1) % 128 : Nat) : Int) from rfl, wrapU (x := (((n / 128 - 1) / 128 : Nat) : Int)) (by omega) (by omega), if_neg (by omega)]
  rw [show (((((n / 128 - 1) % 128 : Nat) : Int) % 256 + 128) % 256) = ((n / 128 - 1 + 128 : Nat) : Int) by omega]
  rw [List.singleton_append, strOf2]
  unfold numL
  rw [if_neg h1]

theorem ref_l1 {x0 : Nat} (h : x0 < 128) (k : Nat) : pollardref02_Num.l1 (k + 2) (x0 : Int) 1 ⟨#[]⟩ 0 = some ⟨⟨[UInt8.ofNat x0]⟩⟩ := by
 simp only [pollardref02_Num.l1]
 rw [if_pos (by omega), if_neg (by omega), Option.bind_some, show Int.tmod (x0 : Int) 128 = ((x0 % 128 : Nat) : Int) from rfl, show (((x0 % 128 : Nat) : Int) % 256) = ((x0 : Nat) : Int) by omega, strOf1, if_pos (by show 1 + 0 ≤ _; omega), if_neg (by rw [show wrap64 (0 + 1) = 1 by unfold wrap64; omega]; omega)]
 rfl
theorem ref_l2 {x0 : Nat} (h : x0 < 16384) (k : Nat) : pollardref02_Num.l1 (k + 3) (x0 : Int) 2 ⟨#[]⟩ 0 = some ⟨⟨[UInt8.ofNat (x0 / 128 + 128), UInt8.ofNat (x0 % 128)]⟩⟩ := by
 simp only [pollardref02_Num.l1]
 rw [if_pos (by omega), if_neg (by omega), Option.bind_some, show Int.tmod (x0 : Int) 128 = ((x0 % 128 : Nat) : Int) from rfl, show (((x0 % 128 : Nat) : Int) % 256) = ((x0 % 128 : Nat) : Int) by omega, strOf1, if_pos (by show 1 + 0 ≤ _; omega), show Int.tdiv (x0 : Int) 128 = ((x0 / 128 : Nat) : Int) from rfl, wrapU (x := ((x0 / 128 : Nat) : Int)) (by omega) (by omega), show wrap64 (0 + 1) = 1 by unfold wrap64; omega, if_pos (by omega), if_pos (by omega), Option.bind_some,
  show Int.tmod ((x0 / 128 : Nat) : Int) 128 = (((x0 / 128) % 128 : Nat) : Int) from rfl, show (((((x0 / 128) % 128 : Nat) : Int) % 256 + 128) % 256) = ((x0 / 128 + 128 : Nat) : Int) by omega, strOf1, if_pos (by show 1 + 1 ≤ _; omega), show wrap64 (1 + 1) = 2 by unfold wrap64; omega, if_neg (by omega)]
 rfl
theorem ref_num_pure {n : Nat} (h : n < 16512) : ∀ k, pollardref02_Num.f (k + 6) (n : Int) = some ⟨⟨numL n⟩⟩ := by
 intro k
 unfold pollardref02_Num.f
 rw [pollardref02_Num.l0]
 rw [if_pos (by omega)]
 rw [show (n : Int) - 0 = ((n : Nat) : Int) by omega, wrapU (by omega) (by omega)]
 by_cases h1 : n < 128
 ·
  rw [if_neg (by omega), pollardref02_Num.j1, show (n : Int) - 0 = ((n : Nat) : Int) by omega, wrapU (by omega) (by omega), ref_l1 h1]
  unfold numL
  rw [if_pos h1]
 ·
  rw [if_pos (by omega), pollardref02_Num.l0]
  rw [show wrap64 (1 + 1) = 2 by unfold wrap64; omega, if_pos (by omega), show IntKind.u64.wrap (0 + 128) = 128 by rfl, show IntKind.u64.wrap (128 * 128) = 16384 by rfl, show (n : Int) - 128 = ((n - 128 : Nat) : Int) by omega, wrapU (x := ((n - 128 : Nat) : Int)) (by omega) (by omega), if_neg (by omega), pollardref02_Num.j1,
   show (n : Int) - 128 = ((n - 128 : Nat) : Int) by omega, wrapU (x := ((n - 128 : Nat) : Int)) (by omega) (by omega), ref_l2 (by omega)]
  unfold numL
  rw [if_neg h1, show (n - 128) / 128 + 128 = n / 128 - 1 + 128 by omega, show (n - 128) % 128 = n % 128 by omega]
end Go.Proofs
