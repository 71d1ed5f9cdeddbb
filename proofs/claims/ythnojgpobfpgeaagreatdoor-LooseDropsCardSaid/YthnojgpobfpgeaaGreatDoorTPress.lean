/- Numbers' bytes, both programs'. -/
import Derived.Test.YthnojgpobfpgeaaGreatDoorPLb1
import Derived.Test.YthnojgpobfpgeaaGreatDoorEvText
namespace Go.Proofs
open Go.Ev Go.RowKit Go.Proofs.YthnojgpobfpgeaaGreatDoor.PLa Go.Proofs.YthnojgpobfpgeaaGreatDoorW.PrintWords
theorem strOf2 (a b : Nat) : strOfNums [(a : Int), (b : Int)] = ⟨⟨[UInt8.ofNat a, UInt8.ofNat b]⟩⟩ := rfl
theorem strOf1 (a : Nat) : strOfNums [(a : Int)] = ⟨⟨[UInt8.ofNat a]⟩⟩ := rfl
theorem num_pure {n : Nat} (h : n < 16512) : ∀ k, code_Num.f (k + 2) (n : Int) = some ⟨⟨numL n⟩⟩ := by
 intro k
 unfold code_Num.f
 rw [show Int.tdiv (n : Int) 128 = ((n / 128 : Nat) : Int) from rfl, show Int.tmod (n : Int) 128 = ((n % 128 : Nat) : Int) from rfl, wrapU (by omega) (by omega), show (((n % 128 : Nat) : Int) % 256) = ((n % 128 : Nat) : Int) by omega]
 simp only [code_Num.l0]
 by_cases h1 : n < 128
 ·
  rw [if_neg (by omega), strOf1]
  unfold numL
  rw [if_pos h1, show n % 128 = n by omega]
 ·
  rw [if_pos (by omega), Option.bind_some, if_pos (by simp)]
  rw [show ((n / 128 : Nat) : Int) - 1 = ((n / 128 - 1 : Nat) : Int) by omega, wrapU (x := ((n / 128 - 1 : Nat) : Int)) (by omega) (by omega)]
  rw [show Int.tdiv ((n / 128 - 1 : Nat) : Int) 128 = (((n / 128 - 1) / 128 : Nat) : Int) from rfl, show Int.tmod ((n / 128 - 1 : Nat) : Int) 128 = (((n / 128 - 1) % 128 : Nat) : Int) from rfl, wrapU (x := (((n / 128 - 1) / 128 : Nat) : Int)) (by omega) (by omega), if_neg (by omega)]
  rw [show (((((n / 128 - 1) % 128 : Nat) : Int) % 256 + 128) % 256) = ((n / 128 - 1 + 128 : Nat) : Int) by omega]
  rw [List.singleton_append, strOf2]
  unfold numL
  rw [if_neg h1]
end Go.Proofs
namespace Go.Proofs
open Go.Ev Go.RowKit Go.Proofs.YthnojgpobfpgeaaGreatDoorW.PrintWords
def ofL (l : List UInt8) : ByteArray := ⟨⟨l⟩⟩
theorem bt_eq {s b : ByteArray} {i j : Nat} (hi : i < s.size) (hj : j < b.size) : bt s (i : Int) = bt b (j : Int) ↔ s.data.toList[i]? = b.data.toList[j]? := by
 have h1 : ∀ (s : ByteArray) (i : Nat) (h : i < s.size), bt s (i : Int) = ((s.data.toList[i]'(by simpa using h)).toNat : Int) := by
  intro s i h
  unfold bt
  rw [dif_pos (show ((i : Int)).toNat < s.size from h)]
  rfl
 rw [h1 s i hi, h1 b j hj, List.getElem?_eq_getElem (by simpa using hi), List.getElem?_eq_getElem (by simpa using hj)]
 constructor
 ·
  intro h
  have : (s.data.toList[i]'(by simpa using hi)).toNat = (b.data.toList[j]'(by simpa using hj)).toNat := by omega
  rw [UInt8.toNat_inj.1 this]
 ·
  intro h
  rw [Option.some.inj h]
theorem w_add {a n : Nat} (h : a + n <= 1000000) : wrap64 ((a : Int) + (n : Int)) = ((a + n : Nat) : Int) := by rw [wrapI (by omega) (by omega)]; omega
theorem w_one {n : Nat} (h : n <= 1000000) : wrap64 ((n : Int) + 1) = ((n + 1 : Nat) : Int) := by rw [wrapI (by omega) (by omega)]; omega
end Go.Proofs
