/- Ids and pressed texts: program and reference. -/
import Derived.Test.YthnojgpobfpgeaaGreatDoorTMid
import Derived.Test.YthnojgpobfpgeaaGreatDoorTRnd
import Derived.Test.YthnojgpobfpgeaaGreatDoorTPress
import Derived.Test.YthnojgpobfpgeaaGreatDoorPLa1
/-! Ids and pressed texts: program and reference. -/
namespace Go.Proofs
open Go.Ev Go.RowKit
open Go.Proofs.YthnojgpobfpgeaaGreatDoor.PLa Go.Proofs.YthnojgpobfpgeaaGreatDoorW.PrintWords

set_option maxRecDepth 100000 in
theorem oid_calls (s : ByteArray) (hs : s.size ≤ 1073741824) (w : World) : Calls Tryz.prog 27 #[.string s] w fun e w' => e = .returned (str (shaF s.data.toList)) ∧ Below w.heap.size w w' := by
 have h := Lib.hid (fun W => of_calls s hs W)
 clear hs
 go_enter Tryz.func27, Tryz.ntmps27
 go_wp2_with (go_at_call 63; refine (h.out _).mono ?_; rintro e w' ⟨rfl, hb⟩)
 go_ret
 exact ⟨rfl, hb⟩

set_option maxRecDepth 100000 in
theorem rid_calls (s : ByteArray) (hs : s.size ≤ 1073741824) (w : World) : Calls Tryz.prog 14 #[.string s] w fun e w' => e = .returned (str (shaF s.data.toList)) ∧ Below w.heap.size w w' := by
 have h : Hid (∀ W, Calls Tryz.prog 40 #[.string s] W fun e w' => e = .returned (str (shaF s.data.toList)) ∧ Below W.heap.size W w') := Lib.hid (fun W => ref_sum s.data.toList (by simpa using hs) W)
 clear hs
 go_enter Tryz.func14, Tryz.ntmps14
 go_wp2_with (go_at_call 40; refine (h.out _).mono ?_; rintro e w' ⟨rfl, hb⟩)
 go_ret
 exact ⟨rfl, hb⟩

end Go.Proofs

/-! The law's blobs: what Raw and Dec compute. -/
namespace Go.Proofs
open Go.Ev Go.RowKit
open Go.Proofs.YthnojgpobfpgeaaGreatDoor.PLa Go.Proofs.YthnojgpobfpgeaaGreatDoorW.PrintWords

theorem digit_pure : ∀ d : Nat, d < 10 → pollardref02_digit.f (wrap64 (d : Int)) = some (ofL [UInt8.ofNat (48 + d)])
 | 0, _ => by kernel_rfl | 1, _ => by kernel_rfl | 2, _ => by kernel_rfl | 3, _ => by kernel_rfl | 4, _ => by kernel_rfl | 5, _ => by kernel_rfl | 6, _ => by kernel_rfl | 7, _ => by kernel_rfl | 8, _ => by kernel_rfl | 9, _ => by kernel_rfl
 | n + 10, h => absurd h (by omega)
/-- A number's digits. -/
def decF : Nat → Nat → List UInt8
 | 0, n => [UInt8.ofNat (48 + n)]
 | f + 1, n => if n < 10 then [UInt8.ofNat (48 + n)] else decF f (n / 10) ++ [UInt8.ofNat (48 + n % 10)]
theorem decF_len : ∀ f n, (decF f n).length ≤ f + 1
 | 0, _ => Nat.le_refl _
 | f + 1, n => by
  unfold decF
  split
  ·
   simp
  ·
   rw [List.length_append]
   have := decF_len f (n / 10)
   simp
   omega
theorem app_ofL (a b : List UInt8) : ofL a ++ ofL b = ofL (a ++ b) := by
 apply ByteArray.ext
 rw [ByteArray.data_append]
 apply Array.ext'
 simp [ofL]
theorem dec_pure : ∀ f n : Nat, n < 10 ^ (f + 1) → n < 1000000 → f ≤ 5 → ∀ k, f + 1 ≤ k → pollardref02_Dec.f k (n : Int) = some (ofL (decF f n))
 | 0, n, h, _, _, k, hk => by
  obtain ⟨k, rfl⟩ : ∃ k', k = k' + 1 := ⟨k - 1, by omega⟩
  unfold pollardref02_Dec.f
  rw [if_pos (by omega), digit_pure n (by omega)]
  rfl
 | f + 1, n, h, h2, h5, k, hk => by
  obtain ⟨k, rfl⟩ : ∃ k', k = k' + 1 := ⟨k - 1, by omega⟩
  unfold pollardref02_Dec.f decF
  by_cases c : n < 10
  ·
   rw [if_pos (by omega), if_pos c, digit_pure n c]
   rfl
  ·
   have e1 : Int.tdiv (n : Int) 10 = ((n / 10 : Nat) : Int) := rfl
   have e2 : Int.tmod (n : Int) 10 = ((n % 10 : Nat) : Int) := rfl
   have e3 : IntKind.u64.wrap ((n / 10 : Nat) : Int) = ((n / 10 : Nat) : Int) := wrapU64 _ (by omega)
   have hp : n / 10 < 10 ^ (f + 1) := by rw [Nat.div_lt_iff_lt_mul (by omega), ← Nat.pow_succ]; exact h
   rw [if_neg (by omega), if_neg c, e1, e2, e3, dec_pure f (n / 10) hp (by omega) (by omega) k (by omega), digit_pure (n % 10) (by omega)]
   have hl := decF_len f (n / 10)
   have hs1 : (ofL (decF f (n / 10))).size = (decF f (n / 10)).length := rfl
   have hs2 : (ofL [UInt8.ofNat (48 + n % 10)]).size = 1 := rfl
   show (if (ofL (decF f (n / 10))).size + (ofL [UInt8.ofNat (48 + n % 10)]).size ≤ 9223372036854775807 then some (ofL (decF f (n / 10)) ++ ofL [UInt8.ofNat (48 + n % 10)]) else none) = _
   rw [if_pos (by omega), app_ofL]

/-- A blob's bytes: "blob", a space, the length, a nought, the text. -/
def blobL (l : List UInt8) : List UInt8 := [98, 108, 111, 98] ++ [32] ++ decF 2 l.length ++ [0] ++ l
theorem raw_pure (l : List UInt8) (h : l.length ≤ 200) : pollardref07_Raw.f 3 1 (ofL l) = some (ofL (blobL l)) := by
 have hsz : (ofL l).size = l.length := rfl
 have e0 : pollardref07_kind.f 1 = some (ofL [98, 108, 111, 98]) := rfl
 have e1 : IntKind.u64.wrap ((l.length : Nat) : Int) = (l.length : Int) := wrapU64 _ (by omega)
 have e2 := dec_pure 2 l.length (by omega) (by omega) (by omega) 3 (by omega)
 have hd := decF_len 2 l.length
 have s1 : ∀ x : List UInt8, (ofL x).size = x.length := fun _ => rfl
 have b32 : (⟨#[32]⟩ : ByteArray) = ofL [32] := rfl
 have b0 : (⟨#[0]⟩ : ByteArray) = ofL [0] := rfl
 unfold pollardref07_Raw.f
 rw [e0, b32, b0]
 show (if (ofL [98, 108, 111, 98]).size + 1 ≤ 9223372036854775807 then _ else none) = _
 rw [if_pos (by rw [s1]; decide), hsz, e1, e2]
 show (if (ofL [98, 108, 111, 98] ++ ofL [32]).size + (ofL (decF 2 l.length)).size ≤ 9223372036854775807 then _ else none) = _
 simp only [app_ofL, s1, List.length_append, List.length_cons, List.length_nil]
 rw [if_pos (by omega), if_pos (by omega), if_pos (by omega)]
 rfl
theorem blob_pure (s : ByteArray) : pollardlaw08_blob.f 3 s = some (ofL (blobL (s.data.toList.take 200))) := by
 have hsl : s.data.toList.length = s.size := by simp
 unfold pollardlaw08_blob.f
 by_cases c : s.size > 200
 ·
  rw [if_pos (by omega), if_pos (by omega), if_pos (by omega)]
  have e : s.extract 0 200 = ofL (s.data.toList.take 200) := by
   apply ByteArray.ext
   rw [ByteArray.data_extract]
   apply Array.ext'
   rw [Array.toList_extract, List.extract_eq_take_drop]
   rfl
  rw [e, raw_pure _ (by rw [List.length_take]; omega)]
  rfl
 ·
  rw [if_neg (by omega)]
  have e : s = ofL (s.data.toList.take 200) := by
   rw [List.take_of_length_le (by omega)]
   rfl
  conv => lhs; rw [e]
  rw [raw_pure _ (by rw [List.length_take]; omega)]
  rfl
theorem blob_calls (s : ByteArray) (w : World) : Calls Tryz.prog 7 #[.string s] w fun e w' => e = .returned (.string (ofL (blobL (s.data.toList.take 200)))) ∧ Below w.heap.size w w' := pollardlaw08_blob.calls 3 s _ w (blob_pure s)
end Go.Proofs
