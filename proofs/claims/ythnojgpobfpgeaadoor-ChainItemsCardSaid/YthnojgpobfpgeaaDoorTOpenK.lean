/- Slices of texts and of numbers, opened as the printed walk takes them; the law's call. -/
import Derived.Test.YthnojgpobfpgeaaDoorTPure
import Derived.SliceStrings
import Derived.ChangeSlices
/-! Slices of texts and of numbers, opened as the printed walk takes them; the law's call. -/
namespace Go.Proofs
open Go.RowKit Go.ChangeShapes Go.WideShapes Go.ChangeAt Go.ChangeMaps
open Go.Proofs.YthnojgpobfpgeaaDoorW.PrintWords

theorem strs_of {H : Type} {enc : TypeId × Value → H} {P : Program} {W : World} {fuel : Nat} {t e : TypeId} {a : Option Addr} {len cap : Nat} {x : DataW H × List MemPlace}
  (ht : P.underlying t = some (.slice e)) (he : P.underlying e = some .string) (hc : P.cellsOf e = 1) (h : DataW.trod enc P W 0 (fun _ => true) true fuel t [.slice a len cap] = some x) :
  ∃ L : List ByteArray, L.length = len ∧ len ≤ cap ∧ len ≤ 9223372036854775807 ∧ Kd.C Kd.string W a len L := by
 rcases open_strings ht he hc h with ⟨hcs, _⟩ | ⟨a, l, c, ss, hcs, _, hl, hm, hz, _, hcell, _⟩
 ·
  obtain ⟨rfl, rfl, rfl⟩ : a = none ∧ len = 0 ∧ cap = 0 := by simpa using hcs
  exact ⟨[], rfl, Nat.le_refl _, by omega, Kd.C_of_reads (d := ByteArray.empty) (h1 := fun _ => rfl) ⟨rfl, by omega, fun h => by omega⟩⟩
 ·
  obtain ⟨rfl, rfl, rfl⟩ : _ ∧ len = l ∧ cap = c := by simpa using hcs
  have hz' : ss.length = cap := hz
  unfold maxLen at hm
  refine ⟨ss.take len, by rw [List.length_take]; omega, hl, by omega, Kd.C_of_reads (d := ByteArray.empty) (h1 := fun _ => rfl) ⟨by rw [List.length_take]; omega, by omega, fun _ => ⟨_, rfl, fun j hj => ?_⟩⟩⟩
  have h3 := hcell j (by omega)
  rw [h3, List.getD_eq_getElem?_getD, List.getD_eq_getElem?_getD, List.getElem?_take_of_lt hj]
theorem ints_of {H : Type} {enc : TypeId × Value → H} {P : Program} {W : World} {fuel : Nat} {t e : TypeId} {a : Option Addr} {len cap : Nat} {x : DataW H × List MemPlace}
  (ht : P.underlying t = some (.slice e)) (he : P.underlying e = some (.int .i64)) (hc : P.cellsOf e = 1) (h : DataW.trod enc P W 0 (fun _ => true) true fuel t [.slice a len cap] = some x) :
  ∃ L : List Int, L.length = len ∧ len ≤ cap ∧ len ≤ 9223372036854775807 ∧ Kd.C (Kd.int .i64) W a len L := by
 rcases open_ints ht he hc h with ⟨hcs, _⟩ | ⟨a, l, c, zs, hcs, _, hl, hm, hz, _, hcell, _⟩
 ·
  obtain ⟨rfl, rfl, rfl⟩ : a = none ∧ len = 0 ∧ cap = 0 := by simpa using hcs
  exact ⟨[], rfl, Nat.le_refl _, by omega, Kd.C_of_reads (d := (0 : Int)) (h1 := fun _ => rfl) ⟨rfl, by omega, fun h => by omega⟩⟩
 ·
  obtain ⟨rfl, rfl, rfl⟩ : _ ∧ len = l ∧ cap = c := by simpa using hcs
  have hz' : zs.length = cap := hz
  unfold maxLen at hm
  refine ⟨zs.take len, by rw [List.length_take]; omega, hl, by omega, Kd.C_of_reads (d := (0 : Int)) (h1 := fun _ => rfl) ⟨by rw [List.length_take]; omega, by omega, fun _ => ⟨_, rfl, fun j hj => ?_⟩⟩⟩
  have h3 := hcell j (by omega)
  rw [h3, List.getD_eq_getElem?_getD, List.getD_eq_getElem?_getD, List.getElem?_take_of_lt hj]
/-- THE LAW's CALL. -/
theorem law_calls {W : World} {a0 a1 : Option Addr} {n0 c0 n1 c1 : Nat} {L : List ByteArray} {B : List Int} (h0 : L.length = n0) (hc0 : n0 ≤ c0) (hm0 : n0 ≤ 9223372036854775807) (hC0 : Kd.C Kd.string W a0 n0 L)
  (h1 : B.length = n1) (hc1 : n1 ≤ c1) (hC1 : Kd.C (Kd.int .i64) W a1 n1 B) : Calls Tryd.prog 3 #[.slice a0 n0 c0, .slice a1 n1 c1] W fun e w' => e = .returned (.bool true) ∧ Below W.heap.size W w' := by
 subst h0
 subst h1
 obtain ⟨k, hk⟩ := chainItems_pure B hm0
 exact Go.Proofs.YthnojgpobfpgeaaDoor.PCb.pollardlaw12_ChainItems.calls k a0 c0 L a1 c1 B true W hC0 hc0 hC1 hc1 hk
end Go.Proofs
