/- vfs.up at an object's file and its folder. -/
import Derived.Test.YthnojgpobfpgeaaGreatDoorTPathR
/-! vfs.up at an object's file and its folder. -/
namespace Go.Proofs
open Go.Ev Go.RowKit
open Go.Proofs.YthnojgpobfpgeaaGreatDoor.PLa Go.Proofs.YthnojgpobfpgeaaGreatDoorW.PrintWords
open Go.Proofs.YthnojgpobfpgeaaGreatDoorW.PrintMore

theorem bt_at {l : List UInt8} {j : Nat} (h : j < l.length) : bt (ofL l) (j : Int) = (l[j].toNat : Int) := by
 unfold bt
 rw [dif_pos (show (j : Int).toNat < (ofL l).size from h)]
 rfl
theorem up_at {a m : List UInt8} (h : (a ++ 47 :: m).length ≤ 1000) (hm : ∀ c ∈ m, c ≠ 47) : vfs_up.f 1001 (ofL (a ++ 47 :: m)) = some (ofL a) := by
 have hl : (a ++ 47 :: m).length = a.length + m.length + 1 := by rw [List.length_append, List.length_cons]; omega
 have e := up_pure (s := ofL (a ++ 47 :: m)) h (i := a.length) (show a.length < (a ++ 47 :: m).length by omega) (by
   rw [bt_at (by omega)]
   rw [List.getElem_append_right (Nat.le_refl _)]
   simp) (by
   intro j h1 h2 h3
   have h2' : j < (a ++ 47 :: m).length := h2
   rw [bt_at h2', List.getElem_append_right (by omega)] at h3
   obtain ⟨k, hk⟩ : ∃ k, j - a.length = k + 1 := ⟨j - a.length - 1, by omega⟩
   simp only [hk, List.getElem_cons_succ] at h3
   have hk2 : k < m.length := by omega
   refine hm m[k] (List.getElem_mem hk2) ?_
   apply UInt8.toNat.inj
   show m[k].toNat = 47
   omega)
 rw [e]
 congr 1
 apply ByteArray.ext
 rw [ByteArray.data_extract]
 apply Array.ext'
 rw [Array.toList_extract, List.extract_eq_take_drop]
 show List.take (a.length - 0) (List.drop 0 (a ++ 47 :: m)) = a
 rw [List.drop_zero, Nat.sub_zero, List.take_left]
theorem up_path {id : List UInt8} (h : id.length = 32) (w : World) : Calls Tryz.prog 32 ⟨[str (pathL id)]⟩ w fun e w' => e = .returned (str (folL id)) ∧ Below w.heap.size w w' := by
 have e : pathL id = folL id ++ 47 :: h1L id := by unfold pathL; simp
 refine vfs_up.calls 1001 (ofL (pathL id)) (ofL (folL id)) w ?_
 rw [e]
 exact up_at (by rw [← e, pathL_len h]; decide) h1_47
theorem up_fol {id : List UInt8} (h : id.length = 32) (w : World) : Calls Tryz.prog 32 ⟨[str (folL id)]⟩ w fun e w' => e = .returned (str objL) ∧ Below w.heap.size w w' := by
 refine vfs_up.calls 1001 (ofL (folL id)) (ofL objL) w ?_
 rw [fol_split]
 exact up_at (by rw [← fol_split, folL_len h]; decide) h0_47
theorem up_inc (w : World) : Calls Tryz.prog 32 ⟨[str incL]⟩ w fun e w' => e = .returned (str objL) ∧ Below w.heap.size w w' :=
 vfs_up.calls 1001 (ofL incL) (ofL objL) w (up_at (a := objL) (m := [105, 110, 99, 111, 109, 105, 110, 103]) (by decide) (by decide))
theorem up_obj (w : World) : Calls Tryz.prog 32 ⟨[str objL]⟩ w fun e w' => e = .returned (str []) ∧ Below w.heap.size w w' :=
 vfs_up.calls 1001 (ofL objL) (ofL []) w (by kernel_rfl)
end Go.Proofs

/-! pollardref02.Hex. -/
namespace Go.Proofs
open Go.Ev Go.RowKit
open Go.Proofs.YthnojgpobfpgeaaGreatDoor.PLa Go.Proofs.YthnojgpobfpgeaaGreatDoorW.PrintWords

theorem digit_all : ∀ d : Nat, d < 16 → pollardref02_digit.f (d : Int) = some (ofL [digL d])
 | 0, _ => by kernel_rfl | 1, _ => by kernel_rfl | 2, _ => by kernel_rfl | 3, _ => by kernel_rfl | 4, _ => by kernel_rfl | 5, _ => by kernel_rfl | 6, _ => by kernel_rfl | 7, _ => by kernel_rfl | 8, _ => by kernel_rfl | 9, _ => by kernel_rfl
 | 10, _ => by kernel_rfl | 11, _ => by kernel_rfl | 12, _ => by kernel_rfl | 13, _ => by kernel_rfl | 14, _ => by kernel_rfl | 15, _ => by kernel_rfl
 | n + 16, h => absurd h (by omega)
theorem hexR_l0 (l : List UInt8) (hl : l.length ≤ 1000) : ∀ (g i k : Nat) (out : List UInt8), i + g = l.length → g + 1 ≤ k → out.length = 2 * i → pollardref02_Hex.l0 k (ofL l) (ofL out) (i : Int) = some (ofL (out ++ hexL (l.drop i)))
 | 0, i, k, out, hi, hk, ho => by
  obtain ⟨k, rfl⟩ : ∃ k', k = k' + 1 := ⟨k - 1, by omega⟩
  have hs : (ofL l).size = l.length := rfl
  rw [pollardref02_Hex.l0, if_neg (by omega), List.drop_of_length_le (by omega)]
  simp [hexL]
 | g + 1, i, k, out, hi, hk, ho => by
  obtain ⟨k, rfl⟩ : ∃ k', k = k' + 1 := ⟨k - 1, by omega⟩
  have hs : (ofL l).size = l.length := rfl
  have hil : i < l.length := by omega
  have hb := bt_at hil
  have hlt := (l[i]).toNat_lt
  obtain ⟨N, hN⟩ : ∃ N, N = (l[i]).toNat := ⟨_, rfl⟩
  rw [← hN] at hb hlt
  have c1 : (i : Int) < ((ofL l).size : Int) := by omega
  have c2 : (0 : Int) ≤ (i : Int) := by omega
  have c3 : N / 16 < 16 := by omega
  have c4 : N % 16 < 16 := by omega
  have s1 : ∀ x : List UInt8, (ofL x).size = x.length := fun _ => rfl
  have c5 : [digL (N / 16)].length + [digL (N % 16)].length ≤ 9223372036854775807 := (by decide : (2 : Nat) ≤ 9223372036854775807)
  have c6 : out.length + ([digL (N / 16)] ++ [digL (N % 16)]).length ≤ 9223372036854775807 := (show out.length + 2 ≤ 9223372036854775807 by omega)
  have ih := hexR_l0 l hl g (i + 1) k (out ++ ([digL (N / 16)] ++ [digL (N % 16)])) (by omega) (by omega) (by rw [List.length_append]; show out.length + 2 = _; omega)
  have e1 : wrap64 (Int.tdiv (wrap64 (N : Int)) 16) = ((N / 16 : Nat) : Int) := by
   rw [wrapI (x := (N : Int)) (by omega) (by omega)]
   show wrap64 ((N / 16 : Nat) : Int) = _
   exact wrapI (by omega) (by omega)
  have e3 : wrap64 ((i : Int) + 1) = ((i + 1 : Nat) : Int) := by
   clear e1
   rw [wrapI (by omega) (by omega)]
   push_cast; rfl
  have e2 : Int.tmod (wrap64 (N : Int)) 16 = ((N % 16 : Nat) : Int) := by
   clear e1 e3
   rw [wrapI (x := (N : Int)) (by omega) (by omega)]
   rfl
  rw [pollardref02_Hex.l0, if_pos c1, if_pos c2, hb, e1, e2, digit_all _ c3, Option.bind_some, digit_all _ c4, Option.bind_some, app_ofL, app_ofL, s1, s1, s1, s1, if_pos c5, if_pos c6, e3, ih]
  clear e1 e2 e3 c5 c6
  congr 2
  subst hN
  have e9 : hexL (l.drop i) = [digL ((l[i]).toNat / 16), digL ((l[i]).toNat % 16)] ++ hexL (l.drop (i + 1)) := by
   rw [List.drop_eq_getElem_cons hil]; rfl
  rw [e9, List.append_assoc]
  rfl
theorem hexR_calls (l : List UInt8) (hl : l.length ≤ 1000) (w : World) : Calls Tryz.prog 36 ⟨[str l]⟩ w fun e w' => e = .returned (str (hexL l)) ∧ Below w.heap.size w w' := by
 have h := hexR_l0 l hl l.length 0 (l.length + 1) [] (by omega) (Nat.le_refl _) rfl
 refine pollardref02_Hex.calls (l.length + 1) (ofL l) (ofL (hexL l)) w ?_
 rw [List.drop_zero, List.nil_append] at h
 exact h
end Go.Proofs
