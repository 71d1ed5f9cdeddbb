/- vfs.up at an object's file and its folder. -/
import Derived.Test.YthnojgpobfpgeaaGreatDoorTPathR
/-! vfs.up at an object's file and its folder. -/
namespace Go.Proofs
open Go.Ev Go.RowKit
open Go.Proofs.YthnojgpobfpgeaaGreatDoor.PLa Go.Proofs.YthnojgpobfpgeaaGreatDoorW.PrintWords
open Go.Proofs.YthnojgpobfpgeaaGreatDoorW.PrintMore

theorem bt_at {l : List UInt8} {j : Nat} (h : j < l.length) : bt (ofL l) (j : Int) = (l[j].toNat : Int) := by
 unfold bt
 rw [dif_pos (show (j : Int).toNat < (ofL l).size from h)]
 rfl
theorem up_at {a m : List UInt8} (h : (a ++ 47 :: m).length ≤ 1000) (hm : ∀ c ∈ m, c ≠ 47) : vfs_up.f 1001 (ofL (a ++ 47 :: m)) = some (ofL a) := by
 have hl : (a ++ 47 :: m).length = a.length + m.length + 1 := by rw [List.length_append, List.length_cons]; omega
 have e := up_pure (s := ofL (a ++ 47 :: m)) h (i := a.length) (show a.length < (a ++ 47 :: m).length by omega) (by
   rw [bt_at (by omega)]
   rw [List.getElem_append_right (Nat.le_refl _)]
   simp) (by
   intro j h1 h2 h3
   have h2' : j < (a ++ 47 :: m).length := h2
   rw [bt_at h2', List.getElem_append_right (by omega)] at h3
   obtain ⟨k, hk⟩ : ∃ k, j - a.length = k + 1 := ⟨j - a.length - 1, by omega⟩
   simp only [hk, List.getElem_cons_succ] at h3
   have hk2 : k < m.length := by omega
   refine hm m[k] (List.getElem_mem hk2) ?_
   apply UInt8.toNat.inj
   show m[k].toNat = 47
   omega)
 rw [e]
 congr 1
 apply ByteArray.ext
 rw [ByteArray.data_extract]
 apply Array.ext'
 rw [Array.toList_extract, List.extract_eq_take_drop]
 show List.take (a.length - 0) (List.drop 0 (a ++ 47 :: m)) = a
 rw [List.drop_zero, Nat.sub_zero, List.take_left]
theorem up_path {id : List UInt8} (h : id.length = 32) (w : World) : Calls Tryz.prog 32 ⟨[str (pathL id)]⟩ w fun e w' => e = .returned (str (folL id)) ∧ Below w.heap.size w w' := by
 have e : pathL id = folL id ++ 47 :: h1L id := by unfold pathL; simp
 refine vfs_up.calls 1001 (ofL (pathL id)) (ofL (folL id)) w ?_
 rw [e]
 exact up_at (by rw [← e, pathL_len h]; decide) h1_47
theorem up_fol {id : List UInt8} (h : id.length = 32) (w : World) : Calls Tryz.prog 32 ⟨[str (folL id)]⟩ w fun e w' => e = .returned (str objL) ∧ Below w.heap.size w w' := by
 refine vfs_up.calls 1001 (ofL (folL id)) (ofL objL) w ?_
 rw [fol_split]
 exact up_at (by rw [← fol_split, folL_len h]; decide) h0_47
theorem up_inc (w : World) : Calls Tryz.prog 32 ⟨[str incL]⟩ w fun e w' => e = .returned (str objL) ∧ Below w.heap.size w w' :=
 vfs_up.calls 1001 (ofL incL) (ofL objL) w (up_at (a := objL) (m := [105, 110, 99, 111, 109, 105, 110, 103]) (by decide) (by decide))
theorem up_obj (w : World) : Calls Tryz.prog 32 ⟨[str objL]⟩ w fun e w' => e = .returned (str []) ∧ Below w.heap.size w w' :=
 vfs_up.calls 1001 (ofL objL) (ofL []) w (by kernel_rfl)
end Go.Proofs
