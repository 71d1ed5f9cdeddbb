/- vfs.up at an object's file and its folder. -/
import Derived.Test.YthnojgpobfpgeaaGreatDoorTPathR
import Derived.Lib.Hide
namespace Go.Proofs
open Go.Ev Go.RowKit
theorem up_at {a m : List UInt8} (h : (a ++ 47 :: m).length <= 1000) (hm : ∀ c ∈ m, c ≠ 47) (w : World) : Calls Tryz.prog 32 #[.string (ofL (a ++ 47 :: m))] w fun e w' => e = .returned (.string (ofL a)) /\ Below w.heap.size w w' := by
 have hl : (a ++ 47 :: m).length = a.length + m.length + 1 := by rw [List.length_append, List.length_cons]; omega
 have hsz : (ofL (a ++ 47 :: m)).size = (a ++ 47 :: m).length := rfl
 refine up_calls0 (s := ofL (a ++ 47 :: m)) h (i := a.length) (by omega) ?_ (fun j h1 h2 h3 => ?_) ?_ w
 ·
  show ((a ++ 47 :: m)[a.length]'(by omega)).toNat = 47
  rw [List.getElem_append_right (Nat.le_refl _)]
  simp
 ·
  have h1' : j < (a ++ 47 :: m).length := h1
  have h3 : ((a ++ 47 :: m)[j]'h1').toNat = 47 := h3
  rw [List.getElem_append_right (by omega)] at h3
  obtain ⟨k, hk⟩ : ∃ k, j - a.length = k + 1 := ⟨j - a.length - 1, by omega⟩
  simp only [hk, List.getElem_cons_succ] at h3
  have hk2 : k < m.length := by omega
  exact hm m[k] (List.getElem_mem hk2) (UInt8.toNat.inj h3)
 ·
  apply ByteArray.ext
  rw [ByteArray.data_extract]
  apply Array.ext'
  rw [Array.toList_extract, List.extract_eq_take_drop]
  show List.take (a.length - 0) (List.drop 0 (a ++ 47 :: m)) = a
  rw [List.drop_zero, Nat.sub_zero, List.take_left]
theorem up_path {id : List UInt8} (h : id.length = 32) (w : World) : Calls Tryz.prog 32 ⟨[str (pathL id)]⟩ w fun e w' => e = .returned (str (folL id)) /\ Below w.heap.size w w' := by
 have e : pathL id = folL id ++ 47 :: h1L id := by unfold pathL; simp
 rw [e]
 exact up_at (by rw [<- e, pathL_len h]; decide) h1_47 w
theorem up_fol {id : List UInt8} (h : id.length = 32) (w : World) : Calls Tryz.prog 32 ⟨[str (folL id)]⟩ w fun e w' => e = .returned (str objL) /\ Below w.heap.size w w' := by
 rw [fol_split]
 exact up_at (by rw [<- fol_split, folL_len h]; decide) h0_47 w
theorem up_inc (w : World) : Calls Tryz.prog 32 ⟨[str incL]⟩ w fun e w' => e = .returned (str objL) /\ Below w.heap.size w w' :=
 up_at (a := objL) (m := [105, 110, 99, 111, 109, 105, 110, 103]) (by decide) (by decide) w
set_option maxRecDepth 1000000 in
theorem up_run : sameRes (runU 32 [str objL] Heap.empty) (str []) = true := by kernel_rfl
theorem up_obj (w : World) : Calls Tryz.prog 32 ⟨[str objL]⟩ w fun e w' => e = .returned (str []) /\ Below w.heap.size w w' := by
 letI : Sg := sgF (fun _ => .int .i64 0) fun _ => rfl
 obtain ⟨H, hrun⟩ := sameRes_ok up_run
 refine (calls_closed env_ok mixed (funsOk rfl) (specs_of rfl (fun e he => by cases he)) 100000 200 hrun (.cons (.string _) .nil) w (by rw [Tryz.func32]; rfl)).mono ?_
 rintro e w' ⟨u, rfl, ⟨ρ, hV⟩, hb⟩
 cases hV
 exact ⟨rfl, hb⟩
end Go.Proofs
namespace Go.Proofs
open Go.Ev Go.RowKit
theorem ext_take (l : List UInt8) (a b : Nat) : (ofL l).extract a b = ofL ((l.drop a).take (b - a)) := by
 apply ByteArray.ext
 rw [ByteArray.data_extract]
 apply Array.ext'
 rw [Array.toList_extract, List.extract_eq_take_drop]
 rfl
theorem str_ne0 {p q : ByteArray} (h : ¬ p = q) : (p.toList == q.toList) = false := by
 have e1 : p.toList = p.data.toList := ByteArray.toList_eq p
 have e2 : q.toList = q.data.toList := ByteArray.toList_eq q
 rw [e1, e2]
 cases hb : (p.data.toList == q.data.toList) with
 | false => rfl
 | true =>
  refine absurd ?_ h
  have := eq_of_beq hb
  obtain ⟨⟨p⟩⟩ := p; obtain ⟨⟨q⟩⟩ := q; simp at this; rw [this]
theorem one_eq (c : UInt8) : ((ofL [c]).toList == [47]) = decide (c = 47) := by
 show ((ofL [c]).toList == (ofL [47]).data.toList) = _
 rw [<- ByteArray.toList_eq]
 by_cases h : c = 47
 ·
  subst h
  rw [beq_self_eq_true]; rfl
 ·
  rw [decide_eq_false h]
  refine str_ne0 fun e => h ?_
  have : (ofL [c]).data.toList = (ofL [47]).data.toList := by rw [e]
  exact List.head_eq_of_cons_eq this
section
variable {l : List UInt8} {c : UInt8} (hl : l.length <= 1000)
include hl
set_option maxRecDepth 1000000 in
theorem suf95 (w : World) : Calls Tryz.prog 95 #[.string (ofL (l ++ [c])), .string ⟨#[47]⟩] w fun e w' => e = .returned (.bool (decide (c = 47))) /\ w' = w := by
 have e4 : (ofL (l ++ [c])).size = l.length + 1 := by show (l ++ [c]).length = _; simp
 have e5 : (ofL (l ++ [c])).extract l.length (l.length + 1) = ofL [c] := by
  rw [ext_take, List.drop_left, Nat.add_sub_cancel_left]; rfl
 have e6 := one_eq c
 generalize ofL (l ++ [c]) = S at e4 e5 ⊢
 generalize ofL [c] = C at e5 e6
 generalize hn : l.length = n at e4 e5 hl
 clear hn
 have a1 : (S.size : Int) = (n : Int) + 1 := by omega
 have a2 : (n : Int) + 1 - 1 = (n : Int) := by omega
 have a3 : (1 : Int) <= (n : Int) + 1 := by omega
 have a4 : (0 : Int) <= (n : Int) := by omega
 have a5 : (n : Int) <= (n : Int) + 1 := by omega
 have a6 : IntKind.i64.wrap (n : Int) = (n : Int) := wrapI64 _ (by omega)
 go_enter Tryz.func95, Tryz.ntmps95
 go_wp2
 go_ret
 exact ⟨rfl, rfl⟩
theorem hasSuf_calls (w : World) : Calls Tryz.prog 56 #[.string (ofL (l ++ [c])), .string ⟨#[47]⟩] w fun e w' => e = .returned (.bool (decide (c = 47))) /\ Below w.heap.size w w' := by
 have h := Lib.hid (suf95 (c := c) hl)
 generalize ofL (l ++ [c]) = S at h ⊢
 clear hl
 go_enter Tryz.func56, Tryz.ntmps56
 go_wp2_with (go_at_call 95; refine (h.out _).mono ?_; rintro r w1 ⟨rfl, hw⟩; rw [hw]; clear hw)
 go_ret
 exact ⟨rfl, Below.refl _ _⟩
end
theorem trimSuf_calls_no (w : World) (l : List UInt8) (c : UInt8) (hc : c ≠ 47) (hl : l.length <= 1000) : Calls Tryz.prog 52 #[.string (ofL (l ++ [c])), .string ⟨#[47]⟩] w fun e w' => e = .returned (.string (ofL (l ++ [c]))) /\ Below w.heap.size w w' := by
 have h := Lib.hid (suf95 (c := c) hl)
 rw [decide_eq_false hc] at h
 generalize ofL (l ++ [c]) = S at h ⊢
 clear hl hc
 have h91 : Hid (∀ w, Calls Tryz.prog 91 #[.string S, .string ⟨#[47]⟩] w fun e w' => e = .returned (.string S) /\ w' = w) := Lib.hid fun w => by
  go_enter Tryz.func91, Tryz.ntmps91
  go_wp2_with (go_at_call 95; refine (h.out _).mono ?_; rintro r w1 ⟨rfl, hw⟩; rw [hw]; clear hw)
  go_ret
  exact ⟨rfl, rfl⟩
 go_enter Tryz.func52, Tryz.ntmps52
 go_wp2_with (go_at_call 91; refine (h91.out _).mono ?_; rintro r w1 ⟨rfl, hw⟩; rw [hw]; clear hw)
 go_ret
 exact ⟨rfl, Below.refl _ _⟩
theorem trimSuf_calls_yes (w : World) (l : List UInt8) (hl : l.length <= 1000) : Calls Tryz.prog 52 #[.string (ofL (l ++ [47])), .string ⟨#[47]⟩] w fun e w' => e = .returned (.string (ofL l)) /\ Below w.heap.size w w' := by
 have h := Lib.hid (suf95 (c := 47) hl)
 rw [show decide ((47 : UInt8) = 47) = true from rfl] at h
 have e4 : (ofL (l ++ [47])).size = l.length + 1 := by show (l ++ [47]).length = _; simp
 have e5 : (ofL (l ++ [47])).extract 0 l.length = ofL l := by
  rw [ext_take, List.drop_zero, Nat.sub_zero, List.take_left]
 generalize ofL (l ++ [47]) = S at h e4 e5 ⊢
 generalize ofL l = R at e5 ⊢
 generalize hn : l.length = n at e4 e5 hl
 clear hn
 have a1 : (S.size : Int) = (n : Int) + 1 := by omega
 have a2 : (n : Int) + 1 - 1 = (n : Int) := by omega
 have a4 : (0 : Int) <= (n : Int) := by omega
 have a5 : (n : Int) <= (n : Int) + 1 := by omega
 have a6 : IntKind.i64.wrap (n : Int) = (n : Int) := wrapI64 _ (by omega)
 have h91 : Hid (∀ w, Calls Tryz.prog 91 #[.string S, .string ⟨#[47]⟩] w fun e w' => e = .returned (.string R) /\ w' = w) := Lib.hid fun w => by
  go_enter Tryz.func91, Tryz.ntmps91
  go_wp2_with (go_at_call 95; refine (h.out _).mono ?_; rintro r w1 ⟨rfl, hw⟩; rw [hw]; clear hw)
  go_ret
  exact ⟨rfl, rfl⟩
 clear h e4 e5 a1 a2 a4 a5 a6
 go_enter Tryz.func52, Tryz.ntmps52
 go_wp2_with (go_at_call 91; refine (h91.out _).mono ?_; rintro r w1 ⟨rfl, hw⟩; rw [hw]; clear hw)
 go_ret
 exact ⟨rfl, Below.refl _ _⟩
theorem trimPre_calls (w : World) (l : List UInt8) (hl : l.length <= 1000) : Calls Tryz.prog 89 #[.string (ofL (47 :: l)), .string ⟨#[47]⟩] w fun e w' => e = .returned (.string (ofL l)) /\ Below w.heap.size w w' := by
 have e4 : (ofL (47 :: l)).size = l.length + 1 := rfl
 have e5 : (ofL (47 :: l)).extract 0 1 = ofL [47] := by rw [ext_take]; rfl
 have e6 : (ofL (47 :: l)).extract 1 (l.length + 1) = ofL l := by
  rw [ext_take]
  show ofL (List.take (l.length + 1 - 1) l) = _
  rw [Nat.add_sub_cancel, List.take_length]
 have e7 := one_eq 47
 rw [show decide ((47 : UInt8) = 47) = true from rfl] at e7
 generalize ofL (47 :: l) = S at e4 e5 e6 ⊢
 generalize ofL l = R at e6 ⊢
 generalize ofL [47] = C at e5 e7
 generalize hn : l.length = n at e4 e6 hl
 clear hn
 have a1 : (S.size : Int) = (n : Int) + 1 := by omega
 have a3 : (1 : Int) <= (n : Int) + 1 := by omega
 have h139 : Hid (∀ w, Calls Tryz.prog 139 #[.string S, .string ⟨#[47]⟩] w fun e w' => e = .returned (.bool true) /\ w' = w) := Lib.hid fun w => by
  go_enter Tryz.func139, Tryz.ntmps139
  go_wp2
  go_ret
  exact ⟨rfl, rfl⟩
 have h119 : Hid (∀ w, Calls Tryz.prog 119 #[.string S, .string ⟨#[47]⟩] w fun e w' => e = .returned (.string R) /\ w' = w) := Lib.hid fun w => by
  clear e7 e5
  go_enter Tryz.func119, Tryz.ntmps119
  go_wp2_with (go_at_call 139; refine (h139.out _).mono ?_; rintro r w1 ⟨rfl, hw⟩; rw [hw]; clear hw)
  go_ret
  exact ⟨rfl, rfl⟩
 clear e4 e5 e6 e7 a1 a3 h139
 go_enter Tryz.func89, Tryz.ntmps89
 go_wp2_with (go_at_call 119; refine (h119.out _).mono ?_; rintro r w1 ⟨rfl, hw⟩; rw [hw]; clear hw)
 go_ret
 exact ⟨rfl, Below.refl _ _⟩
end Go.Proofs
