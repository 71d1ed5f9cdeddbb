/- ### pollardref09_Make: function 12 -/
import Derived.Test.YthnojgpobfpgeaaDoorPCa0
import Derived.Test.YthnojgpobfpgeaaDoorPCa1
import Derived.Test.YthnojgpobfpgeaaDoorPW
namespace Go.Proofs.YthnojgpobfpgeaaDoor.PCa
open Go.RowKit Go.Proofs.YthnojgpobfpgeaaDoorW.PrintWords Go.Proofs.YthnojgpobfpgeaaDoorW.PrintLast Go.Proofs
set_option linter.unusedVariables false
set_option linter.unusedSimpArgs false

/-! ### pollardref09_Make: function 12 -/
mutual
def pollardref09_Make.l0 : Nat → ByteArray → ByteArray → ByteArray → ByteArray → Int → Option (ByteArray)
 | 0, _, _, _, _, _ => none
 | k + 1, x0, x1, x5, x6, x7 => if x7 < (x1.size : Int) then (if (wrap64 (x7 + 16)) ≤ (x1.size : Int) then (if 0 ≤ x7 then (if x7 ≤ (wrap64 (x7 + 16)) then ((pollardref09_block.f k x0 (x1.extract (x7 : Int).toNat ((wrap64 (x7 + 16)) : Int).toNat)).bind fun t120 => (pollardref09_Make.j1 k x0 x1 x5 x6 x7 t120)) else (none)) else (none)) else (pollardref09_Make.j1 k x0 x1 x5 x6 x7 (-1))) else ((pollardref09_put.f k x6).bind fun t119 => (if x5.size + t119.size ≤ 9223372036854775807 then (some (x5 ++ t119)) else (none)))
def pollardref09_Make.j1 : Nat → ByteArray → ByteArray → ByteArray → ByteArray → Int → Int → Option (ByteArray)
 | 0, _, _, _, _, _, _ => none
 | k + 1, x0, x1, x5, x6, x7, x8 => if x8 < 0 then (if 0 ≤ x7 then (if x7 ≤ (wrap64 (x7 + 1)) then (if (wrap64 (x7 + 1)) ≤ (x1.size : Int) then (if x6.size + (x1.extract (x7 : Int).toNat ((wrap64 (x7 + 1)) : Int).toNat).size ≤ 9223372036854775807 then (pollardref09_Make.l0 k x0 x1 x5 (x6 ++ (x1.extract (x7 : Int).toNat ((wrap64 (x7 + 1)) : Int).toNat)) (wrap64 (x7 + 1))) else (none)) else (none)) else (none)) else (none)) else (pollardref09_Make.l1 k x0 x1 x5 x6 x7 x8 16)
def pollardref09_Make.l1 : Nat → ByteArray → ByteArray → ByteArray → ByteArray → Int → Int → Int → Option (ByteArray)
 | 0, _, _, _, _, _, _, _ => none
 | k + 1, x0, x1, x5, x6, x7, x8, x9 => if (wrap64 (x7 + x9)) < (x1.size : Int) then (if (wrap64 (x8 + x9)) < (x0.size : Int) then (if 0 ≤ (wrap64 (x7 + x9)) then (if 0 ≤ (wrap64 (x8 + x9)) then (if (bt x1 (wrap64 (x7 + x9))) = (bt x0 (wrap64 (x8 + x9))) then (pollardref09_Make.l1 k x0 x1 x5 x6 x7 x8 (wrap64 (x9 + 1))) else ((pollardref09_put.f k x6).bind fun t121 => ((pollardref02_Num.f k (IntKind.u64.wrap (wrap64 ((wrap64 (2 * x9)) - 1)))).bind fun t122 => (if t121.size + t122.size ≤ 9223372036854775807 then ((pollardref02_Num.f k (IntKind.u64.wrap (x8))).bind fun t123 => (if (t121 ++ t122).size + t123.size ≤ 9223372036854775807 then (if x5.size + ((t121 ++ t122) ++ t123).size ≤ 9223372036854775807 then (pollardref09_Make.l0 k x0 x1 (x5 ++ ((t121 ++ t122) ++ t123)) (⟨#[]⟩ : ByteArray) (wrap64 (x7 + x9))) else (none)) else (none))) else (none))))) else (none)) else (none)) else ((pollardref09_put.f k x6).bind fun t124 => ((pollardref02_Num.f k (IntKind.u64.wrap (wrap64 ((wrap64 (2 * x9)) - 1)))).bind fun t125 => (if t124.size + t125.size ≤ 9223372036854775807 then ((pollardref02_Num.f k (IntKind.u64.wrap (x8))).bind fun t126 => (if (t124 ++ t125).size + t126.size ≤ 9223372036854775807 then (if x5.size + ((t124 ++ t125) ++ t126).size ≤ 9223372036854775807 then (pollardref09_Make.l0 k x0 x1 (x5 ++ ((t124 ++ t125) ++ t126)) (⟨#[]⟩ : ByteArray) (wrap64 (x7 + x9))) else (none)) else (none))) else (none))))) else ((pollardref09_put.f k x6).bind fun t127 => ((pollardref02_Num.f k (IntKind.u64.wrap (wrap64 ((wrap64 (2 * x9)) - 1)))).bind fun t128 => (if t127.size + t128.size ≤ 9223372036854775807 then ((pollardref02_Num.f k (IntKind.u64.wrap (x8))).bind fun t129 => (if (t127 ++ t128).size + t129.size ≤ 9223372036854775807 then (if x5.size + ((t127 ++ t128) ++ t129).size ≤ 9223372036854775807 then (pollardref09_Make.l0 k x0 x1 (x5 ++ ((t127 ++ t128) ++ t129)) (⟨#[]⟩ : ByteArray) (wrap64 (x7 + x9))) else (none)) else (none))) else (none))))
end
def pollardref09_Make.f (k : Nat) (a0 : ByteArray) (a1 : ByteArray) : Option (ByteArray) := (pollardref02_Num.f k (IntKind.u64.wrap ((a0.size : Int)))).bind fun t117 => ((pollardref02_Num.f k (IntKind.u64.wrap ((a1.size : Int)))).bind fun t118 => (if t117.size + t118.size ≤ 9223372036854775807 then (pollardref09_Make.l0 k a0 a1 (t117 ++ t118) (⟨#[]⟩ : ByteArray) 0) else (none)))
set_option maxHeartbeats 8000000 in
set_option maxRecDepth 100000 in
theorem pollardref09_Make.calls (k : Nat) (a0 : ByteArray) (a1 : ByteArray) (r : ByteArray) (w : World) (h : pollardref09_Make.f k a0 a1 = some r) :
  Calls Tryd.prog 12 #[.string a0, .string a1] w fun e w' => e = .returned (.string r) ∧ Below w.heap.size w w' := by
 have HB := Aside0.mk (Below.refl w.heap.size w)
 have H : ((pollardref02_Num.f k (IntKind.u64.wrap ((a0.size : Int)))).bind fun t117 => ((pollardref02_Num.f k (IntKind.u64.wrap ((a1.size : Int)))).bind fun t118 => (if t117.size + t118.size ≤ 9223372036854775807 then (pollardref09_Make.l0 k a0 a1 (t117 ++ t118) (⟨#[]⟩ : ByteArray) 0) else (none)))) = some r := h
 clear h
 replace H := Option.bind_eq_some_iff.mp H
 obtain ⟨t117, A30, H⟩ := H
 replace H : ((pollardref02_Num.f k (IntKind.u64.wrap ((a1.size : Int)))).bind fun t118 => (if t117.size + t118.size ≤ 9223372036854775807 then (pollardref09_Make.l0 k a0 a1 (t117 ++ t118) (⟨#[]⟩ : ByteArray) 0) else (none))) = some r := H
 have A3 := Aside0.mk A30
 clear A30
 replace H := Option.bind_eq_some_iff.mp H
 obtain ⟨t118, A40, H⟩ := H
 replace H : (if t117.size + t118.size ≤ 9223372036854775807 then (pollardref09_Make.l0 k a0 a1 (t117 ++ t118) (⟨#[]⟩ : ByteArray) 0) else (none)) = some r := H
 have A4 := Aside0.mk A40
 clear A40
 by_cases c5 : t117.size + t118.size ≤ 9223372036854775807
 ·
  rw [if_pos c5] at H
  have c5b0 := eq_true c5
  have c5b1 : decide (t117.size + t118.size ≤ 9223372036854775807) = true := decide_eq_true c5
  try have c5b2 : (9223372036854775807 < t117.size + t118.size) = False := eq_false (Nat.not_lt.2 c5)
  have H' := Aside0.mk H
  clear H
  go_enter Tryd.func12, Tryd.ntmps12
  go_wp2_with (first | (go_at_call 21; (with_reducible refine (pollardref02_Num.calls k (IntKind.u64.wrap ((a0.size : Int))) t117 _ A3.out).mono ?_); rintro e w6 ⟨rfl, hb⟩; have n0_ := Aside0.mk (below_step (by repeat (first | exact HB.out | apply below_alloc | apply pw_below_drewN | apply below_drew1)) hb); clear HB; have HB := n0_; clear n0_; (try clear hb); (try clear hb2); (try clear hk); (try clear hi)) | (go_at_call 21; (with_reducible refine (pollardref02_Num.calls k (IntKind.u64.wrap ((a1.size : Int))) t118 _ A4.out).mono ?_); rintro e w7 ⟨rfl, hb⟩; have n0_ := Aside0.mk (below_step (by repeat (first | exact HB.out | apply below_alloc | apply pw_below_drewN | apply below_drew1)) hb); clear HB; have HB := n0_; clear n0_; (try clear hb); (try clear hb2); (try clear hk); (try clear hi)))
  repeat (go_quiet (first | (go_at_call 21; (with_reducible refine (pollardref02_Num.calls k (IntKind.u64.wrap ((a0.size : Int))) t117 _ A3.out).mono ?_); rintro e w6 ⟨rfl, hb⟩; have n0_ := Aside0.mk (below_step (by repeat (first | exact HB.out | apply below_alloc | apply pw_below_drewN | apply below_drew1)) hb); clear HB; have HB := n0_; clear n0_; (try clear hb); (try clear hb2); (try clear hk); (try clear hi)) | (go_at_call 21; (with_reducible refine (pollardref02_Num.calls k (IntKind.u64.wrap ((a1.size : Int))) t118 _ A4.out).mono ?_); rintro e w7 ⟨rfl, hb⟩; have n0_ := Aside0.mk (below_step (by repeat (first | exact HB.out | apply below_alloc | apply pw_below_drewN | apply below_drew1)) hb); clear HB; have HB := n0_; clear n0_; (try clear hb); (try clear hb2); (try clear hk); (try clear hi))); try go_wp2_with (first | (go_at_call 21; (with_reducible refine (pollardref02_Num.calls k (IntKind.u64.wrap ((a0.size : Int))) t117 _ A3.out).mono ?_); rintro e w6 ⟨rfl, hb⟩; have n0_ := Aside0.mk (below_step (by repeat (first | exact HB.out | apply below_alloc | apply pw_below_drewN | apply below_drew1)) hb); clear HB; have HB := n0_; clear n0_; (try clear hb); (try clear hb2); (try clear hk); (try clear hi)) | (go_at_call 21; (with_reducible refine (pollardref02_Num.calls k (IntKind.u64.wrap ((a1.size : Int))) t118 _ A4.out).mono ?_); rintro e w7 ⟨rfl, hb⟩; have n0_ := Aside0.mk (below_step (by repeat (first | exact HB.out | apply below_alloc | apply pw_below_drewN | apply below_drew1)) hb); clear HB; have HB := n0_; clear n0_; (try clear hb); (try clear hb2); (try clear hk); (try clear hi))))
  go_loopg [5, 6, 7] k (fun kq v5 v6 v7 w' => ∃ (x5_1 : ByteArray) (x6_1 : ByteArray) (x7_1 : Int), v5 = .string x5_1 ∧ v6 = .string x6_1 ∧ v7 = .int .i64 x7_1 ∧ Aside0 (pollardref09_Make.l0 kq a0 a1 x5_1 x6_1 x7_1 = some r) ∧ Aside0 (kq ≤ k) ∧ Aside0 (Below w.heap.size w w'))
  case atStart => exact ⟨(t117 ++ t118), ((⟨#[]⟩ : ByteArray)), (0), (by first | rfl | (simp; done) | (simp [*]; done)), (by first | rfl | (simp; done) | (simp [*]; done)), (by first | rfl | (simp; done) | (simp [*]; done)), H', ⟨Nat.le_refl _⟩, ⟨by repeat (first | exact HB.out | apply below_alloc | apply pw_below_drewN | apply below_drew1)⟩⟩
  case round =>
   clear H'
   obtain ⟨x5_1, x6_1, x7_1, rfl, rfl, rfl, HA, HK1, HB⟩ := hrel
   cases gk with
   | zero => exact absurd HA.out (by simp [pollardref09_Make.l0])
   | succ k1 =>
    have H := HA.out
    clear HA
    simp only [pollardref09_Make.l0] at H
    by_cases c8 : x7_1 < (a1.size : Int)
    ·
     rw [if_pos c8] at H
     have c8b0 : decide (x7_1 < (a1.size : Int)) = true := decide_eq_true c8
     clear c8
     have HC9 := Aside0.mk H
     clear H
     go_upto_if 27 with (fail)
     repeat (go_quiet (fail); go_upto_if 27 with (fail))
     go_cut [8] (fun v8 wc => ∃ (kq : Nat) (x8_8 : Int), v8 = .int .i64 x8_8 ∧ Aside0 (pollardref09_Make.j1 kq a0 a1 x5_1 x6_1 x7_1 x8_8 = some r) ∧ Aside0 (kq ≤ k1) ∧ Aside0 (Below w.heap.size w wc))
     case first =>
      have H := HC9.out
      clear HC9
      by_cases c10 : (wrap64 (x7_1 + 16)) ≤ (a1.size : Int)
      ·
       rw [if_pos c10] at H
       have c10b0 : decide ((wrap64 (x7_1 + 16)) ≤ (a1.size : Int)) = true := decide_eq_true c10
       clear c10
       (first | rw [c10b0] | (simp only [i64_w, i32_w]; rw [c10b0]) | skip)
       by_cases c11 : 0 ≤ x7_1
       ·
        rw [if_pos c11] at H
        have c11b0 := eq_true c11
        have c11b1 : decide (0 ≤ x7_1) = true := decide_eq_true c11
        clear c11
        by_cases c12 : x7_1 ≤ (wrap64 (x7_1 + 16))
        ·
         rw [if_pos c12] at H
         have c12b0 := eq_true c12
         have c12b1 : decide (x7_1 ≤ (wrap64 (x7_1 + 16))) = true := decide_eq_true c12
         have c13b0 := eq_true (of_decide_eq_true (by first | (with_reducible assumption) | assumption) : (wrap64 (x7_1 + 16)) ≤ (a1.size : Int))
         replace H := Option.bind_eq_some_iff.mp H
         obtain ⟨t120, A140, H⟩ := H
         replace H : (pollardref09_Make.j1 k1 a0 a1 x5_1 x6_1 x7_1 t120) = some r := H
         have A14 := Aside0.mk A140
         clear A140
         have H' := Aside0.mk H
         clear H
         go_wp2_with (first | (go_at_call 22; (with_reducible refine (pollardref09_block.calls k1 a0 (a1.extract (x7_1 : Int).toNat ((wrap64 (x7_1 + 16)) : Int).toNat) t120 _ A14.out).mono ?_); rintro e w' ⟨rfl, ⟨nd, rfl⟩⟩; (try first | exact ⟨rfl, _, World.drewN_drewN _ _ _⟩ | exact ⟨rfl, _, Eq.trans (World.drewN_drewN _ _ _) (congrArg (World.drewN _) (Nat.add_assoc _ _ _))⟩)))
         repeat (go_quiet (first | (go_at_call 22; (with_reducible refine (pollardref09_block.calls k1 a0 (a1.extract (x7_1 : Int).toNat ((wrap64 (x7_1 + 16)) : Int).toNat) t120 _ A14.out).mono ?_); rintro e w' ⟨rfl, ⟨nd, rfl⟩⟩; (try first | exact ⟨rfl, _, World.drewN_drewN _ _ _⟩ | exact ⟨rfl, _, Eq.trans (World.drewN_drewN _ _ _) (congrArg (World.drewN _) (Nat.add_assoc _ _ _))⟩))); try go_wp2_with (first | (go_at_call 22; (with_reducible refine (pollardref09_block.calls k1 a0 (a1.extract (x7_1 : Int).toNat ((wrap64 (x7_1 + 16)) : Int).toNat) t120 _ A14.out).mono ?_); rintro e w' ⟨rfl, ⟨nd, rfl⟩⟩; (try first | exact ⟨rfl, _, World.drewN_drewN _ _ _⟩ | exact ⟨rfl, _, Eq.trans (World.drewN_drewN _ _ _) (congrArg (World.drewN _) (Nat.add_assoc _ _ _))⟩))))
         go_meet
         case rel => exact ⟨_, (t120), (by first | rfl | (simp; done) | (simp [*]; done)), H', ⟨by have := HK1.out; first | omega | exact Nat.le_refl _⟩, ⟨by repeat (first | exact HB.out | apply below_alloc | apply pw_below_drewN | apply below_drew1)⟩⟩
        ·
         rw [if_neg c12] at H
         exact absurd H (by simp)
       ·
        rw [if_neg c11] at H
        exact absurd H (by simp)
      ·
       rw [if_neg c10] at H
       have c10b0 : decide ((wrap64 (x7_1 + 16)) ≤ (a1.size : Int)) = false := decide_eq_false c10
       clear c10
       (first | rw [c10b0] | (simp only [i64_w, i32_w]; rw [c10b0]) | skip)
       have H' := Aside0.mk H
       clear H
       go_wp2
       repeat (go_quiet (fail); try go_wp2)
       go_meet
       case rel => exact ⟨_, ((-1)), (by first | rfl | (simp; done) | (simp [*]; done)), H', ⟨by have := HK1.out; first | omega | exact Nat.le_refl _⟩, ⟨by repeat (first | exact HB.out | apply below_alloc | apply pw_below_drewN | apply below_drew1)⟩⟩
     case rest =>
      clear HC9
      obtain ⟨kq, x8_8, rfl, HA, HJ8, HB⟩ := hcut
      cases kq with
      | zero => exact absurd HA.out (by simp [pollardref09_Make.j1])
      | succ kj8 =>
       have H := HA.out
       clear HA
       simp only [pollardref09_Make.j1] at H
       by_cases c15 : x8_8 < 0
       ·
        rw [if_pos c15] at H
        have c15b0 : decide (x8_8 < 0) = true := decide_eq_true c15
        clear c15
        by_cases c16 : 0 ≤ x7_1
        ·
         rw [if_pos c16] at H
         have c16b0 := eq_true c16
         have c16b1 : decide (0 ≤ x7_1) = true := decide_eq_true c16
         clear c16
         by_cases c17 : x7_1 ≤ (wrap64 (x7_1 + 1))
         ·
          rw [if_pos c17] at H
          have c17b0 := eq_true c17
          have c17b1 : decide (x7_1 ≤ (wrap64 (x7_1 + 1))) = true := decide_eq_true c17
          by_cases c18 : (wrap64 (x7_1 + 1)) ≤ (a1.size : Int)
          ·
           rw [if_pos c18] at H
           have c18b0 := eq_true c18
           have c18b1 : decide ((wrap64 (x7_1 + 1)) ≤ (a1.size : Int)) = true := decide_eq_true c18
           by_cases c19 : x6_1.size + (a1.extract (x7_1 : Int).toNat ((wrap64 (x7_1 + 1)) : Int).toNat).size ≤ 9223372036854775807
           ·
            rw [if_pos c19] at H
            have c19b0 := eq_true c19
            have c19b1 : decide (x6_1.size + (a1.extract (x7_1 : Int).toNat ((wrap64 (x7_1 + 1)) : Int).toNat).size ≤ 9223372036854775807) = true := decide_eq_true c19
            try have c19b2 : (9223372036854775807 < x6_1.size + (a1.extract (x7_1 : Int).toNat ((wrap64 (x7_1 + 1)) : Int).toNat).size) = False := eq_false (Nat.not_lt.2 c19)
            have H' := Aside0.mk H
            clear H
            go_wp2
            repeat (go_quiet (fail); try go_wp2)
            go_roundg kj8
            case measure => have := HK1.out; have := HJ8.out; omega
            case rel => exact ⟨(x5_1), (x6_1 ++ (a1.extract (x7_1 : Int).toNat ((wrap64 (x7_1 + 1)) : Int).toNat)), (wrap64 (x7_1 + 1)), (by first | rfl | (simp; done) | (simp [*]; done)), (by first | rfl | (simp; done) | (simp [*]; done)), (by first | rfl | (simp; done) | (simp [*]; done)), H', ⟨by have := HK1.out; have := HJ8.out; omega⟩, ⟨by repeat (first | exact HB.out | apply below_alloc | apply pw_below_drewN | apply below_drew1)⟩⟩
           ·
            rw [if_neg c19] at H
            exact absurd H (by simp)
          ·
           rw [if_neg c18] at H
           exact absurd H (by simp)
         ·
          rw [if_neg c17] at H
          exact absurd H (by simp)
        ·
         rw [if_neg c16] at H
         exact absurd H (by simp)
       ·
        rw [if_neg c15] at H
        have c15b0 : decide (x8_8 < 0) = false := decide_eq_false c15
        clear c15
        have H' := Aside0.mk H
        clear H
        go_wp2
        repeat (go_quiet (fail); try go_wp2)
        go_loopg [9] kj8 (fun kq v9 w' => ∃ (x9_3 : Int), v9 = .int .i64 x9_3 ∧ Aside0 (pollardref09_Make.l1 kq a0 a1 x5_1 x6_1 x7_1 x8_8 x9_3 = some r) ∧ Aside0 (kq ≤ kj8) ∧ Aside0 (Below w.heap.size w w'))
        case atStart => exact ⟨(16), (by first | rfl | (simp; done) | (simp [*]; done)), H', ⟨Nat.le_refl _⟩, ⟨by repeat (first | exact HB.out | apply below_alloc | apply pw_below_drewN | apply below_drew1)⟩⟩
        case round =>
         clear H'
         obtain ⟨x9_3, rfl, HA, HK3, HB⟩ := hrel
         cases gk with
         | zero => exact absurd HA.out (by simp [pollardref09_Make.l1])
         | succ k3 =>
          have H := HA.out
          clear HA
          simp only [pollardref09_Make.l1] at H
          by_cases c20 : (wrap64 (x7_1 + x9_3)) < (a1.size : Int)
          ·
           rw [if_pos c20] at H
           have c20b0 : decide ((wrap64 (x7_1 + x9_3)) < (a1.size : Int)) = true := decide_eq_true c20
           clear c20
           by_cases c21 : (wrap64 (x8_8 + x9_3)) < (a0.size : Int)
           ·
            rw [if_pos c21] at H
            have c21b0 : decide ((wrap64 (x8_8 + x9_3)) < (a0.size : Int)) = true := decide_eq_true c21
            clear c21
            obtain ⟨ji22, hji22⟩ : ∃ j_ : Int, (wrap64 (x7_1 + x9_3)) = j_ := ⟨_, rfl⟩
            replace H : (if 0 ≤ (ji22) then (if 0 ≤ (wrap64 (x8_8 + x9_3)) then (if (bt a1 (ji22)) = (bt a0 (wrap64 (x8_8 + x9_3))) then (pollardref09_Make.l1 k3 a0 a1 x5_1 x6_1 x7_1 x8_8 (wrap64 (x9_3 + 1))) else ((pollardref09_put.f k3 x6_1).bind fun t121 => ((pollardref02_Num.f k3 (IntKind.u64.wrap (wrap64 ((wrap64 (2 * x9_3)) - 1)))).bind fun t122 => (if t121.size + t122.size ≤ 9223372036854775807 then ((pollardref02_Num.f k3 (IntKind.u64.wrap (x8_8))).bind fun t123 => (if (t121 ++ t122).size + t123.size ≤ 9223372036854775807 then (if x5_1.size + ((t121 ++ t122) ++ t123).size ≤ 9223372036854775807 then (pollardref09_Make.l0 k3 a0 a1 (x5_1 ++ ((t121 ++ t122) ++ t123)) (⟨#[]⟩ : ByteArray) ji22) else (none)) else (none))) else (none))))) else (none)) else (none)) = some r := by first | (rw [hji22] at H; exact H) | (simp only [hji22] at H ⊢; exact H)
            (try rw [hji22] at c20b0)
            have hji22w : (IntKind.i64.wrap (x7_1 + x9_3)) = ji22 := (i64_w _).trans hji22
            by_cases c23 : 0 ≤ (ji22)
            ·
             rw [if_pos c23] at H
             have c23b0 : decide (0 ≤ (ji22)) = true := decide_eq_true c23
             clear c23
             obtain ⟨ji25, hji25⟩ : ∃ j_ : Int, (wrap64 (x8_8 + x9_3)) = j_ := ⟨_, rfl⟩
             replace H : (if 0 ≤ (ji25) then (if (bt a1 (ji22)) = (bt a0 (ji25)) then (pollardref09_Make.l1 k3 a0 a1 x5_1 x6_1 x7_1 x8_8 (wrap64 (x9_3 + 1))) else ((pollardref09_put.f k3 x6_1).bind fun t121 => ((pollardref02_Num.f k3 (IntKind.u64.wrap (wrap64 ((wrap64 (2 * x9_3)) - 1)))).bind fun t122 => (if t121.size + t122.size ≤ 9223372036854775807 then ((pollardref02_Num.f k3 (IntKind.u64.wrap (x8_8))).bind fun t123 => (if (t121 ++ t122).size + t123.size ≤ 9223372036854775807 then (if x5_1.size + ((t121 ++ t122) ++ t123).size ≤ 9223372036854775807 then (pollardref09_Make.l0 k3 a0 a1 (x5_1 ++ ((t121 ++ t122) ++ t123)) (⟨#[]⟩ : ByteArray) ji22) else (none)) else (none))) else (none))))) else (none)) = some r := by first | (rw [hji25] at H; exact H) | (simp only [hji25] at H ⊢; exact H)
             (try rw [hji25] at c21b0)
             have hji25w : (IntKind.i64.wrap (x8_8 + x9_3)) = ji25 := (i64_w _).trans hji25
             by_cases c26 : 0 ≤ (ji25)
             ·
              rw [if_pos c26] at H
              have c26b0 : decide (0 ≤ (ji25)) = true := decide_eq_true c26
              clear c26
              by_cases c28 : (bt a1 (ji22)) = (bt a0 (ji25))
              ·
               rw [if_pos c28] at H
               have c28b0 : ((bt a1 (ji22)) == (bt a0 (ji25))) = true := beq_iff_eq.mpr c28
               have c28b1 : ((bt a1 (ji22)) != (bt a0 (ji25))) = false := bne_eq_false_iff_eq.mpr c28
               clear c28
               have H' := Aside0.mk H
               clear H
               have p24 : 0 ≤ ((ji22) : Int) := of_decide_eq_true (by first | (with_reducible assumption) | assumption)
               have q24 : (ji22) < (a1.size : Int) := of_decide_eq_true (by first | (with_reducible assumption) | assumption)
               have hx24 := bt_at a1 (ji22)
               replace p24 := eq_true p24
               replace q24 := eq_true q24
               have p27 : 0 ≤ ((ji25) : Int) := of_decide_eq_true (by first | (with_reducible assumption) | assumption)
               have q27 : (ji25) < (a0.size : Int) := of_decide_eq_true (by first | (with_reducible assumption) | assumption)
               have hx27 := bt_at a0 (ji25)
               replace p27 := eq_true p27
               replace q27 := eq_true q27
               go_wp2
               repeat (go_quiet (fail); try go_wp2)
               go_roundg k3
               case measure => have := HK1.out; have := HJ8.out; have := HK3.out; omega
               case rel => exact ⟨(wrap64 (x9_3 + 1)), (by first | rfl | (simp; done) | (simp [*]; done)), H', ⟨by have := HK1.out; have := HJ8.out; have := HK3.out; omega⟩, ⟨by repeat (first | exact HB.out | apply below_alloc | apply pw_below_drewN | apply below_drew1)⟩⟩
              ·
               rw [if_neg c28] at H
               have c28b0 : ((bt a1 (ji22)) == (bt a0 (ji25))) = false := beq_eq_false_iff_ne.mpr c28
               have c28b1 : ((bt a1 (ji22)) != (bt a0 (ji25))) = true := bne_iff_ne.mpr c28
               replace H := Option.bind_eq_some_iff.mp H
               obtain ⟨t121, A290, H⟩ := H
               replace H : ((pollardref02_Num.f k3 (IntKind.u64.wrap (wrap64 ((wrap64 (2 * x9_3)) - 1)))).bind fun t122 => (if t121.size + t122.size ≤ 9223372036854775807 then ((pollardref02_Num.f k3 (IntKind.u64.wrap (x8_8))).bind fun t123 => (if (t121 ++ t122).size + t123.size ≤ 9223372036854775807 then (if x5_1.size + ((t121 ++ t122) ++ t123).size ≤ 9223372036854775807 then (pollardref09_Make.l0 k3 a0 a1 (x5_1 ++ ((t121 ++ t122) ++ t123)) (⟨#[]⟩ : ByteArray) ji22) else (none)) else (none))) else (none))) = some r := H
               have A29 := Aside0.mk A290
               clear A290
               replace H := Option.bind_eq_some_iff.mp H
               obtain ⟨t122, A300, H⟩ := H
               replace H : (if t121.size + t122.size ≤ 9223372036854775807 then ((pollardref02_Num.f k3 (IntKind.u64.wrap (x8_8))).bind fun t123 => (if (t121 ++ t122).size + t123.size ≤ 9223372036854775807 then (if x5_1.size + ((t121 ++ t122) ++ t123).size ≤ 9223372036854775807 then (pollardref09_Make.l0 k3 a0 a1 (x5_1 ++ ((t121 ++ t122) ++ t123)) (⟨#[]⟩ : ByteArray) ji22) else (none)) else (none))) else (none)) = some r := H
               have A30 := Aside0.mk A300
               clear A300
               by_cases c31 : t121.size + t122.size ≤ 9223372036854775807
               ·
                rw [if_pos c31] at H
                have c31b0 := eq_true c31
                have c31b1 : decide (t121.size + t122.size ≤ 9223372036854775807) = true := decide_eq_true c31
                try have c31b2 : (9223372036854775807 < t121.size + t122.size) = False := eq_false (Nat.not_lt.2 c31)
                replace H := Option.bind_eq_some_iff.mp H
                obtain ⟨t123, A320, H⟩ := H
                replace H : (if (t121 ++ t122).size + t123.size ≤ 9223372036854775807 then (if x5_1.size + ((t121 ++ t122) ++ t123).size ≤ 9223372036854775807 then (pollardref09_Make.l0 k3 a0 a1 (x5_1 ++ ((t121 ++ t122) ++ t123)) (⟨#[]⟩ : ByteArray) ji22) else (none)) else (none)) = some r := H
                have A32 := Aside0.mk A320
                clear A320
                by_cases c33 : (t121 ++ t122).size + t123.size ≤ 9223372036854775807
                ·
                 rw [if_pos c33] at H
                 have c33b0 := eq_true c33
                 have c33b1 : decide ((t121 ++ t122).size + t123.size ≤ 9223372036854775807) = true := decide_eq_true c33
                 try have c33b2 : (9223372036854775807 < (t121 ++ t122).size + t123.size) = False := eq_false (Nat.not_lt.2 c33)
                 (try (have c33b5 : t121.size + t122.size + t123.size ≤ 9223372036854775807 := by (have h_ := c33; simp only [ByteArray.size_append] at h_; exact h_))); (try (have c33b6 : (9223372036854775807 < t121.size + t122.size + t123.size) = False := eq_false (Nat.not_lt.2 c33b5)))
                 by_cases c34 : x5_1.size + ((t121 ++ t122) ++ t123).size ≤ 9223372036854775807
                 ·
                  rw [if_pos c34] at H
                  have c34b0 := eq_true c34
                  have c34b1 : decide (x5_1.size + ((t121 ++ t122) ++ t123).size ≤ 9223372036854775807) = true := decide_eq_true c34
                  try have c34b2 : (9223372036854775807 < x5_1.size + ((t121 ++ t122) ++ t123).size) = False := eq_false (Nat.not_lt.2 c34)
                  (try (have c34b5 : x5_1.size + (t121.size + t122.size + t123.size) ≤ 9223372036854775807 := by (have h_ := c34; simp only [ByteArray.size_append] at h_; exact h_))); (try (have c34b6 : (9223372036854775807 < x5_1.size + (t121.size + t122.size + t123.size)) = False := eq_false (Nat.not_lt.2 c34b5)))
                  have H' := Aside0.mk H
                  clear H
                  have p24 : 0 ≤ ((ji22) : Int) := of_decide_eq_true (by first | (with_reducible assumption) | assumption)
                  have q24 : (ji22) < (a1.size : Int) := of_decide_eq_true (by first | (with_reducible assumption) | assumption)
                  have hx24 := bt_at a1 (ji22)
                  replace p24 := eq_true p24
                  replace q24 := eq_true q24
                  have p27 : 0 ≤ ((ji25) : Int) := of_decide_eq_true (by first | (with_reducible assumption) | assumption)
                  have q27 : (ji25) < (a0.size : Int) := of_decide_eq_true (by first | (with_reducible assumption) | assumption)
                  have hx27 := bt_at a0 (ji25)
                  replace p27 := eq_true p27
                  replace q27 := eq_true q27
                  go_wp2_with (first | (go_at_call 23; (with_reducible refine (pollardref09_put.calls k3 x6_1 t121 _ A29.out).mono ?_); rintro e w35 ⟨rfl, hb⟩; have n0_ := Aside0.mk (below_step (by repeat (first | exact HB.out | apply below_alloc | apply pw_below_drewN | apply below_drew1)) hb); clear HB; have HB := n0_; clear n0_; (try clear hb); (try clear hb2); (try clear hk); (try clear hi)) | (go_at_call 21; (with_reducible refine (pollardref02_Num.calls k3 (IntKind.u64.wrap (wrap64 ((wrap64 (2 * x9_3)) - 1))) t122 _ A30.out).mono ?_); rintro e w36 ⟨rfl, hb⟩; have n0_ := Aside0.mk (below_step (by repeat (first | exact HB.out | apply below_alloc | apply pw_below_drewN | apply below_drew1)) hb); clear HB; have HB := n0_; clear n0_; (try clear hb); (try clear hb2); (try clear hk); (try clear hi)) | (go_at_call 21; (with_reducible refine (pollardref02_Num.calls k3 (IntKind.u64.wrap (x8_8)) t123 _ A32.out).mono ?_); rintro e w37 ⟨rfl, hb⟩; have n0_ := Aside0.mk (below_step (by repeat (first | exact HB.out | apply below_alloc | apply pw_below_drewN | apply below_drew1)) hb); clear HB; have HB := n0_; clear n0_; (try clear hb); (try clear hb2); (try clear hk); (try clear hi)))
                  repeat (go_quiet (first | (go_at_call 23; (with_reducible refine (pollardref09_put.calls k3 x6_1 t121 _ A29.out).mono ?_); rintro e w35 ⟨rfl, hb⟩; have n0_ := Aside0.mk (below_step (by repeat (first | exact HB.out | apply below_alloc | apply pw_below_drewN | apply below_drew1)) hb); clear HB; have HB := n0_; clear n0_; (try clear hb); (try clear hb2); (try clear hk); (try clear hi)) | (go_at_call 21; (with_reducible refine (pollardref02_Num.calls k3 (IntKind.u64.wrap (wrap64 ((wrap64 (2 * x9_3)) - 1))) t122 _ A30.out).mono ?_); rintro e w36 ⟨rfl, hb⟩; have n0_ := Aside0.mk (below_step (by repeat (first | exact HB.out | apply below_alloc | apply pw_below_drewN | apply below_drew1)) hb); clear HB; have HB := n0_; clear n0_; (try clear hb); (try clear hb2); (try clear hk); (try clear hi)) | (go_at_call 21; (with_reducible refine (pollardref02_Num.calls k3 (IntKind.u64.wrap (x8_8)) t123 _ A32.out).mono ?_); rintro e w37 ⟨rfl, hb⟩; have n0_ := Aside0.mk (below_step (by repeat (first | exact HB.out | apply below_alloc | apply pw_below_drewN | apply below_drew1)) hb); clear HB; have HB := n0_; clear n0_; (try clear hb); (try clear hb2); (try clear hk); (try clear hi))); try go_wp2_with (first | (go_at_call 23; (with_reducible refine (pollardref09_put.calls k3 x6_1 t121 _ A29.out).mono ?_); rintro e w35 ⟨rfl, hb⟩; have n0_ := Aside0.mk (below_step (by repeat (first | exact HB.out | apply below_alloc | apply pw_below_drewN | apply below_drew1)) hb); clear HB; have HB := n0_; clear n0_; (try clear hb); (try clear hb2); (try clear hk); (try clear hi)) | (go_at_call 21; (with_reducible refine (pollardref02_Num.calls k3 (IntKind.u64.wrap (wrap64 ((wrap64 (2 * x9_3)) - 1))) t122 _ A30.out).mono ?_); rintro e w36 ⟨rfl, hb⟩; have n0_ := Aside0.mk (below_step (by repeat (first | exact HB.out | apply below_alloc | apply pw_below_drewN | apply below_drew1)) hb); clear HB; have HB := n0_; clear n0_; (try clear hb); (try clear hb2); (try clear hk); (try clear hi)) | (go_at_call 21; (with_reducible refine (pollardref02_Num.calls k3 (IntKind.u64.wrap (x8_8)) t123 _ A32.out).mono ?_); rintro e w37 ⟨rfl, hb⟩; have n0_ := Aside0.mk (below_step (by repeat (first | exact HB.out | apply below_alloc | apply pw_below_drewN | apply below_drew1)) hb); clear HB; have HB := n0_; clear n0_; (try clear hb); (try clear hb2); (try clear hk); (try clear hi))))
                  go_roundg k3
                  case measure => have := HK1.out; have := HJ8.out; have := HK3.out; omega
                  case rel => exact ⟨(x5_1 ++ ((t121 ++ t122) ++ t123)), ((⟨#[]⟩ : ByteArray)), (ji22), (by first | rfl | (simp; done) | (simp [*]; done)), (by first | rfl | (simp; done) | (simp [*]; done)), (by first | rfl | (simp; done) | (simp only [← hji22] <;> (first | rfl | simp)) | (simp [*]; done)), H', ⟨by have := HK1.out; have := HJ8.out; have := HK3.out; omega⟩, ⟨by repeat (first | exact HB.out | apply below_alloc | apply pw_below_drewN | apply below_drew1)⟩⟩
                 ·
                  rw [if_neg c34] at H
                  exact absurd H (by simp)
                ·
                 rw [if_neg c33] at H
                 exact absurd H (by simp)
               ·
                rw [if_neg c31] at H
                exact absurd H (by simp)
             ·
              rw [if_neg c26] at H
              exact absurd H (by simp)
            ·
             rw [if_neg c23] at H
             exact absurd H (by simp)
           ·
            rw [if_neg c21] at H
            have c21b0 : decide ((wrap64 (x8_8 + x9_3)) < (a0.size : Int)) = false := decide_eq_false c21
            clear c21
            replace H := Option.bind_eq_some_iff.mp H
            obtain ⟨t124, A380, H⟩ := H
            replace H : ((pollardref02_Num.f k3 (IntKind.u64.wrap (wrap64 ((wrap64 (2 * x9_3)) - 1)))).bind fun t125 => (if t124.size + t125.size ≤ 9223372036854775807 then ((pollardref02_Num.f k3 (IntKind.u64.wrap (x8_8))).bind fun t126 => (if (t124 ++ t125).size + t126.size ≤ 9223372036854775807 then (if x5_1.size + ((t124 ++ t125) ++ t126).size ≤ 9223372036854775807 then (pollardref09_Make.l0 k3 a0 a1 (x5_1 ++ ((t124 ++ t125) ++ t126)) (⟨#[]⟩ : ByteArray) (wrap64 (x7_1 + x9_3))) else (none)) else (none))) else (none))) = some r := H
            have A38 := Aside0.mk A380
            clear A380
            replace H := Option.bind_eq_some_iff.mp H
            obtain ⟨t125, A390, H⟩ := H
            replace H : (if t124.size + t125.size ≤ 9223372036854775807 then ((pollardref02_Num.f k3 (IntKind.u64.wrap (x8_8))).bind fun t126 => (if (t124 ++ t125).size + t126.size ≤ 9223372036854775807 then (if x5_1.size + ((t124 ++ t125) ++ t126).size ≤ 9223372036854775807 then (pollardref09_Make.l0 k3 a0 a1 (x5_1 ++ ((t124 ++ t125) ++ t126)) (⟨#[]⟩ : ByteArray) (wrap64 (x7_1 + x9_3))) else (none)) else (none))) else (none)) = some r := H
            have A39 := Aside0.mk A390
            clear A390
            by_cases c40 : t124.size + t125.size ≤ 9223372036854775807
            ·
             rw [if_pos c40] at H
             have c40b0 := eq_true c40
             have c40b1 : decide (t124.size + t125.size ≤ 9223372036854775807) = true := decide_eq_true c40
             try have c40b2 : (9223372036854775807 < t124.size + t125.size) = False := eq_false (Nat.not_lt.2 c40)
             replace H := Option.bind_eq_some_iff.mp H
             obtain ⟨t126, A410, H⟩ := H
             replace H : (if (t124 ++ t125).size + t126.size ≤ 9223372036854775807 then (if x5_1.size + ((t124 ++ t125) ++ t126).size ≤ 9223372036854775807 then (pollardref09_Make.l0 k3 a0 a1 (x5_1 ++ ((t124 ++ t125) ++ t126)) (⟨#[]⟩ : ByteArray) (wrap64 (x7_1 + x9_3))) else (none)) else (none)) = some r := H
             have A41 := Aside0.mk A410
             clear A410
             by_cases c42 : (t124 ++ t125).size + t126.size ≤ 9223372036854775807
             ·
              rw [if_pos c42] at H
              have c42b0 := eq_true c42
              have c42b1 : decide ((t124 ++ t125).size + t126.size ≤ 9223372036854775807) = true := decide_eq_true c42
              try have c42b2 : (9223372036854775807 < (t124 ++ t125).size + t126.size) = False := eq_false (Nat.not_lt.2 c42)
              (try (have c42b5 : t124.size + t125.size + t126.size ≤ 9223372036854775807 := by (have h_ := c42; simp only [ByteArray.size_append] at h_; exact h_))); (try (have c42b6 : (9223372036854775807 < t124.size + t125.size + t126.size) = False := eq_false (Nat.not_lt.2 c42b5)))
              by_cases c43 : x5_1.size + ((t124 ++ t125) ++ t126).size ≤ 9223372036854775807
              ·
               rw [if_pos c43] at H
               have c43b0 := eq_true c43
               have c43b1 : decide (x5_1.size + ((t124 ++ t125) ++ t126).size ≤ 9223372036854775807) = true := decide_eq_true c43
               try have c43b2 : (9223372036854775807 < x5_1.size + ((t124 ++ t125) ++ t126).size) = False := eq_false (Nat.not_lt.2 c43)
               (try (have c43b5 : x5_1.size + (t124.size + t125.size + t126.size) ≤ 9223372036854775807 := by (have h_ := c43; simp only [ByteArray.size_append] at h_; exact h_))); (try (have c43b6 : (9223372036854775807 < x5_1.size + (t124.size + t125.size + t126.size)) = False := eq_false (Nat.not_lt.2 c43b5)))
               have H' := Aside0.mk H
               clear H
               go_wp2_with (first | (go_at_call 23; (with_reducible refine (pollardref09_put.calls k3 x6_1 t124 _ A38.out).mono ?_); rintro e w44 ⟨rfl, hb⟩; have n0_ := Aside0.mk (below_step (by repeat (first | exact HB.out | apply below_alloc | apply pw_below_drewN | apply below_drew1)) hb); clear HB; have HB := n0_; clear n0_; (try clear hb); (try clear hb2); (try clear hk); (try clear hi)) | (go_at_call 21; (with_reducible refine (pollardref02_Num.calls k3 (IntKind.u64.wrap (wrap64 ((wrap64 (2 * x9_3)) - 1))) t125 _ A39.out).mono ?_); rintro e w45 ⟨rfl, hb⟩; have n0_ := Aside0.mk (below_step (by repeat (first | exact HB.out | apply below_alloc | apply pw_below_drewN | apply below_drew1)) hb); clear HB; have HB := n0_; clear n0_; (try clear hb); (try clear hb2); (try clear hk); (try clear hi)) | (go_at_call 21; (with_reducible refine (pollardref02_Num.calls k3 (IntKind.u64.wrap (x8_8)) t126 _ A41.out).mono ?_); rintro e w46 ⟨rfl, hb⟩; have n0_ := Aside0.mk (below_step (by repeat (first | exact HB.out | apply below_alloc | apply pw_below_drewN | apply below_drew1)) hb); clear HB; have HB := n0_; clear n0_; (try clear hb); (try clear hb2); (try clear hk); (try clear hi)))
               repeat (go_quiet (first | (go_at_call 23; (with_reducible refine (pollardref09_put.calls k3 x6_1 t124 _ A38.out).mono ?_); rintro e w44 ⟨rfl, hb⟩; have n0_ := Aside0.mk (below_step (by repeat (first | exact HB.out | apply below_alloc | apply pw_below_drewN | apply below_drew1)) hb); clear HB; have HB := n0_; clear n0_; (try clear hb); (try clear hb2); (try clear hk); (try clear hi)) | (go_at_call 21; (with_reducible refine (pollardref02_Num.calls k3 (IntKind.u64.wrap (wrap64 ((wrap64 (2 * x9_3)) - 1))) t125 _ A39.out).mono ?_); rintro e w45 ⟨rfl, hb⟩; have n0_ := Aside0.mk (below_step (by repeat (first | exact HB.out | apply below_alloc | apply pw_below_drewN | apply below_drew1)) hb); clear HB; have HB := n0_; clear n0_; (try clear hb); (try clear hb2); (try clear hk); (try clear hi)) | (go_at_call 21; (with_reducible refine (pollardref02_Num.calls k3 (IntKind.u64.wrap (x8_8)) t126 _ A41.out).mono ?_); rintro e w46 ⟨rfl, hb⟩; have n0_ := Aside0.mk (below_step (by repeat (first | exact HB.out | apply below_alloc | apply pw_below_drewN | apply below_drew1)) hb); clear HB; have HB := n0_; clear n0_; (try clear hb); (try clear hb2); (try clear hk); (try clear hi))); try go_wp2_with (first | (go_at_call 23; (with_reducible refine (pollardref09_put.calls k3 x6_1 t124 _ A38.out).mono ?_); rintro e w44 ⟨rfl, hb⟩; have n0_ := Aside0.mk (below_step (by repeat (first | exact HB.out | apply below_alloc | apply pw_below_drewN | apply below_drew1)) hb); clear HB; have HB := n0_; clear n0_; (try clear hb); (try clear hb2); (try clear hk); (try clear hi)) | (go_at_call 21; (with_reducible refine (pollardref02_Num.calls k3 (IntKind.u64.wrap (wrap64 ((wrap64 (2 * x9_3)) - 1))) t125 _ A39.out).mono ?_); rintro e w45 ⟨rfl, hb⟩; have n0_ := Aside0.mk (below_step (by repeat (first | exact HB.out | apply below_alloc | apply pw_below_drewN | apply below_drew1)) hb); clear HB; have HB := n0_; clear n0_; (try clear hb); (try clear hb2); (try clear hk); (try clear hi)) | (go_at_call 21; (with_reducible refine (pollardref02_Num.calls k3 (IntKind.u64.wrap (x8_8)) t126 _ A41.out).mono ?_); rintro e w46 ⟨rfl, hb⟩; have n0_ := Aside0.mk (below_step (by repeat (first | exact HB.out | apply below_alloc | apply pw_below_drewN | apply below_drew1)) hb); clear HB; have HB := n0_; clear n0_; (try clear hb); (try clear hb2); (try clear hk); (try clear hi))))
               go_roundg k3
               case measure => have := HK1.out; have := HJ8.out; have := HK3.out; omega
               case rel => exact ⟨(x5_1 ++ ((t124 ++ t125) ++ t126)), ((⟨#[]⟩ : ByteArray)), (wrap64 (x7_1 + x9_3)), (by first | rfl | (simp; done) | (simp [*]; done)), (by first | rfl | (simp; done) | (simp [*]; done)), (by first | rfl | (simp; done) | (simp [*]; done)), H', ⟨by have := HK1.out; have := HJ8.out; have := HK3.out; omega⟩, ⟨by repeat (first | exact HB.out | apply below_alloc | apply pw_below_drewN | apply below_drew1)⟩⟩
              ·
               rw [if_neg c43] at H
               exact absurd H (by simp)
             ·
              rw [if_neg c42] at H
              exact absurd H (by simp)
            ·
             rw [if_neg c40] at H
             exact absurd H (by simp)
          ·
           rw [if_neg c20] at H
           have c20b0 : decide ((wrap64 (x7_1 + x9_3)) < (a1.size : Int)) = false := decide_eq_false c20
           clear c20
           replace H := Option.bind_eq_some_iff.mp H
           obtain ⟨t127, A470, H⟩ := H
           replace H : ((pollardref02_Num.f k3 (IntKind.u64.wrap (wrap64 ((wrap64 (2 * x9_3)) - 1)))).bind fun t128 => (if t127.size + t128.size ≤ 9223372036854775807 then ((pollardref02_Num.f k3 (IntKind.u64.wrap (x8_8))).bind fun t129 => (if (t127 ++ t128).size + t129.size ≤ 9223372036854775807 then (if x5_1.size + ((t127 ++ t128) ++ t129).size ≤ 9223372036854775807 then (pollardref09_Make.l0 k3 a0 a1 (x5_1 ++ ((t127 ++ t128) ++ t129)) (⟨#[]⟩ : ByteArray) (wrap64 (x7_1 + x9_3))) else (none)) else (none))) else (none))) = some r := H
           have A47 := Aside0.mk A470
           clear A470
           replace H := Option.bind_eq_some_iff.mp H
           obtain ⟨t128, A480, H⟩ := H
           replace H : (if t127.size + t128.size ≤ 9223372036854775807 then ((pollardref02_Num.f k3 (IntKind.u64.wrap (x8_8))).bind fun t129 => (if (t127 ++ t128).size + t129.size ≤ 9223372036854775807 then (if x5_1.size + ((t127 ++ t128) ++ t129).size ≤ 9223372036854775807 then (pollardref09_Make.l0 k3 a0 a1 (x5_1 ++ ((t127 ++ t128) ++ t129)) (⟨#[]⟩ : ByteArray) (wrap64 (x7_1 + x9_3))) else (none)) else (none))) else (none)) = some r := H
           have A48 := Aside0.mk A480
           clear A480
           by_cases c49 : t127.size + t128.size ≤ 9223372036854775807
           ·
            rw [if_pos c49] at H
            have c49b0 := eq_true c49
            have c49b1 : decide (t127.size + t128.size ≤ 9223372036854775807) = true := decide_eq_true c49
            try have c49b2 : (9223372036854775807 < t127.size + t128.size) = False := eq_false (Nat.not_lt.2 c49)
            replace H := Option.bind_eq_some_iff.mp H
            obtain ⟨t129, A500, H⟩ := H
            replace H : (if (t127 ++ t128).size + t129.size ≤ 9223372036854775807 then (if x5_1.size + ((t127 ++ t128) ++ t129).size ≤ 9223372036854775807 then (pollardref09_Make.l0 k3 a0 a1 (x5_1 ++ ((t127 ++ t128) ++ t129)) (⟨#[]⟩ : ByteArray) (wrap64 (x7_1 + x9_3))) else (none)) else (none)) = some r := H
            have A50 := Aside0.mk A500
            clear A500
            by_cases c51 : (t127 ++ t128).size + t129.size ≤ 9223372036854775807
            ·
             rw [if_pos c51] at H
             have c51b0 := eq_true c51
             have c51b1 : decide ((t127 ++ t128).size + t129.size ≤ 9223372036854775807) = true := decide_eq_true c51
             try have c51b2 : (9223372036854775807 < (t127 ++ t128).size + t129.size) = False := eq_false (Nat.not_lt.2 c51)
             (try (have c51b5 : t127.size + t128.size + t129.size ≤ 9223372036854775807 := by (have h_ := c51; simp only [ByteArray.size_append] at h_; exact h_))); (try (have c51b6 : (9223372036854775807 < t127.size + t128.size + t129.size) = False := eq_false (Nat.not_lt.2 c51b5)))
             by_cases c52 : x5_1.size + ((t127 ++ t128) ++ t129).size ≤ 9223372036854775807
             ·
              rw [if_pos c52] at H
              have c52b0 := eq_true c52
              have c52b1 : decide (x5_1.size + ((t127 ++ t128) ++ t129).size ≤ 9223372036854775807) = true := decide_eq_true c52
              try have c52b2 : (9223372036854775807 < x5_1.size + ((t127 ++ t128) ++ t129).size) = False := eq_false (Nat.not_lt.2 c52)
              (try (have c52b5 : x5_1.size + (t127.size + t128.size + t129.size) ≤ 9223372036854775807 := by (have h_ := c52; simp only [ByteArray.size_append] at h_; exact h_))); (try (have c52b6 : (9223372036854775807 < x5_1.size + (t127.size + t128.size + t129.size)) = False := eq_false (Nat.not_lt.2 c52b5)))
              have H' := Aside0.mk H
              clear H
              go_wp2_with (first | (go_at_call 23; (with_reducible refine (pollardref09_put.calls k3 x6_1 t127 _ A47.out).mono ?_); rintro e w53 ⟨rfl, hb⟩; have n0_ := Aside0.mk (below_step (by repeat (first | exact HB.out | apply below_alloc | apply pw_below_drewN | apply below_drew1)) hb); clear HB; have HB := n0_; clear n0_; (try clear hb); (try clear hb2); (try clear hk); (try clear hi)) | (go_at_call 21; (with_reducible refine (pollardref02_Num.calls k3 (IntKind.u64.wrap (wrap64 ((wrap64 (2 * x9_3)) - 1))) t128 _ A48.out).mono ?_); rintro e w54 ⟨rfl, hb⟩; have n0_ := Aside0.mk (below_step (by repeat (first | exact HB.out | apply below_alloc | apply pw_below_drewN | apply below_drew1)) hb); clear HB; have HB := n0_; clear n0_; (try clear hb); (try clear hb2); (try clear hk); (try clear hi)) | (go_at_call 21; (with_reducible refine (pollardref02_Num.calls k3 (IntKind.u64.wrap (x8_8)) t129 _ A50.out).mono ?_); rintro e w55 ⟨rfl, hb⟩; have n0_ := Aside0.mk (below_step (by repeat (first | exact HB.out | apply below_alloc | apply pw_below_drewN | apply below_drew1)) hb); clear HB; have HB := n0_; clear n0_; (try clear hb); (try clear hb2); (try clear hk); (try clear hi)))
              repeat (go_quiet (first | (go_at_call 23; (with_reducible refine (pollardref09_put.calls k3 x6_1 t127 _ A47.out).mono ?_); rintro e w53 ⟨rfl, hb⟩; have n0_ := Aside0.mk (below_step (by repeat (first | exact HB.out | apply below_alloc | apply pw_below_drewN | apply below_drew1)) hb); clear HB; have HB := n0_; clear n0_; (try clear hb); (try clear hb2); (try clear hk); (try clear hi)) | (go_at_call 21; (with_reducible refine (pollardref02_Num.calls k3 (IntKind.u64.wrap (wrap64 ((wrap64 (2 * x9_3)) - 1))) t128 _ A48.out).mono ?_); rintro e w54 ⟨rfl, hb⟩; have n0_ := Aside0.mk (below_step (by repeat (first | exact HB.out | apply below_alloc | apply pw_below_drewN | apply below_drew1)) hb); clear HB; have HB := n0_; clear n0_; (try clear hb); (try clear hb2); (try clear hk); (try clear hi)) | (go_at_call 21; (with_reducible refine (pollardref02_Num.calls k3 (IntKind.u64.wrap (x8_8)) t129 _ A50.out).mono ?_); rintro e w55 ⟨rfl, hb⟩; have n0_ := Aside0.mk (below_step (by repeat (first | exact HB.out | apply below_alloc | apply pw_below_drewN | apply below_drew1)) hb); clear HB; have HB := n0_; clear n0_; (try clear hb); (try clear hb2); (try clear hk); (try clear hi))); try go_wp2_with (first | (go_at_call 23; (with_reducible refine (pollardref09_put.calls k3 x6_1 t127 _ A47.out).mono ?_); rintro e w53 ⟨rfl, hb⟩; have n0_ := Aside0.mk (below_step (by repeat (first | exact HB.out | apply below_alloc | apply pw_below_drewN | apply below_drew1)) hb); clear HB; have HB := n0_; clear n0_; (try clear hb); (try clear hb2); (try clear hk); (try clear hi)) | (go_at_call 21; (with_reducible refine (pollardref02_Num.calls k3 (IntKind.u64.wrap (wrap64 ((wrap64 (2 * x9_3)) - 1))) t128 _ A48.out).mono ?_); rintro e w54 ⟨rfl, hb⟩; have n0_ := Aside0.mk (below_step (by repeat (first | exact HB.out | apply below_alloc | apply pw_below_drewN | apply below_drew1)) hb); clear HB; have HB := n0_; clear n0_; (try clear hb); (try clear hb2); (try clear hk); (try clear hi)) | (go_at_call 21; (with_reducible refine (pollardref02_Num.calls k3 (IntKind.u64.wrap (x8_8)) t129 _ A50.out).mono ?_); rintro e w55 ⟨rfl, hb⟩; have n0_ := Aside0.mk (below_step (by repeat (first | exact HB.out | apply below_alloc | apply pw_below_drewN | apply below_drew1)) hb); clear HB; have HB := n0_; clear n0_; (try clear hb); (try clear hb2); (try clear hk); (try clear hi))))
              go_roundg k3
              case measure => have := HK1.out; have := HJ8.out; have := HK3.out; omega
              case rel => exact ⟨(x5_1 ++ ((t127 ++ t128) ++ t129)), ((⟨#[]⟩ : ByteArray)), (wrap64 (x7_1 + x9_3)), (by first | rfl | (simp; done) | (simp [*]; done)), (by first | rfl | (simp; done) | (simp [*]; done)), (by first | rfl | (simp; done) | (simp [*]; done)), H', ⟨by have := HK1.out; have := HJ8.out; have := HK3.out; omega⟩, ⟨by repeat (first | exact HB.out | apply below_alloc | apply pw_below_drewN | apply below_drew1)⟩⟩
             ·
              rw [if_neg c52] at H
              exact absurd H (by simp)
            ·
             rw [if_neg c51] at H
             exact absurd H (by simp)
           ·
            rw [if_neg c49] at H
            exact absurd H (by simp)
    ·
     rw [if_neg c8] at H
     have c8b0 : decide (x7_1 < (a1.size : Int)) = false := decide_eq_false c8
     clear c8
     replace H := Option.bind_eq_some_iff.mp H
     obtain ⟨t119, A560, H⟩ := H
     replace H : (if x5_1.size + t119.size ≤ 9223372036854775807 then (some (x5_1 ++ t119)) else (none)) = some r := H
     have A56 := Aside0.mk A560
     clear A560
     by_cases c57 : x5_1.size + t119.size ≤ 9223372036854775807
     ·
      rw [if_pos c57] at H
      have c57b0 := eq_true c57
      have c57b1 : decide (x5_1.size + t119.size ≤ 9223372036854775807) = true := decide_eq_true c57
      try have c57b2 : (9223372036854775807 < x5_1.size + t119.size) = False := eq_false (Nat.not_lt.2 c57)
      obtain rfl := Option.some.inj H
      go_wp2_with (first | (go_at_call 23; (with_reducible refine (pollardref09_put.calls k1 x6_1 t119 _ A56.out).mono ?_); rintro e w58 ⟨rfl, hb⟩; have n0_ := Aside0.mk (below_step (by repeat (first | exact HB.out | apply below_alloc | apply pw_below_drewN | apply below_drew1)) hb); clear HB; have HB := n0_; clear n0_; (try clear hb); (try clear hb2); (try clear hk); (try clear hi)))
      repeat (go_quiet (first | (go_at_call 23; (with_reducible refine (pollardref09_put.calls k1 x6_1 t119 _ A56.out).mono ?_); rintro e w58 ⟨rfl, hb⟩; have n0_ := Aside0.mk (below_step (by repeat (first | exact HB.out | apply below_alloc | apply pw_below_drewN | apply below_drew1)) hb); clear HB; have HB := n0_; clear n0_; (try clear hb); (try clear hb2); (try clear hk); (try clear hi))); try go_wp2_with (first | (go_at_call 23; (with_reducible refine (pollardref09_put.calls k1 x6_1 t119 _ A56.out).mono ?_); rintro e w58 ⟨rfl, hb⟩; have n0_ := Aside0.mk (below_step (by repeat (first | exact HB.out | apply below_alloc | apply pw_below_drewN | apply below_drew1)) hb); clear HB; have HB := n0_; clear n0_; (try clear hb); (try clear hb2); (try clear hk); (try clear hi))))
      go_ret
      exact ⟨by first | rfl | (simp [errW_none, errW_some] <;> rfl) | (simp [*, errW_none, errW_some] <;> rfl), by repeat (first | exact HB.out | apply below_alloc | apply pw_below_drewN | apply below_drew1)⟩
     ·
      rw [if_neg c57] at H
      exact absurd H (by simp)
 ·
  rw [if_neg c5] at H
  exact absurd H (by simp)

/-! ### pollardref07_kind: function 14 -/
def pollardref07_kind.f (a0 : Int) : Option (ByteArray) := (some (([(⟨#[]⟩ : ByteArray), (⟨#[98, 108, 111, 98]⟩ : ByteArray), (⟨#[116, 114, 101, 101]⟩ : ByteArray), (⟨#[99, 111, 109, 109, 105, 116]⟩ : ByteArray), (⟨#[116, 97, 103]⟩ : ByteArray)] : List ByteArray) : List ByteArray)).bind fun y130 => (if 0 ≤ a0 then (if a0 < (y130.length : Int) then (some (rdOf ByteArray.empty y130 a0)) else (none)) else (none))
set_option maxHeartbeats 8000000 in
set_option maxRecDepth 100000 in
theorem pollardref07_kind.calls (a0 : Int) (r : ByteArray) (w : World) (h : pollardref07_kind.f a0 = some r) :
  Calls Tryd.prog 14 #[.int .i64 a0] w fun e w' => e = .returned (.string r) ∧ Below w.heap.size w w' := by
 have HB := Aside0.mk (Below.refl w.heap.size w)
 have H : ((some (([(⟨#[]⟩ : ByteArray), (⟨#[98, 108, 111, 98]⟩ : ByteArray), (⟨#[116, 114, 101, 101]⟩ : ByteArray), (⟨#[99, 111, 109, 109, 105, 116]⟩ : ByteArray), (⟨#[116, 97, 103]⟩ : ByteArray)] : List ByteArray) : List ByteArray)).bind fun y130 => (if 0 ≤ a0 then (if a0 < (y130.length : Int) then (some (rdOf ByteArray.empty y130 a0)) else (none)) else (none))) = some r := h
 clear h
 obtain ⟨y130, hy130⟩ : ∃ y_ : List ByteArray, y_ = (([(⟨#[]⟩ : ByteArray), (⟨#[98, 108, 111, 98]⟩ : ByteArray), (⟨#[116, 114, 101, 101]⟩ : ByteArray), (⟨#[99, 111, 109, 109, 105, 116]⟩ : ByteArray), (⟨#[116, 97, 103]⟩ : ByteArray)] : List ByteArray)) := ⟨_, rfl⟩
 replace H : (if 0 ≤ a0 then (if a0 < (y130.length : Int) then (some (rdOf ByteArray.empty y130 a0)) else (none)) else (none)) = some r := by first | (rw [hy130]; with_reducible exact H) | (have H2_ := (Option.bind_some _ _).symm.trans H; rw [hy130]; with_reducible exact H2_) | (have H2_ := (Option.bind_some _ _).symm.trans H; with_reducible exact H2_) | with_reducible exact H | (rw [hy130]; exact H) | exact H
 have Ny130 := Aside0.mk hy130
 clear hy130
 by_cases c2 : 0 ≤ a0
 ·
  rw [if_pos c2] at H
  have c2b0 : decide (0 ≤ a0) = true := decide_eq_true c2
  clear c2
  by_cases c3 : a0 < (y130.length : Int)
  ·
   rw [if_pos c3] at H
   have c3b0 : decide (a0 < (y130.length : Int)) = true := decide_eq_true c3
   clear c3
   obtain rfl := Option.some.inj H
   go_enter Tryd.func14, Tryd.ntmps14
   go_wp2_with (first | ((with_reducible refine gate_dst (N := 3) rfl ?_); refine Kd.R_lit Kd.string _ 9 ?hg (N := 3) ?hd (xs := ([(⟨#[]⟩ : ByteArray), (⟨#[98, 108, 111, 98]⟩ : ByteArray), (⟨#[116, 114, 101, 101]⟩ : ByteArray), (⟨#[99, 111, 109, 109, 105, 116]⟩ : ByteArray), (⟨#[116, 97, 103]⟩ : ByteArray)] : List ByteArray)) (inner := [.string (⟨#[]⟩ : ByteArray), .string (⟨#[98, 108, 111, 98]⟩ : ByteArray), .string (⟨#[116, 114, 101, 101]⟩ : ByteArray), .string (⟨#[99, 111, 109, 109, 105, 116]⟩ : ByteArray), .string (⟨#[116, 97, 103]⟩ : ByteArray)]) (ok := fun _ => True) (okp := fun _ => True) ?hr ?hp (fun _ hk => hk) trivial (Below.refl _ _) (Nat.le_refl _) (by simp) ?_; (case hd => rfl); (case hg => rfl); (case hr => first | (go_simp; done) | (go_simp; rfl)); (case hp => exact (Reps.one (show Kd.M Kd.string _ _ _ (⟨#[]⟩ : ByteArray) [.string (⟨#[]⟩ : ByteArray)] from rfl) (Reps.one (show Kd.M Kd.string _ _ _ (⟨#[98, 108, 111, 98]⟩ : ByteArray) [.string (⟨#[98, 108, 111, 98]⟩ : ByteArray)] from rfl) (Reps.one (show Kd.M Kd.string _ _ _ (⟨#[116, 114, 101, 101]⟩ : ByteArray) [.string (⟨#[116, 114, 101, 101]⟩ : ByteArray)] from rfl) (Reps.one (show Kd.M Kd.string _ _ _ (⟨#[99, 111, 109, 109, 105, 116]⟩ : ByteArray) [.string (⟨#[99, 111, 109, 109, 105, 116]⟩ : ByteArray)] from rfl) (Reps.one (show Kd.M Kd.string _ _ _ (⟨#[116, 97, 103]⟩ : ByteArray) [.string (⟨#[116, 97, 103]⟩ : ByteArray)] from rfl) (Reps.none _ _))))))); intro v131 w4 ho5 hb hg_ hnew_; clear hg_ hnew_; (first | rw [← Ny130.out] at ho5 | (simp only [Int.reduceToNat] at ho5; rw [← Ny130.out] at ho5)); have n0_ := Aside0.mk (Kd.R_lower ho5 (below_size (by repeat (first | exact HB.out | apply below_alloc | apply pw_below_drewN | apply below_drew1)))); have n1_ := Aside0.mk (below_step (by repeat (first | exact HB.out | apply below_alloc | apply pw_below_drewN | apply below_drew1)) hb); clear HB; have HO132 := n0_; have HB := n1_; clear n0_ n1_; clear hb ho5; obtain ⟨Ao6, co6, eo6⟩ := Kd.R_slice HO132.out; subst eo6; have p133 : 0 ≤ (a0 : Int) := of_decide_eq_true (by first | (with_reducible assumption) | assumption); have q133 : a0 < (y130.length : Int) := of_decide_eq_true (by first | (with_reducible assumption) | assumption); obtain ⟨ad133, e133, hx133_0⟩ := Kd.at_string (Kd.R_reads' HO132.out).2.2 a0 p133 q133; cases e133; replace p133 := eq_true p133; replace q133 := eq_true q133))
   go_ret
   exact ⟨by first | rfl | (simp [errW_none, errW_some] <;> rfl) | (simp [*, errW_none, errW_some] <;> rfl), by repeat (first | exact HB.out | apply below_alloc | apply pw_below_drewN | apply below_drew1)⟩
  ·
   rw [if_neg c3] at H
   exact absurd H (by simp)
 ·
  rw [if_neg c2] at H
  exact absurd H (by simp)

/-! ### pollardref02_digit: function 25 -/
def pollardref02_digit.f (a0 : Int) : Option (ByteArray) := if a0 < 10 then (some (strOfNums (([(wrap64 (48 + a0)) % 256] : List Int)))) else (some (strOfNums (([(wrap64 (87 + a0)) % 256] : List Int))))
set_option maxHeartbeats 8000000 in
set_option maxRecDepth 100000 in
theorem pollardref02_digit.calls (a0 : Int) (r : ByteArray) (w : World) (h : pollardref02_digit.f a0 = some r) :
  Calls Tryd.prog 25 #[.int .i64 a0] w fun e w' => e = .returned (.string r) ∧ Below w.heap.size w w' := by
 have HB := Aside0.mk (Below.refl w.heap.size w)
 have H : (if a0 < 10 then (some (strOfNums (([(wrap64 (48 + a0)) % 256] : List Int)))) else (some (strOfNums (([(wrap64 (87 + a0)) % 256] : List Int))))) = some r := h
 clear h
 by_cases c2 : a0 < 10
 ·
  rw [if_pos c2] at H
  have c2b0 : decide (a0 < 10) = true := decide_eq_true c2
  clear c2
  obtain ⟨y134, hy134⟩ : ∃ y_ : List Int, y_ = (([(wrap64 (48 + a0)) % 256] : List Int)) := ⟨_, rfl⟩
  replace H : (some (strOfNums y134)) = some r := by first | (rw [hy134]; with_reducible exact H) | (have H2_ := (Option.bind_some _ _).symm.trans H; rw [hy134]; with_reducible exact H2_) | (have H2_ := (Option.bind_some _ _).symm.trans H; with_reducible exact H2_) | with_reducible exact H | (rw [hy134]; exact H) | exact H
  have Ny134 := Aside0.mk hy134
  clear hy134
  obtain rfl := Option.some.inj H
  go_enter Tryd.func25, Tryd.ntmps25
  go_wp2_with (first | ((with_reducible refine gate_dst (N := 8) rfl ?_); refine Kd.R_lit (Kd.int .u8) _ 5 ?hg (N := 8) ?hd (xs := ([(wrap64 (48 + a0)) % 256] : List Int)) (inner := [.int .u8 ((wrap64 (48 + a0)) % 256)]) (ok := fun _ => True) (okp := fun _ => True) ?hr ?hp (fun _ hk => hk) trivial (Below.refl _ _) (Nat.le_refl _) (by simp) ?_; (case hd => rfl); (case hg => rfl); (case hr => first | (go_simp; done) | (go_simp; rfl)); (case hp => exact (Reps.one (show Kd.M (Kd.int .u8) _ _ _ ((wrap64 (48 + a0)) % 256) [.int .u8 ((wrap64 (48 + a0)) % 256)] from rfl) (Reps.none _ _))); intro v135 w3 ho4 hb hg_ hnew_; clear hg_ hnew_; (first | rw [← Ny134.out] at ho4 | (simp only [Int.reduceToNat] at ho4; rw [← Ny134.out] at ho4)); have n0_ := Aside0.mk (Kd.R_lower ho4 (below_size (by repeat (first | exact HB.out | apply below_alloc | apply pw_below_drewN | apply below_drew1)))); have n1_ := Aside0.mk (below_step (by repeat (first | exact HB.out | apply below_alloc | apply pw_below_drewN | apply below_drew1)) hb); clear HB; have HO136 := n0_; have HB := n1_; clear n0_ n1_; clear hb ho4; have hcv5 := own_string (P := Tryd.prog) Tryd.underlying62 Tryd.underlying5 Tryd.underlying9 (Kd.own_of_R HO136.out)))
  go_ret
  exact ⟨by first | rfl | (simp [errW_none, errW_some] <;> rfl) | (simp [*, errW_none, errW_some] <;> rfl), by repeat (first | exact HB.out | apply below_alloc | apply pw_below_drewN | apply below_drew1)⟩
 ·
  rw [if_neg c2] at H
  have c2b0 : decide (a0 < 10) = false := decide_eq_false c2
  clear c2
  obtain ⟨y137, hy137⟩ : ∃ y_ : List Int, y_ = (([(wrap64 (87 + a0)) % 256] : List Int)) := ⟨_, rfl⟩
  replace H : (some (strOfNums y137)) = some r := by first | (rw [hy137]; with_reducible exact H) | (have H2_ := (Option.bind_some _ _).symm.trans H; rw [hy137]; with_reducible exact H2_) | (have H2_ := (Option.bind_some _ _).symm.trans H; with_reducible exact H2_) | with_reducible exact H | (rw [hy137]; exact H) | exact H
  have Ny137 := Aside0.mk hy137
  clear hy137
  obtain rfl := Option.some.inj H
  go_enter Tryd.func25, Tryd.ntmps25
  go_wp2_with (first | ((with_reducible refine gate_dst (N := 13) rfl ?_); refine Kd.R_lit (Kd.int .u8) _ 5 ?hg (N := 13) ?hd (xs := ([(wrap64 (87 + a0)) % 256] : List Int)) (inner := [.int .u8 ((wrap64 (87 + a0)) % 256)]) (ok := fun _ => True) (okp := fun _ => True) ?hr ?hp (fun _ hk => hk) trivial (Below.refl _ _) (Nat.le_refl _) (by simp) ?_; (case hd => rfl); (case hg => rfl); (case hr => first | (go_simp; done) | (go_simp; rfl)); (case hp => exact (Reps.one (show Kd.M (Kd.int .u8) _ _ _ ((wrap64 (87 + a0)) % 256) [.int .u8 ((wrap64 (87 + a0)) % 256)] from rfl) (Reps.none _ _))); intro v138 w6 ho7 hb hg_ hnew_; clear hg_ hnew_; (first | rw [← Ny137.out] at ho7 | (simp only [Int.reduceToNat] at ho7; rw [← Ny137.out] at ho7)); have n0_ := Aside0.mk (Kd.R_lower ho7 (below_size (by repeat (first | exact HB.out | apply below_alloc | apply pw_below_drewN | apply below_drew1)))); have n1_ := Aside0.mk (below_step (by repeat (first | exact HB.out | apply below_alloc | apply pw_below_drewN | apply below_drew1)) hb); clear HB; have HO139 := n0_; have HB := n1_; clear n0_ n1_; clear hb ho7; have hcv8 := own_string (P := Tryd.prog) Tryd.underlying62 Tryd.underlying5 Tryd.underlying9 (Kd.own_of_R HO139.out)))
  go_ret
  exact ⟨by first | rfl | (simp [errW_none, errW_some] <;> rfl) | (simp [*, errW_none, errW_some] <;> rfl), by repeat (first | exact HB.out | apply below_alloc | apply pw_below_drewN | apply below_drew1)⟩

/-! ### pollardref02_Dec: function 15 -/
def pollardref02_Dec.f : Nat → Int → Option (ByteArray)
 | 0, _ => none
 | k + 1, a0 => if a0 < 10 then ((pollardref02_digit.f (wrap64 (a0))).bind fun t140 => (some t140)) else ((pollardref02_Dec.f k (IntKind.u64.wrap (Int.tdiv a0 10))).bind fun t141 => ((pollardref02_digit.f (wrap64 (Int.tmod a0 10))).bind fun t142 => (if t141.size + t142.size ≤ 9223372036854775807 then (some (t141 ++ t142)) else (none))))
set_option maxHeartbeats 8000000 in
set_option maxRecDepth 100000 in
theorem pollardref02_Dec.calls (k : Nat) : ∀ (a0 : Int) (r : ByteArray) (w : World) (h : pollardref02_Dec.f k a0 = some r),
  Calls Tryd.prog 15 #[.int .u64 a0] w fun e w' => e = .returned (.string r) ∧ Below w.heap.size w w' := by
 induction k using Nat.strongRecOn with
 | _ k ih =>
 intro a0 r w h
 cases k with
 | zero => exact absurd h (by simp [pollardref02_Dec.f])
 | succ k =>
 simp only [pollardref02_Dec.f] at h
 have HB := Aside0.mk (Below.refl w.heap.size w)
 have H : (if a0 < 10 then ((pollardref02_digit.f (wrap64 (a0))).bind fun t140 => (some t140)) else ((pollardref02_Dec.f k (IntKind.u64.wrap (Int.tdiv a0 10))).bind fun t141 => ((pollardref02_digit.f (wrap64 (Int.tmod a0 10))).bind fun t142 => (if t141.size + t142.size ≤ 9223372036854775807 then (some (t141 ++ t142)) else (none))))) = some r := h
 clear h
 by_cases c2 : a0 < 10
 ·
  rw [if_pos c2] at H
  have c2b0 : decide (a0 < 10) = true := decide_eq_true c2
  clear c2
  replace H := Option.bind_eq_some_iff.mp H
  obtain ⟨t140, A30, H⟩ := H
  replace H : (some t140) = some r := H
  have A3 := Aside0.mk A30
  clear A30
  obtain rfl := Option.some.inj H
  go_enter Tryd.func15, Tryd.ntmps15
  go_wp2_with (first | ((with_reducible refine gate_callee (f := 25) rfl ?_); refine goesL_ (some 7) rfl rfl Tryd.func25 (by kernel_rfl) rfl #[.int .i64 (wrap64 (a0))] rfl (by (try simp only [List.map_toArray, List.map_cons, List.map_nil]); first | done | rfl | (simp only [List.length_drop, List.length_take]; rfl)) ?_; (with_reducible refine (pollardref02_digit.calls (wrap64 (a0)) t140 _ A3.out).mono ?_); rintro e w4 ⟨rfl, hb⟩; refine ⟨_, rfl, ?_⟩; have n0_ := Aside0.mk (below_step (by repeat (first | exact HB.out | apply below_alloc | apply pw_below_drewN | apply below_drew1)) hb); clear HB; have HB := n0_; clear n0_; (try clear hb); (try clear hb2); (try clear hk); (try clear hi)))
  go_ret
  exact ⟨by first | rfl | (simp [errW_none, errW_some] <;> rfl) | (simp [*, errW_none, errW_some] <;> rfl), by repeat (first | exact HB.out | apply below_alloc | apply pw_below_drewN | apply below_drew1)⟩
 ·
  rw [if_neg c2] at H
  have c2b0 : decide (a0 < 10) = false := decide_eq_false c2
  clear c2
  replace H := Option.bind_eq_some_iff.mp H
  obtain ⟨t141, A50, H⟩ := H
  replace H : ((pollardref02_digit.f (wrap64 (Int.tmod a0 10))).bind fun t142 => (if t141.size + t142.size ≤ 9223372036854775807 then (some (t141 ++ t142)) else (none))) = some r := H
  have A5 := Aside0.mk A50
  clear A50
  replace H := Option.bind_eq_some_iff.mp H
  obtain ⟨t142, A60, H⟩ := H
  replace H : (if t141.size + t142.size ≤ 9223372036854775807 then (some (t141 ++ t142)) else (none)) = some r := H
  have A6 := Aside0.mk A60
  clear A60
  by_cases c7 : t141.size + t142.size ≤ 9223372036854775807
  ·
   rw [if_pos c7] at H
   have c7b0 := eq_true c7
   have c7b1 : decide (t141.size + t142.size ≤ 9223372036854775807) = true := decide_eq_true c7
   try have c7b2 : (9223372036854775807 < t141.size + t142.size) = False := eq_false (Nat.not_lt.2 c7)
   obtain rfl := Option.some.inj H
   go_enter Tryd.func15, Tryd.ntmps15
   go_wp2_with (first | ((with_reducible refine gate_callee (f := 15) rfl ?_); refine goesL_ (some 10) rfl rfl Tryd.func15 (by kernel_rfl) rfl #[.int .u64 (IntKind.u64.wrap (Int.tdiv a0 10))] rfl (by (try simp only [List.map_toArray, List.map_cons, List.map_nil]); first | done | rfl | (simp only [List.length_drop, List.length_take]; rfl)) ?_; (with_reducible refine (ih k (by omega) (IntKind.u64.wrap (Int.tdiv a0 10)) t141 _ A5.out).mono ?_); rintro e w8 ⟨rfl, hb⟩; refine ⟨_, rfl, ?_⟩; have n0_ := Aside0.mk (below_step (by repeat (first | exact HB.out | apply below_alloc | apply pw_below_drewN | apply below_drew1)) hb); clear HB; have HB := n0_; clear n0_; (try clear hb); (try clear hb2); (try clear hk); (try clear hi)) | ((with_reducible refine gate_callee (f := 25) rfl ?_); refine goesL_ (some 14) rfl rfl Tryd.func25 (by kernel_rfl) rfl #[.int .i64 (wrap64 (Int.tmod a0 10))] rfl (by (try simp only [List.map_toArray, List.map_cons, List.map_nil]); first | done | rfl | (simp only [List.length_drop, List.length_take]; rfl)) ?_; (with_reducible refine (pollardref02_digit.calls (wrap64 (Int.tmod a0 10)) t142 _ A6.out).mono ?_); rintro e w9 ⟨rfl, hb⟩; refine ⟨_, rfl, ?_⟩; have n0_ := Aside0.mk (below_step (by repeat (first | exact HB.out | apply below_alloc | apply pw_below_drewN | apply below_drew1)) hb); clear HB; have HB := n0_; clear n0_; (try clear hb); (try clear hb2); (try clear hk); (try clear hi)))
   go_ret
   exact ⟨by first | rfl | (simp [errW_none, errW_some] <;> rfl) | (simp [*, errW_none, errW_some] <;> rfl), by repeat (first | exact HB.out | apply below_alloc | apply pw_below_drewN | apply below_drew1)⟩
  ·
   rw [if_neg c7] at H
   exact absurd H (by simp)

/-! ### pollardref07_Raw: function 8 -/
def pollardref07_Raw.f (k : Nat) (a0 : Int) (a1 : ByteArray) : Option (ByteArray) := (pollardref07_kind.f a0).bind fun t143 => (if t143.size + 1 ≤ 9223372036854775807 then ((pollardref02_Dec.f k (IntKind.u64.wrap ((a1.size : Int)))).bind fun t144 => (if (t143 ++ (⟨#[32]⟩ : ByteArray)).size + t144.size ≤ 9223372036854775807 then (if ((t143 ++ (⟨#[32]⟩ : ByteArray)) ++ t144).size + 1 ≤ 9223372036854775807 then (if (((t143 ++ (⟨#[32]⟩ : ByteArray)) ++ t144) ++ (⟨#[0]⟩ : ByteArray)).size + a1.size ≤ 9223372036854775807 then (some ((((t143 ++ (⟨#[32]⟩ : ByteArray)) ++ t144) ++ (⟨#[0]⟩ : ByteArray)) ++ a1)) else (none)) else (none)) else (none))) else (none))
set_option maxHeartbeats 8000000 in
set_option maxRecDepth 100000 in
theorem pollardref07_Raw.calls (k : Nat) (a0 : Int) (a1 : ByteArray) (r : ByteArray) (w : World) (h : pollardref07_Raw.f k a0 a1 = some r) :
  Calls Tryd.prog 8 #[.int .i64 a0, .string a1] w fun e w' => e = .returned (.string r) ∧ Below w.heap.size w w' := by
 have HB := Aside0.mk (Below.refl w.heap.size w)
 have H : ((pollardref07_kind.f a0).bind fun t143 => (if t143.size + 1 ≤ 9223372036854775807 then ((pollardref02_Dec.f k (IntKind.u64.wrap ((a1.size : Int)))).bind fun t144 => (if (t143 ++ (⟨#[32]⟩ : ByteArray)).size + t144.size ≤ 9223372036854775807 then (if ((t143 ++ (⟨#[32]⟩ : ByteArray)) ++ t144).size + 1 ≤ 9223372036854775807 then (if (((t143 ++ (⟨#[32]⟩ : ByteArray)) ++ t144) ++ (⟨#[0]⟩ : ByteArray)).size + a1.size ≤ 9223372036854775807 then (some ((((t143 ++ (⟨#[32]⟩ : ByteArray)) ++ t144) ++ (⟨#[0]⟩ : ByteArray)) ++ a1)) else (none)) else (none)) else (none))) else (none))) = some r := h
 clear h
 replace H := Option.bind_eq_some_iff.mp H
 obtain ⟨t143, A30, H⟩ := H
 replace H : (if t143.size + 1 ≤ 9223372036854775807 then ((pollardref02_Dec.f k (IntKind.u64.wrap ((a1.size : Int)))).bind fun t144 => (if (t143 ++ (⟨#[32]⟩ : ByteArray)).size + t144.size ≤ 9223372036854775807 then (if ((t143 ++ (⟨#[32]⟩ : ByteArray)) ++ t144).size + 1 ≤ 9223372036854775807 then (if (((t143 ++ (⟨#[32]⟩ : ByteArray)) ++ t144) ++ (⟨#[0]⟩ : ByteArray)).size + a1.size ≤ 9223372036854775807 then (some ((((t143 ++ (⟨#[32]⟩ : ByteArray)) ++ t144) ++ (⟨#[0]⟩ : ByteArray)) ++ a1)) else (none)) else (none)) else (none))) else (none)) = some r := H
 have A3 := Aside0.mk A30
 clear A30
 by_cases c4 : t143.size + 1 ≤ 9223372036854775807
 ·
  rw [if_pos c4] at H
  have c4b0 := eq_true c4
  have c4b1 : decide (t143.size + 1 ≤ 9223372036854775807) = true := decide_eq_true c4
  try have c4b2 : (9223372036854775807 < t143.size + 1) = False := eq_false (Nat.not_lt.2 c4)
  replace H := Option.bind_eq_some_iff.mp H
  obtain ⟨t144, A50, H⟩ := H
  replace H : (if (t143 ++ (⟨#[32]⟩ : ByteArray)).size + t144.size ≤ 9223372036854775807 then (if ((t143 ++ (⟨#[32]⟩ : ByteArray)) ++ t144).size + 1 ≤ 9223372036854775807 then (if (((t143 ++ (⟨#[32]⟩ : ByteArray)) ++ t144) ++ (⟨#[0]⟩ : ByteArray)).size + a1.size ≤ 9223372036854775807 then (some ((((t143 ++ (⟨#[32]⟩ : ByteArray)) ++ t144) ++ (⟨#[0]⟩ : ByteArray)) ++ a1)) else (none)) else (none)) else (none)) = some r := H
  have A5 := Aside0.mk A50
  clear A50
  by_cases c6 : (t143 ++ (⟨#[32]⟩ : ByteArray)).size + t144.size ≤ 9223372036854775807
  ·
   rw [if_pos c6] at H
   have c6b0 := eq_true c6
   have c6b1 : decide ((t143 ++ (⟨#[32]⟩ : ByteArray)).size + t144.size ≤ 9223372036854775807) = true := decide_eq_true c6
   try have c6b2 : (9223372036854775807 < (t143 ++ (⟨#[32]⟩ : ByteArray)).size + t144.size) = False := eq_false (Nat.not_lt.2 c6)
   (try (have c6b5 : t143.size + 1 + t144.size ≤ 9223372036854775807 := by (have h_ := c6; simp only [ByteArray.size_append] at h_; exact h_))); (try (have c6b6 : (9223372036854775807 < t143.size + 1 + t144.size) = False := eq_false (Nat.not_lt.2 c6b5)))
   by_cases c7 : ((t143 ++ (⟨#[32]⟩ : ByteArray)) ++ t144).size + 1 ≤ 9223372036854775807
   ·
    rw [if_pos c7] at H
    have c7b0 := eq_true c7
    have c7b1 : decide (((t143 ++ (⟨#[32]⟩ : ByteArray)) ++ t144).size + 1 ≤ 9223372036854775807) = true := decide_eq_true c7
    try have c7b2 : (9223372036854775807 < ((t143 ++ (⟨#[32]⟩ : ByteArray)) ++ t144).size + 1) = False := eq_false (Nat.not_lt.2 c7)
    (try (have c7b5 : t143.size + 1 + t144.size + 1 ≤ 9223372036854775807 := by (have h_ := c7; simp only [ByteArray.size_append] at h_; exact h_))); (try (have c7b6 : (9223372036854775807 < t143.size + 1 + t144.size + 1) = False := eq_false (Nat.not_lt.2 c7b5)))
    by_cases c8 : (((t143 ++ (⟨#[32]⟩ : ByteArray)) ++ t144) ++ (⟨#[0]⟩ : ByteArray)).size + a1.size ≤ 9223372036854775807
    ·
     rw [if_pos c8] at H
     have c8b0 := eq_true c8
     have c8b1 : decide ((((t143 ++ (⟨#[32]⟩ : ByteArray)) ++ t144) ++ (⟨#[0]⟩ : ByteArray)).size + a1.size ≤ 9223372036854775807) = true := decide_eq_true c8
     try have c8b2 : (9223372036854775807 < (((t143 ++ (⟨#[32]⟩ : ByteArray)) ++ t144) ++ (⟨#[0]⟩ : ByteArray)).size + a1.size) = False := eq_false (Nat.not_lt.2 c8)
     (try (have c8b5 : t143.size + 1 + t144.size + 1 + a1.size ≤ 9223372036854775807 := by (have h_ := c8; simp only [ByteArray.size_append] at h_; exact h_))); (try (have c8b6 : (9223372036854775807 < t143.size + 1 + t144.size + 1 + a1.size) = False := eq_false (Nat.not_lt.2 c8b5)))
     obtain rfl := Option.some.inj H
     go_enter Tryd.func8, Tryd.ntmps8
     go_wp2_with (first | ((with_reducible refine gate_callee (f := 14) rfl ?_); refine goesL_ (some 6) rfl rfl Tryd.func14 (by kernel_rfl) rfl #[.int .i64 a0] rfl (by (try simp only [List.map_toArray, List.map_cons, List.map_nil]); first | done | rfl | (simp only [List.length_drop, List.length_take]; rfl)) ?_; (with_reducible refine (pollardref07_kind.calls a0 t143 _ A3.out).mono ?_); rintro e w9 ⟨rfl, hb⟩; refine ⟨_, rfl, ?_⟩; have n0_ := Aside0.mk (below_step (by repeat (first | exact HB.out | apply below_alloc | apply pw_below_drewN | apply below_drew1)) hb); clear HB; have HB := n0_; clear n0_; (try clear hb); (try clear hb2); (try clear hk); (try clear hi)) | ((with_reducible refine gate_callee (f := 15) rfl ?_); refine goesL_ (some 11) rfl rfl Tryd.func15 (by kernel_rfl) rfl #[.int .u64 (a1.size : Int)] rfl (by (try simp only [List.map_toArray, List.map_cons, List.map_nil]); first | done | rfl | (simp only [List.length_drop, List.length_take]; rfl)) ?_; (with_reducible refine (pollardref02_Dec.calls k (a1.size : Int) t144 _ (by have h_ := A5.out; rwa [wrapU (x := (a1.size : Int)) (by omega) (by omega)] at h_)).mono ?_); rintro e w10 ⟨rfl, hb⟩; refine ⟨_, rfl, ?_⟩; have n0_ := Aside0.mk (below_step (by repeat (first | exact HB.out | apply below_alloc | apply pw_below_drewN | apply below_drew1)) hb); clear HB; have HB := n0_; clear n0_; (try clear hb); (try clear hb2); (try clear hk); (try clear hi)))
     go_ret
     exact ⟨by first | rfl | (simp [errW_none, errW_some] <;> rfl) | (simp [*, errW_none, errW_some] <;> rfl), by repeat (first | exact HB.out | apply below_alloc | apply pw_below_drewN | apply below_drew1)⟩
    ·
     rw [if_neg c8] at H
     exact absurd H (by simp)
   ·
    rw [if_neg c7] at H
    exact absurd H (by simp)
  ·
   rw [if_neg c6] at H
   exact absurd H (by simp)
 ·
  rw [if_neg c4] at H
  exact absurd H (by simp)

end Go.Proofs.YthnojgpobfpgeaaDoor.PCa
