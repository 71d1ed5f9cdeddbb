/- ### delta_Make: function 10 -/
import Derived.Test.YthnojgpobfpgeaaDoorProg
import Derived.Below
import Derived.Deep.Draws
import Derived.Deep.AppendLies
import Derived.Maps.AppendAt
import Derived.OwnWalk
import Derived.Laws.BytesArg
import Derived.Laws.MakeOwn
import Derived.Laws.OwnMore
import Derived.Deep.OwnRows
import Derived.Tactics
import Derived.Lib.ConvBytes
import Derived.Laws.Slices
import Derived.WalkKit
import Derived.KernelRfl
import Derived.RowKit3
import Derived.Deep.LoopGhost
import Derived.Deep.QuietTactic
import Derived.BigQuiet
import Derived.WideLaws
import Derived.Deep.DeepCutAuto
import Derived.Deep.CutBlock
import Derived.Deep.RegionHeld3
import Derived.Laws.Rows
import Derived.Lib.AppendStr
import Derived.ArgAppend
import Derived.Laws.IdiomCopy
import Derived.OrdersHeld
import Derived.Laws.BitsLemmas
import Derived.RowKit
import Derived.Test.YthnojgpobfpgeaaDoorW
import Derived.Test.YthnojgpobfpgeaaDoorPCa3
import Derived.Test.YthnojgpobfpgeaaDoorTBlk
import Derived.Maps.OwnOps
namespace Go.Proofs.YthnojgpobfpgeaaDoor.PCm
open Go.RowKit Go.Proofs.YthnojgpobfpgeaaDoorW.PrintWords Go.Proofs.YthnojgpobfpgeaaDoorW.PrintLast Go.Proofs Go.Proofs.YthnojgpobfpgeaaDoor.PCa
set_option linter.unusedVariables false
set_option linter.unusedSimpArgs false





/-! ### delta_Make: function 10 -/
mutual
def delta_Make.l0 : Nat → ByteArray → ByteArray → ByteArray → ByteArray → Int → Int → Option (ByteArray)
 | 0, _, _, _, _, _, _ => none
 | k + 1, x0, x1, x5, x6, x7, x8 => if (wrap64 (x8 + 16)) ≤ (x1.size : Int) then (if 0 ≤ x8 then (if x8 ≤ (wrap64 (x8 + 16)) then ((delta_look.f x5 (x1.extract (x8 : Int).toNat ((wrap64 (x8 + 16)) : Int).toNat)).bind fun bt105 => (if bt105.2 = true then (delta_Make.l1 k x0 x1 x5 x6 x7 x8 bt105.1 16) else (delta_Make.l0 k x0 x1 x5 x6 x7 (wrap64 (x8 + 1))))) else (none)) else (none)) else (if 0 ≤ x7 then (if x7 ≤ (x1.size : Int) then ((delta_insert.f k (x1.extract (x7 : Int).toNat x1.size)).bind fun t104 => (if x6.size + t104.size ≤ 9223372036854775807 then (some (x6 ++ t104)) else (none))) else (none)) else (none))
def delta_Make.l1 : Nat → ByteArray → ByteArray → ByteArray → ByteArray → Int → Int → Int → Int → Option (ByteArray)
 | 0, _, _, _, _, _, _, _, _ => none
 | k + 1, x0, x1, x5, x6, x7, x8, x9, x11 => if (wrap64 (x8 + x11)) < (x1.size : Int) then (if (wrap64 (x9 + x11)) < (x0.size : Int) then (if 0 ≤ (wrap64 (x8 + x11)) then (if 0 ≤ (wrap64 (x9 + x11)) then (if (bt x1 (wrap64 (x8 + x11))) = (bt x0 (wrap64 (x9 + x11))) then (delta_Make.l1 k x0 x1 x5 x6 x7 x8 x9 (wrap64 (x11 + 1))) else (if 0 ≤ x7 then (if x7 ≤ x8 then (if x8 ≤ (x1.size : Int) then ((delta_insert.f k (x1.extract (x7 : Int).toNat (x8 : Int).toNat)).bind fun t107 => ((code_Num.f k (IntKind.u64.wrap (wrap64 ((wrap64 (2 * (wrap64 (x11 - 1)))) + 1)))).bind fun t108 => (if t107.size + t108.size ≤ 9223372036854775807 then ((code_Num.f k (IntKind.u64.wrap (x9))).bind fun t109 => (if (t107 ++ t108).size + t109.size ≤ 9223372036854775807 then (if x6.size + ((t107 ++ t108) ++ t109).size ≤ 9223372036854775807 then (delta_Make.l0 k x0 x1 x5 (x6 ++ ((t107 ++ t108) ++ t109)) (wrap64 (x8 + x11)) (wrap64 (x8 + x11))) else (none)) else (none))) else (none)))) else (none)) else (none)) else (none))) else (none)) else (none)) else (if 0 ≤ x7 then (if x7 ≤ x8 then (if x8 ≤ (x1.size : Int) then ((delta_insert.f k (x1.extract (x7 : Int).toNat (x8 : Int).toNat)).bind fun t110 => ((code_Num.f k (IntKind.u64.wrap (wrap64 ((wrap64 (2 * (wrap64 (x11 - 1)))) + 1)))).bind fun t111 => (if t110.size + t111.size ≤ 9223372036854775807 then ((code_Num.f k (IntKind.u64.wrap (x9))).bind fun t112 => (if (t110 ++ t111).size + t112.size ≤ 9223372036854775807 then (if x6.size + ((t110 ++ t111) ++ t112).size ≤ 9223372036854775807 then (delta_Make.l0 k x0 x1 x5 (x6 ++ ((t110 ++ t111) ++ t112)) (wrap64 (x8 + x11)) (wrap64 (x8 + x11))) else (none)) else (none))) else (none)))) else (none)) else (none)) else (none))) else (if 0 ≤ x7 then (if x7 ≤ x8 then (if x8 ≤ (x1.size : Int) then ((delta_insert.f k (x1.extract (x7 : Int).toNat (x8 : Int).toNat)).bind fun t113 => ((code_Num.f k (IntKind.u64.wrap (wrap64 ((wrap64 (2 * (wrap64 (x11 - 1)))) + 1)))).bind fun t114 => (if t113.size + t114.size ≤ 9223372036854775807 then ((code_Num.f k (IntKind.u64.wrap (x9))).bind fun t115 => (if (t113 ++ t114).size + t115.size ≤ 9223372036854775807 then (if x6.size + ((t113 ++ t114) ++ t115).size ≤ 9223372036854775807 then (delta_Make.l0 k x0 x1 x5 (x6 ++ ((t113 ++ t114) ++ t115)) (wrap64 (x8 + x11)) (wrap64 (x8 + x11))) else (none)) else (none))) else (none)))) else (none)) else (none)) else (none))
end
def delta_Make.f (k : Nat) (a0 : ByteArray) (a1 : ByteArray) : Option (ByteArray) := (delta_known.f a0).bind fun t101 => ((code_Num.f k (IntKind.u64.wrap ((a0.size : Int)))).bind fun t102 => ((code_Num.f k (IntKind.u64.wrap ((a1.size : Int)))).bind fun t103 => (if t102.size + t103.size ≤ 9223372036854775807 then (delta_Make.l0 k a0 a1 t101 (t102 ++ t103) 0 0) else (none))))
set_option maxHeartbeats 8000000 in
set_option maxRecDepth 100000 in
theorem delta_Make.calls (k : Nat) (a0 : ByteArray) (a1 : ByteArray) (r : ByteArray) (w : World) (hs : a0.size ≤ 1073741824) (hs2 : a1.size ≤ 1073741824) (h : delta_Make.f k a0 a1 = some r) :
  Calls Tryd.prog 10 #[.string a0, .string a1] w fun e w' => e = .returned (.string r) ∧ Below w.heap.size w w' := by
 have HS := Aside0.mk hs
 have HS2 := Aside0.mk hs2
 clear hs hs2
 have HB := Aside0.mk (Below.refl w.heap.size w)
 have H : ((delta_known.f a0).bind fun t101 => ((code_Num.f k (IntKind.u64.wrap ((a0.size : Int)))).bind fun t102 => ((code_Num.f k (IntKind.u64.wrap ((a1.size : Int)))).bind fun t103 => (if t102.size + t103.size ≤ 9223372036854775807 then (delta_Make.l0 k a0 a1 t101 (t102 ++ t103) 0 0) else (none))))) = some r := h
 clear h
 replace H := Option.bind_eq_some_iff.mp H
 obtain ⟨t101, A30, H⟩ := H
 replace H : ((code_Num.f k (IntKind.u64.wrap ((a0.size : Int)))).bind fun t102 => ((code_Num.f k (IntKind.u64.wrap ((a1.size : Int)))).bind fun t103 => (if t102.size + t103.size ≤ 9223372036854775807 then (delta_Make.l0 k a0 a1 t101 (t102 ++ t103) 0 0) else (none)))) = some r := H
 have A3 := Aside0.mk A30
 clear A30
 replace H := Option.bind_eq_some_iff.mp H
 obtain ⟨t102, A40, H⟩ := H
 replace H : ((code_Num.f k (IntKind.u64.wrap ((a1.size : Int)))).bind fun t103 => (if t102.size + t103.size ≤ 9223372036854775807 then (delta_Make.l0 k a0 a1 t101 (t102 ++ t103) 0 0) else (none))) = some r := H
 have A4 := Aside0.mk A40
 clear A40
 replace H := Option.bind_eq_some_iff.mp H
 obtain ⟨t103, A50, H⟩ := H
 replace H : (if t102.size + t103.size ≤ 9223372036854775807 then (delta_Make.l0 k a0 a1 t101 (t102 ++ t103) 0 0) else (none)) = some r := H
 have A5 := Aside0.mk A50
 clear A50
 by_cases c6 : t102.size + t103.size ≤ 9223372036854775807
 ·
  rw [if_pos c6] at H
  have c6b0 := eq_true c6
  have c6b1 : decide (t102.size + t103.size ≤ 9223372036854775807) = true := decide_eq_true c6
  try have c6b2 : (9223372036854775807 < t102.size + t103.size) = False := eq_false (Nat.not_lt.2 c6)
  have H' := Aside0.mk H
  clear H
  go_enter Tryd.func10, Tryd.ntmps10
  go_wp2_with (first | (go_at_call 17; refine ((callsIn_wide (n := 6)).1 (blocks_in Fence.wide 6 trivial trivial trivial rfl (by omega) a0 HS.out _)).mono ?_; rintro e w7 ⟨rfl, hown, hbl⟩; have HM := Aside0.mk hown; have HL := Aside0.mk hbl; clear hown hbl HB; have HB := Aside0.mk (Below.refl w7.heap.size w7)) | (go_at_call 18; (with_reducible refine (code_Num.calls k (IntKind.u64.wrap ((a0.size : Int))) t102 _ A4.out).mono ?_); rintro e w8 ⟨rfl, hb⟩; have n0_ := Aside0.mk (below_step (by repeat (first | exact HB.out | apply below_alloc | apply pw_below_drewN | apply below_drew1)) hb); clear HB; have HB := n0_; clear n0_; (try clear hb); (try clear hb2); (try clear hk); (try clear hi)) | (go_at_call 18; (with_reducible refine (code_Num.calls k (IntKind.u64.wrap ((a1.size : Int))) t103 _ A5.out).mono ?_); rintro e w9 ⟨rfl, hb⟩; have n0_ := Aside0.mk (below_step (by repeat (first | exact HB.out | apply below_alloc | apply pw_below_drewN | apply below_drew1)) hb); clear HB; have HB := n0_; clear n0_; (try clear hb); (try clear hb2); (try clear hk); (try clear hi)))
  go_loopg [6, 7, 8] k (fun kq v6 v7 v8 w' => ∃ (x6_1 : ByteArray) (x7_1 : Int) (x8_1 : Int), v6 = .string x6_1 ∧ v7 = .int .i64 x7_1 ∧ v8 = .int .i64 x8_1 ∧ Aside0 (delta_Make.l0 kq a0 a1 t101 x6_1 x7_1 x8_1 = some r) ∧ Aside0 (kq ≤ k) ∧ Aside0 (Below w7.heap.size w7 w'))
  case atStart => exact ⟨(t102 ++ t103), (0), (0), (by first | rfl | (simp; done) | (simp [*]; done)), (by first | rfl | (simp; done) | (simp [*]; done)), (by first | rfl | (simp; done) | (simp [*]; done)), H', ⟨Nat.le_refl _⟩, ⟨by repeat (first | exact HB.out | apply below_alloc | apply pw_below_drewN | apply below_drew1)⟩⟩
  case round =>
   clear H'
   obtain ⟨x6_1, x7_1, x8_1, rfl, rfl, rfl, HA, HK1, HB⟩ := hrel
   cases gk with
   | zero => exact absurd HA.out (by simp [delta_Make.l0])
   | succ k1 =>
    have H := HA.out
    clear HA
    simp only [delta_Make.l0] at H
    by_cases c10 : (wrap64 (x8_1 + 16)) ≤ (a1.size : Int)
    ·
     rw [if_pos c10] at H
     have c10b0 : decide ((wrap64 (x8_1 + 16)) ≤ (a1.size : Int)) = true := decide_eq_true c10
     clear c10
     by_cases c11 : 0 ≤ x8_1
     ·
      rw [if_pos c11] at H
      have c11b0 := eq_true c11
      have c11b1 : decide (0 ≤ x8_1) = true := decide_eq_true c11
      clear c11
      by_cases c12 : x8_1 ≤ (wrap64 (x8_1 + 16))
      ·
       rw [if_pos c12] at H
       have c12b0 := eq_true c12
       have c12b1 : decide (x8_1 ≤ (wrap64 (x8_1 + 16))) = true := decide_eq_true c12
       have c13b0 := eq_true (of_decide_eq_true (by first | (with_reducible assumption) | assumption) : (wrap64 (x8_1 + 16)) ≤ (a1.size : Int))
       replace H := Option.bind_eq_some_iff.mp H
       obtain ⟨⟨t105, t106⟩, A140, H⟩ := H
       replace H : (if t106 = true then (delta_Make.l1 k1 a0 a1 t101 x6_1 x7_1 x8_1 t105 16) else (delta_Make.l0 k1 a0 a1 t101 x6_1 x7_1 (wrap64 (x8_1 + 1)))) = some r := H
       have A14 := Aside0.mk A140
       clear A140
       by_cases c15 : t106 = true
       ·
        subst c15
        have H1 : (delta_Make.l1 k1 a0 a1 t101 x6_1 x7_1 x8_1 t105 16) = some r := by rw [if_pos rfl] at H; exact H
        clear H
        have H := H1
        clear H1
        have H' := Aside0.mk H
        clear H
        go_wp2_with (first | (at_lookup; refine wpList_lookup_own_ok_int _ rfl _ _ 44 rfl 9 3 .i64 (Maps.string_keyed Tryd.underlying9) Tryd.underlying44 Tryd.underlying3 (Tryd.zeroValue3 _) w.heap.size (a0.size / 16) _ rfl (own_below HM.out (by repeat (first | exact HB.out | apply below_alloc | apply pw_below_drewN | apply below_drew1))) _ _ rfl (WideMaps.keyOf_string_mk Tryd.underlying9 (ext_le HS2.out)) ?_; intro c hat hwc; rw [(look_eq A3.out A14.out).1, (look_eq A3.out A14.out).2 c hat]; clear hat hwc))
        go_loopg [11] k1 (fun kq v11 w' => ∃ (x11_2 : Int), v11 = .int .i64 x11_2 ∧ Aside0 (delta_Make.l1 kq a0 a1 t101 x6_1 x7_1 x8_1 t105 x11_2 = some r) ∧ Aside0 (kq ≤ k1) ∧ Aside0 (Below w7.heap.size w7 w'))
        case atStart => exact ⟨(16), (by first | rfl | (simp; done) | (simp [*]; done)), H', ⟨Nat.le_refl _⟩, ⟨by repeat (first | exact HB.out | apply below_alloc | apply pw_below_drewN | apply below_drew1)⟩⟩
        case round =>
         clear H'
         obtain ⟨x11_2, rfl, HA, HK2, HB⟩ := hrel
         cases gk with
         | zero => exact absurd HA.out (by simp [delta_Make.l1])
         | succ k2 =>
          have H := HA.out
          clear HA
          simp only [delta_Make.l1] at H
          by_cases c16 : (wrap64 (x8_1 + x11_2)) < (a1.size : Int)
          ·
           rw [if_pos c16] at H
           have c16b0 : decide ((wrap64 (x8_1 + x11_2)) < (a1.size : Int)) = true := decide_eq_true c16
           clear c16
           by_cases c17 : (wrap64 (t105 + x11_2)) < (a0.size : Int)
           ·
            rw [if_pos c17] at H
            have c17b0 : decide ((wrap64 (t105 + x11_2)) < (a0.size : Int)) = true := decide_eq_true c17
            clear c17
            obtain ⟨ji18, hji18⟩ : ∃ j_ : Int, (wrap64 (x8_1 + x11_2)) = j_ := ⟨_, rfl⟩
            replace H : (if 0 ≤ (ji18) then (if 0 ≤ (wrap64 (t105 + x11_2)) then (if (bt a1 (ji18)) = (bt a0 (wrap64 (t105 + x11_2))) then (delta_Make.l1 k2 a0 a1 t101 x6_1 x7_1 x8_1 t105 (wrap64 (x11_2 + 1))) else (if 0 ≤ x7_1 then (if x7_1 ≤ x8_1 then (if x8_1 ≤ (a1.size : Int) then ((delta_insert.f k2 (a1.extract (x7_1 : Int).toNat (x8_1 : Int).toNat)).bind fun t107 => ((code_Num.f k2 (IntKind.u64.wrap (wrap64 ((wrap64 (2 * (wrap64 (x11_2 - 1)))) + 1)))).bind fun t108 => (if t107.size + t108.size ≤ 9223372036854775807 then ((code_Num.f k2 (IntKind.u64.wrap (t105))).bind fun t109 => (if (t107 ++ t108).size + t109.size ≤ 9223372036854775807 then (if x6_1.size + ((t107 ++ t108) ++ t109).size ≤ 9223372036854775807 then (delta_Make.l0 k2 a0 a1 t101 (x6_1 ++ ((t107 ++ t108) ++ t109)) ji18 ji18) else (none)) else (none))) else (none)))) else (none)) else (none)) else (none))) else (none)) else (none)) = some r := by first | (rw [hji18] at H; exact H) | (simp only [hji18] at H ⊢; exact H)
            (try rw [hji18] at c16b0)
            have hji18w : (IntKind.i64.wrap (x8_1 + x11_2)) = ji18 := (i64_w _).trans hji18
            by_cases c19 : 0 ≤ (ji18)
            ·
             rw [if_pos c19] at H
             have c19b0 : decide (0 ≤ (ji18)) = true := decide_eq_true c19
             clear c19
             obtain ⟨ji21, hji21⟩ : ∃ j_ : Int, (wrap64 (t105 + x11_2)) = j_ := ⟨_, rfl⟩
             replace H : (if 0 ≤ (ji21) then (if (bt a1 (ji18)) = (bt a0 (ji21)) then (delta_Make.l1 k2 a0 a1 t101 x6_1 x7_1 x8_1 t105 (wrap64 (x11_2 + 1))) else (if 0 ≤ x7_1 then (if x7_1 ≤ x8_1 then (if x8_1 ≤ (a1.size : Int) then ((delta_insert.f k2 (a1.extract (x7_1 : Int).toNat (x8_1 : Int).toNat)).bind fun t107 => ((code_Num.f k2 (IntKind.u64.wrap (wrap64 ((wrap64 (2 * (wrap64 (x11_2 - 1)))) + 1)))).bind fun t108 => (if t107.size + t108.size ≤ 9223372036854775807 then ((code_Num.f k2 (IntKind.u64.wrap (t105))).bind fun t109 => (if (t107 ++ t108).size + t109.size ≤ 9223372036854775807 then (if x6_1.size + ((t107 ++ t108) ++ t109).size ≤ 9223372036854775807 then (delta_Make.l0 k2 a0 a1 t101 (x6_1 ++ ((t107 ++ t108) ++ t109)) ji18 ji18) else (none)) else (none))) else (none)))) else (none)) else (none)) else (none))) else (none)) = some r := by first | (rw [hji21] at H; exact H) | (simp only [hji21] at H ⊢; exact H)
             (try rw [hji21] at c17b0)
             have hji21w : (IntKind.i64.wrap (t105 + x11_2)) = ji21 := (i64_w _).trans hji21
             by_cases c22 : 0 ≤ (ji21)
             ·
              rw [if_pos c22] at H
              have c22b0 : decide (0 ≤ (ji21)) = true := decide_eq_true c22
              clear c22
              by_cases c24 : (bt a1 (ji18)) = (bt a0 (ji21))
              ·
               rw [if_pos c24] at H
               have c24b0 : ((bt a1 (ji18)) == (bt a0 (ji21))) = true := beq_iff_eq.mpr c24
               have c24b1 : ((bt a1 (ji18)) != (bt a0 (ji21))) = false := bne_eq_false_iff_eq.mpr c24
               clear c24
               have H' := Aside0.mk H
               clear H
               have p20 : 0 ≤ ((ji18) : Int) := of_decide_eq_true (by first | (with_reducible assumption) | assumption)
               have q20 : (ji18) < (a1.size : Int) := of_decide_eq_true (by first | (with_reducible assumption) | assumption)
               have hx20 := bt_at a1 (ji18)
               replace p20 := eq_true p20
               replace q20 := eq_true q20
               have p23 : 0 ≤ ((ji21) : Int) := of_decide_eq_true (by first | (with_reducible assumption) | assumption)
               have q23 : (ji21) < (a0.size : Int) := of_decide_eq_true (by first | (with_reducible assumption) | assumption)
               have hx23 := bt_at a0 (ji21)
               replace p23 := eq_true p23
               replace q23 := eq_true q23
               go_wp2
               repeat (go_quiet (fail); try go_wp2)
               go_roundg k2
               case measure => have := HK1.out; have := HK2.out; omega
               case rel => exact ⟨(wrap64 (x11_2 + 1)), (by first | rfl | (simp; done) | (simp [*]; done)), H', ⟨by have := HK1.out; have := HK2.out; omega⟩, ⟨by repeat (first | exact HB.out | apply below_alloc | apply pw_below_drewN | apply below_drew1)⟩⟩
              ·
               rw [if_neg c24] at H
               have c24b0 : ((bt a1 (ji18)) == (bt a0 (ji21))) = false := beq_eq_false_iff_ne.mpr c24
               have c24b1 : ((bt a1 (ji18)) != (bt a0 (ji21))) = true := bne_iff_ne.mpr c24
               by_cases c25 : 0 ≤ x7_1
               ·
                rw [if_pos c25] at H
                have c25b0 := eq_true c25
                have c25b1 : decide (0 ≤ x7_1) = true := decide_eq_true c25
                clear c25
                by_cases c26 : x7_1 ≤ x8_1
                ·
                 rw [if_pos c26] at H
                 have c26b0 := eq_true c26
                 have c26b1 : decide (x7_1 ≤ x8_1) = true := decide_eq_true c26
                 clear c26
                 by_cases c27 : x8_1 ≤ (a1.size : Int)
                 ·
                  rw [if_pos c27] at H
                  have c27b0 := eq_true c27
                  have c27b1 : decide (x8_1 ≤ (a1.size : Int)) = true := decide_eq_true c27
                  clear c27
                  replace H := Option.bind_eq_some_iff.mp H
                  obtain ⟨t107, A280, H⟩ := H
                  replace H : ((code_Num.f k2 (IntKind.u64.wrap (wrap64 ((wrap64 (2 * (wrap64 (x11_2 - 1)))) + 1)))).bind fun t108 => (if t107.size + t108.size ≤ 9223372036854775807 then ((code_Num.f k2 (IntKind.u64.wrap (t105))).bind fun t109 => (if (t107 ++ t108).size + t109.size ≤ 9223372036854775807 then (if x6_1.size + ((t107 ++ t108) ++ t109).size ≤ 9223372036854775807 then (delta_Make.l0 k2 a0 a1 t101 (x6_1 ++ ((t107 ++ t108) ++ t109)) ji18 ji18) else (none)) else (none))) else (none))) = some r := H
                  have A28 := Aside0.mk A280
                  clear A280
                  replace H := Option.bind_eq_some_iff.mp H
                  obtain ⟨t108, A290, H⟩ := H
                  replace H : (if t107.size + t108.size ≤ 9223372036854775807 then ((code_Num.f k2 (IntKind.u64.wrap (t105))).bind fun t109 => (if (t107 ++ t108).size + t109.size ≤ 9223372036854775807 then (if x6_1.size + ((t107 ++ t108) ++ t109).size ≤ 9223372036854775807 then (delta_Make.l0 k2 a0 a1 t101 (x6_1 ++ ((t107 ++ t108) ++ t109)) ji18 ji18) else (none)) else (none))) else (none)) = some r := H
                  have A29 := Aside0.mk A290
                  clear A290
                  by_cases c30 : t107.size + t108.size ≤ 9223372036854775807
                  ·
                   rw [if_pos c30] at H
                   have c30b0 := eq_true c30
                   have c30b1 : decide (t107.size + t108.size ≤ 9223372036854775807) = true := decide_eq_true c30
                   try have c30b2 : (9223372036854775807 < t107.size + t108.size) = False := eq_false (Nat.not_lt.2 c30)
                   replace H := Option.bind_eq_some_iff.mp H
                   obtain ⟨t109, A310, H⟩ := H
                   replace H : (if (t107 ++ t108).size + t109.size ≤ 9223372036854775807 then (if x6_1.size + ((t107 ++ t108) ++ t109).size ≤ 9223372036854775807 then (delta_Make.l0 k2 a0 a1 t101 (x6_1 ++ ((t107 ++ t108) ++ t109)) ji18 ji18) else (none)) else (none)) = some r := H
                   have A31 := Aside0.mk A310
                   clear A310
                   by_cases c32 : (t107 ++ t108).size + t109.size ≤ 9223372036854775807
                   ·
                    rw [if_pos c32] at H
                    have c32b0 := eq_true c32
                    have c32b1 : decide ((t107 ++ t108).size + t109.size ≤ 9223372036854775807) = true := decide_eq_true c32
                    try have c32b2 : (9223372036854775807 < (t107 ++ t108).size + t109.size) = False := eq_false (Nat.not_lt.2 c32)
                    (try (have c32b5 : t107.size + t108.size + t109.size ≤ 9223372036854775807 := by (have h_ := c32; simp only [ByteArray.size_append] at h_; exact h_))); (try (have c32b6 : (9223372036854775807 < t107.size + t108.size + t109.size) = False := eq_false (Nat.not_lt.2 c32b5)))
                    by_cases c33 : x6_1.size + ((t107 ++ t108) ++ t109).size ≤ 9223372036854775807
                    ·
                     rw [if_pos c33] at H
                     have c33b0 := eq_true c33
                     have c33b1 : decide (x6_1.size + ((t107 ++ t108) ++ t109).size ≤ 9223372036854775807) = true := decide_eq_true c33
                     try have c33b2 : (9223372036854775807 < x6_1.size + ((t107 ++ t108) ++ t109).size) = False := eq_false (Nat.not_lt.2 c33)
                     (try (have c33b5 : x6_1.size + (t107.size + t108.size + t109.size) ≤ 9223372036854775807 := by (have h_ := c33; simp only [ByteArray.size_append] at h_; exact h_))); (try (have c33b6 : (9223372036854775807 < x6_1.size + (t107.size + t108.size + t109.size)) = False := eq_false (Nat.not_lt.2 c33b5)))
                     have H' := Aside0.mk H
                     clear H
                     have p20 : 0 ≤ ((ji18) : Int) := of_decide_eq_true (by first | (with_reducible assumption) | assumption)
                     have q20 : (ji18) < (a1.size : Int) := of_decide_eq_true (by first | (with_reducible assumption) | assumption)
                     have hx20 := bt_at a1 (ji18)
                     replace p20 := eq_true p20
                     replace q20 := eq_true q20
                     have p23 : 0 ≤ ((ji21) : Int) := of_decide_eq_true (by first | (with_reducible assumption) | assumption)
                     have q23 : (ji21) < (a0.size : Int) := of_decide_eq_true (by first | (with_reducible assumption) | assumption)
                     have hx23 := bt_at a0 (ji21)
                     replace p23 := eq_true p23
                     replace q23 := eq_true q23
                     go_wp2_with (first | (go_at_call 19; (with_reducible refine (delta_insert.calls k2 (a1.extract (x7_1 : Int).toNat (x8_1 : Int).toNat) t107 _ A28.out).mono ?_); rintro e w34 ⟨rfl, hb⟩; have n0_ := Aside0.mk (below_step (by repeat (first | exact HB.out | apply below_alloc | apply pw_below_drewN | apply below_drew1)) hb); clear HB; have HB := n0_; clear n0_; (try clear hb); (try clear hb2); (try clear hk); (try clear hi)) | (go_at_call 18; (with_reducible refine (code_Num.calls k2 (IntKind.u64.wrap (wrap64 ((wrap64 (2 * (wrap64 (x11_2 - 1)))) + 1))) t108 _ A29.out).mono ?_); rintro e w35 ⟨rfl, hb⟩; have n0_ := Aside0.mk (below_step (by repeat (first | exact HB.out | apply below_alloc | apply pw_below_drewN | apply below_drew1)) hb); clear HB; have HB := n0_; clear n0_; (try clear hb); (try clear hb2); (try clear hk); (try clear hi)) | (go_at_call 18; (with_reducible refine (code_Num.calls k2 (IntKind.u64.wrap (t105)) t109 _ A31.out).mono ?_); rintro e w36 ⟨rfl, hb⟩; have n0_ := Aside0.mk (below_step (by repeat (first | exact HB.out | apply below_alloc | apply pw_below_drewN | apply below_drew1)) hb); clear HB; have HB := n0_; clear n0_; (try clear hb); (try clear hb2); (try clear hk); (try clear hi)))
                     repeat (go_quiet (first | (go_at_call 19; (with_reducible refine (delta_insert.calls k2 (a1.extract (x7_1 : Int).toNat (x8_1 : Int).toNat) t107 _ A28.out).mono ?_); rintro e w34 ⟨rfl, hb⟩; have n0_ := Aside0.mk (below_step (by repeat (first | exact HB.out | apply below_alloc | apply pw_below_drewN | apply below_drew1)) hb); clear HB; have HB := n0_; clear n0_; (try clear hb); (try clear hb2); (try clear hk); (try clear hi)) | (go_at_call 18; (with_reducible refine (code_Num.calls k2 (IntKind.u64.wrap (wrap64 ((wrap64 (2 * (wrap64 (x11_2 - 1)))) + 1))) t108 _ A29.out).mono ?_); rintro e w35 ⟨rfl, hb⟩; have n0_ := Aside0.mk (below_step (by repeat (first | exact HB.out | apply below_alloc | apply pw_below_drewN | apply below_drew1)) hb); clear HB; have HB := n0_; clear n0_; (try clear hb); (try clear hb2); (try clear hk); (try clear hi)) | (go_at_call 18; (with_reducible refine (code_Num.calls k2 (IntKind.u64.wrap (t105)) t109 _ A31.out).mono ?_); rintro e w36 ⟨rfl, hb⟩; have n0_ := Aside0.mk (below_step (by repeat (first | exact HB.out | apply below_alloc | apply pw_below_drewN | apply below_drew1)) hb); clear HB; have HB := n0_; clear n0_; (try clear hb); (try clear hb2); (try clear hk); (try clear hi))); try go_wp2_with (first | (go_at_call 19; (with_reducible refine (delta_insert.calls k2 (a1.extract (x7_1 : Int).toNat (x8_1 : Int).toNat) t107 _ A28.out).mono ?_); rintro e w34 ⟨rfl, hb⟩; have n0_ := Aside0.mk (below_step (by repeat (first | exact HB.out | apply below_alloc | apply pw_below_drewN | apply below_drew1)) hb); clear HB; have HB := n0_; clear n0_; (try clear hb); (try clear hb2); (try clear hk); (try clear hi)) | (go_at_call 18; (with_reducible refine (code_Num.calls k2 (IntKind.u64.wrap (wrap64 ((wrap64 (2 * (wrap64 (x11_2 - 1)))) + 1))) t108 _ A29.out).mono ?_); rintro e w35 ⟨rfl, hb⟩; have n0_ := Aside0.mk (below_step (by repeat (first | exact HB.out | apply below_alloc | apply pw_below_drewN | apply below_drew1)) hb); clear HB; have HB := n0_; clear n0_; (try clear hb); (try clear hb2); (try clear hk); (try clear hi)) | (go_at_call 18; (with_reducible refine (code_Num.calls k2 (IntKind.u64.wrap (t105)) t109 _ A31.out).mono ?_); rintro e w36 ⟨rfl, hb⟩; have n0_ := Aside0.mk (below_step (by repeat (first | exact HB.out | apply below_alloc | apply pw_below_drewN | apply below_drew1)) hb); clear HB; have HB := n0_; clear n0_; (try clear hb); (try clear hb2); (try clear hk); (try clear hi))))
                     go_roundg k2
                     case measure => have := HK1.out; have := HK2.out; omega
                     case rel => exact ⟨(x6_1 ++ ((t107 ++ t108) ++ t109)), (ji18), (ji18), (by first | rfl | (simp; done) | (simp [*]; done)), (by first | rfl | (simp; done) | (simp only [← hji18] <;> (first | rfl | simp)) | (simp [*]; done)), (by first | rfl | (simp; done) | (simp only [← hji18] <;> (first | rfl | simp)) | (simp [*]; done)), H', ⟨by have := HK1.out; have := HK2.out; omega⟩, ⟨by repeat (first | exact HB.out | apply below_alloc | apply pw_below_drewN | apply below_drew1)⟩⟩
                    ·
                     rw [if_neg c33] at H
                     exact absurd H (by simp)
                   ·
                    rw [if_neg c32] at H
                    exact absurd H (by simp)
                  ·
                   rw [if_neg c30] at H
                   exact absurd H (by simp)
                 ·
                  rw [if_neg c27] at H
                  exact absurd H (by simp)
                ·
                 rw [if_neg c26] at H
                 exact absurd H (by simp)
               ·
                rw [if_neg c25] at H
                exact absurd H (by simp)
             ·
              rw [if_neg c22] at H
              exact absurd H (by simp)
            ·
             rw [if_neg c19] at H
             exact absurd H (by simp)
           ·
            rw [if_neg c17] at H
            have c17b0 : decide ((wrap64 (t105 + x11_2)) < (a0.size : Int)) = false := decide_eq_false c17
            clear c17
            by_cases c37 : 0 ≤ x7_1
            ·
             rw [if_pos c37] at H
             have c37b0 := eq_true c37
             have c37b1 : decide (0 ≤ x7_1) = true := decide_eq_true c37
             clear c37
             by_cases c38 : x7_1 ≤ x8_1
             ·
              rw [if_pos c38] at H
              have c38b0 := eq_true c38
              have c38b1 : decide (x7_1 ≤ x8_1) = true := decide_eq_true c38
              clear c38
              by_cases c39 : x8_1 ≤ (a1.size : Int)
              ·
               rw [if_pos c39] at H
               have c39b0 := eq_true c39
               have c39b1 : decide (x8_1 ≤ (a1.size : Int)) = true := decide_eq_true c39
               clear c39
               replace H := Option.bind_eq_some_iff.mp H
               obtain ⟨t110, A400, H⟩ := H
               replace H : ((code_Num.f k2 (IntKind.u64.wrap (wrap64 ((wrap64 (2 * (wrap64 (x11_2 - 1)))) + 1)))).bind fun t111 => (if t110.size + t111.size ≤ 9223372036854775807 then ((code_Num.f k2 (IntKind.u64.wrap (t105))).bind fun t112 => (if (t110 ++ t111).size + t112.size ≤ 9223372036854775807 then (if x6_1.size + ((t110 ++ t111) ++ t112).size ≤ 9223372036854775807 then (delta_Make.l0 k2 a0 a1 t101 (x6_1 ++ ((t110 ++ t111) ++ t112)) (wrap64 (x8_1 + x11_2)) (wrap64 (x8_1 + x11_2))) else (none)) else (none))) else (none))) = some r := H
               have A40 := Aside0.mk A400
               clear A400
               replace H := Option.bind_eq_some_iff.mp H
               obtain ⟨t111, A410, H⟩ := H
               replace H : (if t110.size + t111.size ≤ 9223372036854775807 then ((code_Num.f k2 (IntKind.u64.wrap (t105))).bind fun t112 => (if (t110 ++ t111).size + t112.size ≤ 9223372036854775807 then (if x6_1.size + ((t110 ++ t111) ++ t112).size ≤ 9223372036854775807 then (delta_Make.l0 k2 a0 a1 t101 (x6_1 ++ ((t110 ++ t111) ++ t112)) (wrap64 (x8_1 + x11_2)) (wrap64 (x8_1 + x11_2))) else (none)) else (none))) else (none)) = some r := H
               have A41 := Aside0.mk A410
               clear A410
               by_cases c42 : t110.size + t111.size ≤ 9223372036854775807
               ·
                rw [if_pos c42] at H
                have c42b0 := eq_true c42
                have c42b1 : decide (t110.size + t111.size ≤ 9223372036854775807) = true := decide_eq_true c42
                try have c42b2 : (9223372036854775807 < t110.size + t111.size) = False := eq_false (Nat.not_lt.2 c42)
                replace H := Option.bind_eq_some_iff.mp H
                obtain ⟨t112, A430, H⟩ := H
                replace H : (if (t110 ++ t111).size + t112.size ≤ 9223372036854775807 then (if x6_1.size + ((t110 ++ t111) ++ t112).size ≤ 9223372036854775807 then (delta_Make.l0 k2 a0 a1 t101 (x6_1 ++ ((t110 ++ t111) ++ t112)) (wrap64 (x8_1 + x11_2)) (wrap64 (x8_1 + x11_2))) else (none)) else (none)) = some r := H
                have A43 := Aside0.mk A430
                clear A430
                by_cases c44 : (t110 ++ t111).size + t112.size ≤ 9223372036854775807
                ·
                 rw [if_pos c44] at H
                 have c44b0 := eq_true c44
                 have c44b1 : decide ((t110 ++ t111).size + t112.size ≤ 9223372036854775807) = true := decide_eq_true c44
                 try have c44b2 : (9223372036854775807 < (t110 ++ t111).size + t112.size) = False := eq_false (Nat.not_lt.2 c44)
                 (try (have c44b5 : t110.size + t111.size + t112.size ≤ 9223372036854775807 := by (have h_ := c44; simp only [ByteArray.size_append] at h_; exact h_))); (try (have c44b6 : (9223372036854775807 < t110.size + t111.size + t112.size) = False := eq_false (Nat.not_lt.2 c44b5)))
                 by_cases c45 : x6_1.size + ((t110 ++ t111) ++ t112).size ≤ 9223372036854775807
                 ·
                  rw [if_pos c45] at H
                  have c45b0 := eq_true c45
                  have c45b1 : decide (x6_1.size + ((t110 ++ t111) ++ t112).size ≤ 9223372036854775807) = true := decide_eq_true c45
                  try have c45b2 : (9223372036854775807 < x6_1.size + ((t110 ++ t111) ++ t112).size) = False := eq_false (Nat.not_lt.2 c45)
                  (try (have c45b5 : x6_1.size + (t110.size + t111.size + t112.size) ≤ 9223372036854775807 := by (have h_ := c45; simp only [ByteArray.size_append] at h_; exact h_))); (try (have c45b6 : (9223372036854775807 < x6_1.size + (t110.size + t111.size + t112.size)) = False := eq_false (Nat.not_lt.2 c45b5)))
                  have H' := Aside0.mk H
                  clear H
                  go_wp2_with (first | (go_at_call 19; (with_reducible refine (delta_insert.calls k2 (a1.extract (x7_1 : Int).toNat (x8_1 : Int).toNat) t110 _ A40.out).mono ?_); rintro e w46 ⟨rfl, hb⟩; have n0_ := Aside0.mk (below_step (by repeat (first | exact HB.out | apply below_alloc | apply pw_below_drewN | apply below_drew1)) hb); clear HB; have HB := n0_; clear n0_; (try clear hb); (try clear hb2); (try clear hk); (try clear hi)) | (go_at_call 18; (with_reducible refine (code_Num.calls k2 (IntKind.u64.wrap (wrap64 ((wrap64 (2 * (wrap64 (x11_2 - 1)))) + 1))) t111 _ A41.out).mono ?_); rintro e w47 ⟨rfl, hb⟩; have n0_ := Aside0.mk (below_step (by repeat (first | exact HB.out | apply below_alloc | apply pw_below_drewN | apply below_drew1)) hb); clear HB; have HB := n0_; clear n0_; (try clear hb); (try clear hb2); (try clear hk); (try clear hi)) | (go_at_call 18; (with_reducible refine (code_Num.calls k2 (IntKind.u64.wrap (t105)) t112 _ A43.out).mono ?_); rintro e w48 ⟨rfl, hb⟩; have n0_ := Aside0.mk (below_step (by repeat (first | exact HB.out | apply below_alloc | apply pw_below_drewN | apply below_drew1)) hb); clear HB; have HB := n0_; clear n0_; (try clear hb); (try clear hb2); (try clear hk); (try clear hi)))
                  repeat (go_quiet (first | (go_at_call 19; (with_reducible refine (delta_insert.calls k2 (a1.extract (x7_1 : Int).toNat (x8_1 : Int).toNat) t110 _ A40.out).mono ?_); rintro e w46 ⟨rfl, hb⟩; have n0_ := Aside0.mk (below_step (by repeat (first | exact HB.out | apply below_alloc | apply pw_below_drewN | apply below_drew1)) hb); clear HB; have HB := n0_; clear n0_; (try clear hb); (try clear hb2); (try clear hk); (try clear hi)) | (go_at_call 18; (with_reducible refine (code_Num.calls k2 (IntKind.u64.wrap (wrap64 ((wrap64 (2 * (wrap64 (x11_2 - 1)))) + 1))) t111 _ A41.out).mono ?_); rintro e w47 ⟨rfl, hb⟩; have n0_ := Aside0.mk (below_step (by repeat (first | exact HB.out | apply below_alloc | apply pw_below_drewN | apply below_drew1)) hb); clear HB; have HB := n0_; clear n0_; (try clear hb); (try clear hb2); (try clear hk); (try clear hi)) | (go_at_call 18; (with_reducible refine (code_Num.calls k2 (IntKind.u64.wrap (t105)) t112 _ A43.out).mono ?_); rintro e w48 ⟨rfl, hb⟩; have n0_ := Aside0.mk (below_step (by repeat (first | exact HB.out | apply below_alloc | apply pw_below_drewN | apply below_drew1)) hb); clear HB; have HB := n0_; clear n0_; (try clear hb); (try clear hb2); (try clear hk); (try clear hi))); try go_wp2_with (first | (go_at_call 19; (with_reducible refine (delta_insert.calls k2 (a1.extract (x7_1 : Int).toNat (x8_1 : Int).toNat) t110 _ A40.out).mono ?_); rintro e w46 ⟨rfl, hb⟩; have n0_ := Aside0.mk (below_step (by repeat (first | exact HB.out | apply below_alloc | apply pw_below_drewN | apply below_drew1)) hb); clear HB; have HB := n0_; clear n0_; (try clear hb); (try clear hb2); (try clear hk); (try clear hi)) | (go_at_call 18; (with_reducible refine (code_Num.calls k2 (IntKind.u64.wrap (wrap64 ((wrap64 (2 * (wrap64 (x11_2 - 1)))) + 1))) t111 _ A41.out).mono ?_); rintro e w47 ⟨rfl, hb⟩; have n0_ := Aside0.mk (below_step (by repeat (first | exact HB.out | apply below_alloc | apply pw_below_drewN | apply below_drew1)) hb); clear HB; have HB := n0_; clear n0_; (try clear hb); (try clear hb2); (try clear hk); (try clear hi)) | (go_at_call 18; (with_reducible refine (code_Num.calls k2 (IntKind.u64.wrap (t105)) t112 _ A43.out).mono ?_); rintro e w48 ⟨rfl, hb⟩; have n0_ := Aside0.mk (below_step (by repeat (first | exact HB.out | apply below_alloc | apply pw_below_drewN | apply below_drew1)) hb); clear HB; have HB := n0_; clear n0_; (try clear hb); (try clear hb2); (try clear hk); (try clear hi))))
                  go_roundg k2
                  case measure => have := HK1.out; have := HK2.out; omega
                  case rel => exact ⟨(x6_1 ++ ((t110 ++ t111) ++ t112)), (wrap64 (x8_1 + x11_2)), (wrap64 (x8_1 + x11_2)), (by first | rfl | (simp; done) | (simp [*]; done)), (by first | rfl | (simp; done) | (simp [*]; done)), (by first | rfl | (simp; done) | (simp [*]; done)), H', ⟨by have := HK1.out; have := HK2.out; omega⟩, ⟨by repeat (first | exact HB.out | apply below_alloc | apply pw_below_drewN | apply below_drew1)⟩⟩
                 ·
                  rw [if_neg c45] at H
                  exact absurd H (by simp)
                ·
                 rw [if_neg c44] at H
                 exact absurd H (by simp)
               ·
                rw [if_neg c42] at H
                exact absurd H (by simp)
              ·
               rw [if_neg c39] at H
               exact absurd H (by simp)
             ·
              rw [if_neg c38] at H
              exact absurd H (by simp)
            ·
             rw [if_neg c37] at H
             exact absurd H (by simp)
          ·
           rw [if_neg c16] at H
           have c16b0 : decide ((wrap64 (x8_1 + x11_2)) < (a1.size : Int)) = false := decide_eq_false c16
           clear c16
           by_cases c49 : 0 ≤ x7_1
           ·
            rw [if_pos c49] at H
            have c49b0 := eq_true c49
            have c49b1 : decide (0 ≤ x7_1) = true := decide_eq_true c49
            clear c49
            by_cases c50 : x7_1 ≤ x8_1
            ·
             rw [if_pos c50] at H
             have c50b0 := eq_true c50
             have c50b1 : decide (x7_1 ≤ x8_1) = true := decide_eq_true c50
             clear c50
             by_cases c51 : x8_1 ≤ (a1.size : Int)
             ·
              rw [if_pos c51] at H
              have c51b0 := eq_true c51
              have c51b1 : decide (x8_1 ≤ (a1.size : Int)) = true := decide_eq_true c51
              clear c51
              replace H := Option.bind_eq_some_iff.mp H
              obtain ⟨t113, A520, H⟩ := H
              replace H : ((code_Num.f k2 (IntKind.u64.wrap (wrap64 ((wrap64 (2 * (wrap64 (x11_2 - 1)))) + 1)))).bind fun t114 => (if t113.size + t114.size ≤ 9223372036854775807 then ((code_Num.f k2 (IntKind.u64.wrap (t105))).bind fun t115 => (if (t113 ++ t114).size + t115.size ≤ 9223372036854775807 then (if x6_1.size + ((t113 ++ t114) ++ t115).size ≤ 9223372036854775807 then (delta_Make.l0 k2 a0 a1 t101 (x6_1 ++ ((t113 ++ t114) ++ t115)) (wrap64 (x8_1 + x11_2)) (wrap64 (x8_1 + x11_2))) else (none)) else (none))) else (none))) = some r := H
              have A52 := Aside0.mk A520
              clear A520
              replace H := Option.bind_eq_some_iff.mp H
              obtain ⟨t114, A530, H⟩ := H
              replace H : (if t113.size + t114.size ≤ 9223372036854775807 then ((code_Num.f k2 (IntKind.u64.wrap (t105))).bind fun t115 => (if (t113 ++ t114).size + t115.size ≤ 9223372036854775807 then (if x6_1.size + ((t113 ++ t114) ++ t115).size ≤ 9223372036854775807 then (delta_Make.l0 k2 a0 a1 t101 (x6_1 ++ ((t113 ++ t114) ++ t115)) (wrap64 (x8_1 + x11_2)) (wrap64 (x8_1 + x11_2))) else (none)) else (none))) else (none)) = some r := H
              have A53 := Aside0.mk A530
              clear A530
              by_cases c54 : t113.size + t114.size ≤ 9223372036854775807
              ·
               rw [if_pos c54] at H
               have c54b0 := eq_true c54
               have c54b1 : decide (t113.size + t114.size ≤ 9223372036854775807) = true := decide_eq_true c54
               try have c54b2 : (9223372036854775807 < t113.size + t114.size) = False := eq_false (Nat.not_lt.2 c54)
               replace H := Option.bind_eq_some_iff.mp H
               obtain ⟨t115, A550, H⟩ := H
               replace H : (if (t113 ++ t114).size + t115.size ≤ 9223372036854775807 then (if x6_1.size + ((t113 ++ t114) ++ t115).size ≤ 9223372036854775807 then (delta_Make.l0 k2 a0 a1 t101 (x6_1 ++ ((t113 ++ t114) ++ t115)) (wrap64 (x8_1 + x11_2)) (wrap64 (x8_1 + x11_2))) else (none)) else (none)) = some r := H
               have A55 := Aside0.mk A550
               clear A550
               by_cases c56 : (t113 ++ t114).size + t115.size ≤ 9223372036854775807
               ·
                rw [if_pos c56] at H
                have c56b0 := eq_true c56
                have c56b1 : decide ((t113 ++ t114).size + t115.size ≤ 9223372036854775807) = true := decide_eq_true c56
                try have c56b2 : (9223372036854775807 < (t113 ++ t114).size + t115.size) = False := eq_false (Nat.not_lt.2 c56)
                (try (have c56b5 : t113.size + t114.size + t115.size ≤ 9223372036854775807 := by (have h_ := c56; simp only [ByteArray.size_append] at h_; exact h_))); (try (have c56b6 : (9223372036854775807 < t113.size + t114.size + t115.size) = False := eq_false (Nat.not_lt.2 c56b5)))
                by_cases c57 : x6_1.size + ((t113 ++ t114) ++ t115).size ≤ 9223372036854775807
                ·
                 rw [if_pos c57] at H
                 have c57b0 := eq_true c57
                 have c57b1 : decide (x6_1.size + ((t113 ++ t114) ++ t115).size ≤ 9223372036854775807) = true := decide_eq_true c57
                 try have c57b2 : (9223372036854775807 < x6_1.size + ((t113 ++ t114) ++ t115).size) = False := eq_false (Nat.not_lt.2 c57)
                 (try (have c57b5 : x6_1.size + (t113.size + t114.size + t115.size) ≤ 9223372036854775807 := by (have h_ := c57; simp only [ByteArray.size_append] at h_; exact h_))); (try (have c57b6 : (9223372036854775807 < x6_1.size + (t113.size + t114.size + t115.size)) = False := eq_false (Nat.not_lt.2 c57b5)))
                 have H' := Aside0.mk H
                 clear H
                 go_wp2_with (first | (go_at_call 19; (with_reducible refine (delta_insert.calls k2 (a1.extract (x7_1 : Int).toNat (x8_1 : Int).toNat) t113 _ A52.out).mono ?_); rintro e w58 ⟨rfl, hb⟩; have n0_ := Aside0.mk (below_step (by repeat (first | exact HB.out | apply below_alloc | apply pw_below_drewN | apply below_drew1)) hb); clear HB; have HB := n0_; clear n0_; (try clear hb); (try clear hb2); (try clear hk); (try clear hi)) | (go_at_call 18; (with_reducible refine (code_Num.calls k2 (IntKind.u64.wrap (wrap64 ((wrap64 (2 * (wrap64 (x11_2 - 1)))) + 1))) t114 _ A53.out).mono ?_); rintro e w59 ⟨rfl, hb⟩; have n0_ := Aside0.mk (below_step (by repeat (first | exact HB.out | apply below_alloc | apply pw_below_drewN | apply below_drew1)) hb); clear HB; have HB := n0_; clear n0_; (try clear hb); (try clear hb2); (try clear hk); (try clear hi)) | (go_at_call 18; (with_reducible refine (code_Num.calls k2 (IntKind.u64.wrap (t105)) t115 _ A55.out).mono ?_); rintro e w60 ⟨rfl, hb⟩; have n0_ := Aside0.mk (below_step (by repeat (first | exact HB.out | apply below_alloc | apply pw_below_drewN | apply below_drew1)) hb); clear HB; have HB := n0_; clear n0_; (try clear hb); (try clear hb2); (try clear hk); (try clear hi)))
                 repeat (go_quiet (first | (go_at_call 19; (with_reducible refine (delta_insert.calls k2 (a1.extract (x7_1 : Int).toNat (x8_1 : Int).toNat) t113 _ A52.out).mono ?_); rintro e w58 ⟨rfl, hb⟩; have n0_ := Aside0.mk (below_step (by repeat (first | exact HB.out | apply below_alloc | apply pw_below_drewN | apply below_drew1)) hb); clear HB; have HB := n0_; clear n0_; (try clear hb); (try clear hb2); (try clear hk); (try clear hi)) | (go_at_call 18; (with_reducible refine (code_Num.calls k2 (IntKind.u64.wrap (wrap64 ((wrap64 (2 * (wrap64 (x11_2 - 1)))) + 1))) t114 _ A53.out).mono ?_); rintro e w59 ⟨rfl, hb⟩; have n0_ := Aside0.mk (below_step (by repeat (first | exact HB.out | apply below_alloc | apply pw_below_drewN | apply below_drew1)) hb); clear HB; have HB := n0_; clear n0_; (try clear hb); (try clear hb2); (try clear hk); (try clear hi)) | (go_at_call 18; (with_reducible refine (code_Num.calls k2 (IntKind.u64.wrap (t105)) t115 _ A55.out).mono ?_); rintro e w60 ⟨rfl, hb⟩; have n0_ := Aside0.mk (below_step (by repeat (first | exact HB.out | apply below_alloc | apply pw_below_drewN | apply below_drew1)) hb); clear HB; have HB := n0_; clear n0_; (try clear hb); (try clear hb2); (try clear hk); (try clear hi))); try go_wp2_with (first | (go_at_call 19; (with_reducible refine (delta_insert.calls k2 (a1.extract (x7_1 : Int).toNat (x8_1 : Int).toNat) t113 _ A52.out).mono ?_); rintro e w58 ⟨rfl, hb⟩; have n0_ := Aside0.mk (below_step (by repeat (first | exact HB.out | apply below_alloc | apply pw_below_drewN | apply below_drew1)) hb); clear HB; have HB := n0_; clear n0_; (try clear hb); (try clear hb2); (try clear hk); (try clear hi)) | (go_at_call 18; (with_reducible refine (code_Num.calls k2 (IntKind.u64.wrap (wrap64 ((wrap64 (2 * (wrap64 (x11_2 - 1)))) + 1))) t114 _ A53.out).mono ?_); rintro e w59 ⟨rfl, hb⟩; have n0_ := Aside0.mk (below_step (by repeat (first | exact HB.out | apply below_alloc | apply pw_below_drewN | apply below_drew1)) hb); clear HB; have HB := n0_; clear n0_; (try clear hb); (try clear hb2); (try clear hk); (try clear hi)) | (go_at_call 18; (with_reducible refine (code_Num.calls k2 (IntKind.u64.wrap (t105)) t115 _ A55.out).mono ?_); rintro e w60 ⟨rfl, hb⟩; have n0_ := Aside0.mk (below_step (by repeat (first | exact HB.out | apply below_alloc | apply pw_below_drewN | apply below_drew1)) hb); clear HB; have HB := n0_; clear n0_; (try clear hb); (try clear hb2); (try clear hk); (try clear hi))))
                 go_roundg k2
                 case measure => have := HK1.out; have := HK2.out; omega
                 case rel => exact ⟨(x6_1 ++ ((t113 ++ t114) ++ t115)), (wrap64 (x8_1 + x11_2)), (wrap64 (x8_1 + x11_2)), (by first | rfl | (simp; done) | (simp [*]; done)), (by first | rfl | (simp; done) | (simp [*]; done)), (by first | rfl | (simp; done) | (simp [*]; done)), H', ⟨by have := HK1.out; have := HK2.out; omega⟩, ⟨by repeat (first | exact HB.out | apply below_alloc | apply pw_below_drewN | apply below_drew1)⟩⟩
                ·
                 rw [if_neg c57] at H
                 exact absurd H (by simp)
               ·
                rw [if_neg c56] at H
                exact absurd H (by simp)
              ·
               rw [if_neg c54] at H
               exact absurd H (by simp)
             ·
              rw [if_neg c51] at H
              exact absurd H (by simp)
            ·
             rw [if_neg c50] at H
             exact absurd H (by simp)
           ·
            rw [if_neg c49] at H
            exact absurd H (by simp)
       ·
        replace c15 := Bool.eq_false_iff.mpr c15
        subst c15
        have H1 : (delta_Make.l0 k1 a0 a1 t101 x6_1 x7_1 (wrap64 (x8_1 + 1))) = some r := by rw [if_neg (show ¬ (false = true) by decide)] at H; exact H
        clear H
        have H := H1
        clear H1
        have H' := Aside0.mk H
        clear H
        go_wp2_with (first | (at_lookup; refine wpList_lookup_own_ok_int _ rfl _ _ 44 rfl 9 3 .i64 (Maps.string_keyed Tryd.underlying9) Tryd.underlying44 Tryd.underlying3 (Tryd.zeroValue3 _) w.heap.size (a0.size / 16) _ rfl (own_below HM.out (by repeat (first | exact HB.out | apply below_alloc | apply pw_below_drewN | apply below_drew1))) _ _ rfl (WideMaps.keyOf_string_mk Tryd.underlying9 (ext_le HS2.out)) ?_; intro c hat hwc; rw [(look_eq A3.out A14.out).1, (look_eq A3.out A14.out).2 c hat]; clear hat hwc))
        go_roundg k1
        case measure => have := HK1.out; omega
        case rel => exact ⟨(x6_1), (x7_1), (wrap64 (x8_1 + 1)), (by first | rfl | (simp; done) | (simp [*]; done)), (by first | rfl | (simp; done) | (simp [*]; done)), (by first | rfl | (simp; done) | (simp [*]; done)), H', ⟨by have := HK1.out; omega⟩, ⟨by repeat (first | exact HB.out | apply below_alloc | apply pw_below_drewN | apply below_drew1)⟩⟩
      ·
       rw [if_neg c12] at H
       exact absurd H (by simp)
     ·
      rw [if_neg c11] at H
      exact absurd H (by simp)
    ·
     rw [if_neg c10] at H
     have c10b0 : decide ((wrap64 (x8_1 + 16)) ≤ (a1.size : Int)) = false := decide_eq_false c10
     clear c10
     by_cases c61 : 0 ≤ x7_1
     ·
      rw [if_pos c61] at H
      have c61b0 := eq_true c61
      have c61b1 : decide (0 ≤ x7_1) = true := decide_eq_true c61
      clear c61
      by_cases c62 : x7_1 ≤ (a1.size : Int)
      ·
       rw [if_pos c62] at H
       have c62b0 := eq_true c62
       have c62b1 : decide (x7_1 ≤ (a1.size : Int)) = true := decide_eq_true c62
       clear c62
       replace H := Option.bind_eq_some_iff.mp H
       obtain ⟨t104, A630, H⟩ := H
       replace H : (if x6_1.size + t104.size ≤ 9223372036854775807 then (some (x6_1 ++ t104)) else (none)) = some r := H
       have A63 := Aside0.mk A630
       clear A630
       by_cases c64 : x6_1.size + t104.size ≤ 9223372036854775807
       ·
        rw [if_pos c64] at H
        have c64b0 := eq_true c64
        have c64b1 : decide (x6_1.size + t104.size ≤ 9223372036854775807) = true := decide_eq_true c64
        try have c64b2 : (9223372036854775807 < x6_1.size + t104.size) = False := eq_false (Nat.not_lt.2 c64)
        obtain rfl := Option.some.inj H
        go_wp2_with (first | (go_at_call 19; (with_reducible refine (delta_insert.calls k1 (a1.extract (x7_1 : Int).toNat a1.size) t104 _ A63.out).mono ?_); rintro e w65 ⟨rfl, hb⟩; have n0_ := Aside0.mk (below_step (by repeat (first | exact HB.out | apply below_alloc | apply pw_below_drewN | apply below_drew1)) hb); clear HB; have HB := n0_; clear n0_; (try clear hb); (try clear hb2); (try clear hk); (try clear hi)))
        repeat (go_quiet (first | (go_at_call 19; (with_reducible refine (delta_insert.calls k1 (a1.extract (x7_1 : Int).toNat a1.size) t104 _ A63.out).mono ?_); rintro e w65 ⟨rfl, hb⟩; have n0_ := Aside0.mk (below_step (by repeat (first | exact HB.out | apply below_alloc | apply pw_below_drewN | apply below_drew1)) hb); clear HB; have HB := n0_; clear n0_; (try clear hb); (try clear hb2); (try clear hk); (try clear hi))); try go_wp2_with (first | (go_at_call 19; (with_reducible refine (delta_insert.calls k1 (a1.extract (x7_1 : Int).toNat a1.size) t104 _ A63.out).mono ?_); rintro e w65 ⟨rfl, hb⟩; have n0_ := Aside0.mk (below_step (by repeat (first | exact HB.out | apply below_alloc | apply pw_below_drewN | apply below_drew1)) hb); clear HB; have HB := n0_; clear n0_; (try clear hb); (try clear hb2); (try clear hk); (try clear hi))))
        go_ret
        exact ⟨by first | rfl | (simp [errW_none, errW_some] <;> rfl) | (simp [*, errW_none, errW_some] <;> rfl), (HL.out.trans (Below.mono (show Below w7.heap.size w7 _ from by repeat (first | exact HB.out | apply below_alloc | apply pw_below_drewN | apply below_drew1)) (Below.size HL.out)))⟩
       ·
        rw [if_neg c64] at H
        exact absurd H (by simp)
      ·
       rw [if_neg c62] at H
       exact absurd H (by simp)
     ·
      rw [if_neg c61] at H
      exact absurd H (by simp)
 ·
  rw [if_neg c6] at H
  exact absurd H (by simp)

end Go.Proofs.YthnojgpobfpgeaaDoor.PCm
