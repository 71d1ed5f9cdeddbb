/- ### pollardref02_Num: function 44 -/
import Derived.Test.YthnojgpobfpgeaaGreatDoorProg
import Derived.Below
import Derived.Deep.Draws
import Derived.Deep.AppendLies
import Derived.Maps.AppendAt
import Derived.OwnWalk
import Derived.Laws.BytesArg
import Derived.Laws.MakeOwn
import Derived.Laws.OwnMore
import Derived.Deep.OwnRows
import Derived.Tactics
import Derived.Lib.ConvBytes
import Derived.Laws.Slices
import Derived.WalkKit
import Derived.KernelRfl
import Derived.RowKit3
import Derived.Deep.LoopGhost
import Derived.Deep.QuietTactic
import Derived.BigQuiet
import Derived.WideLaws
import Derived.Deep.DeepCutAuto
import Derived.Deep.CutBlock
import Derived.Deep.RegionHeld3
import Derived.Laws.Rows
import Derived.Lib.AppendStr
import Derived.ArgAppend
import Derived.Laws.IdiomCopy
import Derived.OrdersHeld
import Derived.Laws.BitsLemmas
import Derived.RowKit
import Derived.Test.YthnojgpobfpgeaaGreatDoorW
import Derived.Laws.StructEq
import Derived.Test.YthnojgpobfpgeaaGreatDoorPW
namespace Go.Proofs.YthnojgpobfpgeaaGreatDoor.PLa
open Go.RowKit Go.Proofs.YthnojgpobfpgeaaGreatDoorW.PrintWords Go.Proofs.YthnojgpobfpgeaaGreatDoorW.PrintLast Go.Proofs.YthnojgpobfpgeaaGreatDoorW.PrintMore Go.Proofs
attribute [local go_sem] max2_int max_two
set_option linter.unusedVariables false
set_option linter.unusedSimpArgs false

theorem info5 : (Tryz.prog.info? 5).map (fun i => (i.zero, i.size, i.bytes)) = some (some (.int .u8 0), 1, 1) := by kernel_rfl
-- the values' own types

end Go.Proofs.YthnojgpobfpgeaaGreatDoor.PLa

namespace Go.Proofs.YthnojgpobfpgeaaGreatDoor.PLa
open Go.RowKit Go.Proofs.YthnojgpobfpgeaaGreatDoorW.PrintWords Go.Proofs.YthnojgpobfpgeaaGreatDoorW.PrintLast Go.Proofs.YthnojgpobfpgeaaGreatDoorW.PrintMore Go.Proofs
attribute [local go_sem] max2_int max_two
set_option linter.unusedVariables false
set_option linter.unusedSimpArgs false

/-! ### pollardref02_Num: function 44 -/
mutual
def pollardref02_Num.j1 : Nat → Int → Int → Int → Option (ByteArray)
 | 0, _, _, _ => none
 | k + 1, x0, x3, x5 => pollardref02_Num.l1 k (IntKind.u64.wrap (x0 - x5)) x3 (⟨#[]⟩ : ByteArray) 0
def pollardref02_Num.l1 : Nat → Int → Int → ByteArray → Int → Option (ByteArray)
 | 0, _, _, _, _ => none
 | k + 1, x0, x3, x6, x7 => if x7 < x3 then (if x7 > 0 then ((some (([(((Int.tmod x0 128) % 256) + 128) % 256] : List Int) : List Int)).bind fun y101 => (if (strOfNums y101).size + x6.size ≤ 9223372036854775807 then (pollardref02_Num.l1 k (IntKind.u64.wrap (Int.tdiv x0 128)) x3 ((strOfNums y101) ++ x6) (wrap64 (x7 + 1))) else (none))) else ((some (([(Int.tmod x0 128) % 256] : List Int) : List Int)).bind fun y104 => (if (strOfNums y104).size + x6.size ≤ 9223372036854775807 then (pollardref02_Num.l1 k (IntKind.u64.wrap (Int.tdiv x0 128)) x3 ((strOfNums y104) ++ x6) (wrap64 (x7 + 1))) else (none)))) else (some x6)
def pollardref02_Num.l0 : Nat → Int → Int → Int → Int → Option (ByteArray)
 | 0, _, _, _, _ => none
 | k + 1, x0, x3, x4, x5 => if x3 < 10 then (if (IntKind.u64.wrap (x0 - x5)) ≥ x4 then (pollardref02_Num.l0 k x0 (wrap64 (x3 + 1)) (IntKind.u64.wrap (x4 * 128)) (IntKind.u64.wrap (x5 + x4))) else (pollardref02_Num.j1 k x0 x3 x5)) else (pollardref02_Num.j1 k x0 x3 x5)
end
def pollardref02_Num.f (k : Nat) (a0 : Int) : Option (ByteArray) := pollardref02_Num.l0 k a0 1 128 0
set_option maxHeartbeats 8000000 in
set_option maxRecDepth 100000 in
theorem pollardref02_Num.calls (k : Nat) (a0 : Int) (r : ByteArray) (w : World) (h : pollardref02_Num.f k a0 = some r) :
  Calls Tryz.prog 44 #[.int .u64 a0] w fun e w' => e = .returned (.string r) ∧ Below w.heap.size w w' := by
 have HB := Aside0.mk (Below.refl w.heap.size w)
 have H : (pollardref02_Num.l0 k a0 1 128 0) = some r := h
 clear h
 have HC2 := Aside0.mk H
 clear H
 go_enter Tryz.func44, Tryz.ntmps44
 go_upto_block 0 with (fail)
 go_cut [3, 5] (fun v3 v5 wc => ∃ (kq : Nat) (x3_1 : Int) (x5_1 : Int), v3 = .int .i64 x3_1 ∧ v5 = .int .u64 x5_1 ∧ Aside0 (pollardref02_Num.j1 kq a0 x3_1 x5_1 = some r) ∧ Aside0 (kq ≤ k) ∧ Aside0 (Below w.heap.size w wc))
 case first =>
  have H := HC2.out
  clear HC2
  have H' := Aside0.mk H
  clear H
  go_wp2
  go_loopg [3, 4, 5] k (fun kq v3 v4 v5 w' => ∃ (x3_1 : Int) (x4_1 : Int) (x5_1 : Int), v3 = .int .i64 x3_1 ∧ v4 = .int .u64 x4_1 ∧ v5 = .int .u64 x5_1 ∧ Aside0 (pollardref02_Num.l0 kq a0 x3_1 x4_1 x5_1 = some r) ∧ Aside0 (kq ≤ k) ∧ Aside0 (Below w.heap.size w w'))
  case atStart => exact ⟨(1), (128), (0), (by first | rfl | (simp; done) | (simp [*]; done)), (by first | rfl | (simp; done) | (simp [*]; done)), (by first | rfl | (simp; done) | (simp [*]; done)), H', ⟨Nat.le_refl _⟩, ⟨by repeat (first | exact HB.out | apply below_alloc | apply pw_below_drewN | apply below_drew1)⟩⟩
  case round =>
   clear H'
   obtain ⟨x3_1, x4_1, x5_1, rfl, rfl, rfl, HA, HK1, HB⟩ := hrel
   cases gk with
   | zero => exact absurd HA.out (by simp [pollardref02_Num.l0])
   | succ k1 =>
    have H := HA.out
    clear HA
    simp only [pollardref02_Num.l0] at H
    by_cases c3 : x3_1 < 10
    ·
     rw [if_pos c3] at H
     have c3b0 : decide (x3_1 < 10) = true := decide_eq_true c3
     clear c3
     (first | rw [c3b0] | (simp only [i64_w, i32_w]; rw [c3b0]) | skip)
     by_cases c4 : (IntKind.u64.wrap (a0 - x5_1)) ≥ x4_1
     ·
      rw [if_pos c4] at H
      have c4b0 : decide (x4_1 ≤ (IntKind.u64.wrap (a0 - x5_1))) = true := decide_eq_true c4
      clear c4
      have H' := Aside0.mk H
      clear H
      go_wp2
      go_roundg k1
      case measure => have := HK1.out; omega
      case rel => exact ⟨(wrap64 (x3_1 + 1)), (IntKind.u64.wrap (x4_1 * 128)), (IntKind.u64.wrap (x5_1 + x4_1)), (by first | rfl | (simp; done) | (simp [*]; done)), (by first | rfl | (simp; done) | (simp [*]; done)), (by first | rfl | (simp; done) | (simp [*]; done)), H', ⟨by have := HK1.out; omega⟩, ⟨by repeat (first | exact HB.out | apply below_alloc | apply pw_below_drewN | apply below_drew1)⟩⟩
     ·
      rw [if_neg c4] at H
      have c4b0 : decide (x4_1 ≤ (IntKind.u64.wrap (a0 - x5_1))) = false := decide_eq_false c4
      clear c4
      have H' := Aside0.mk H
      clear H
      go_wp2
      go_meet
      case rel => exact ⟨_, (x3_1), (x5_1), (by first | rfl | (simp; done) | (simp [*]; done)), (by first | rfl | (simp; done) | (simp [*]; done)), H', ⟨by have := HK1.out; first | omega | exact Nat.le_refl _⟩, ⟨by repeat (first | exact HB.out | apply below_alloc | apply pw_below_drewN | apply below_drew1)⟩⟩
    ·
     rw [if_neg c3] at H
     have c3b0 : decide (x3_1 < 10) = false := decide_eq_false c3
     clear c3
     (first | rw [c3b0] | (simp only [i64_w, i32_w]; rw [c3b0]) | skip)
     have H' := Aside0.mk H
     clear H
     go_wp2
     go_meet
     case rel => exact ⟨_, (x3_1), (x5_1), (by first | rfl | (simp; done) | (simp [*]; done)), (by first | rfl | (simp; done) | (simp [*]; done)), H', ⟨by have := HK1.out; first | omega | exact Nat.le_refl _⟩, ⟨by repeat (first | exact HB.out | apply below_alloc | apply pw_below_drewN | apply below_drew1)⟩⟩
 case rest =>
  clear HC2
  obtain ⟨kq, x3_1, x5_1, rfl, rfl, HA, HJ1, HB⟩ := hcut
  cases kq with
  | zero => exact absurd HA.out (by simp [pollardref02_Num.j1])
  | succ kj1 =>
   have H := HA.out
   clear HA
   simp only [pollardref02_Num.j1] at H
   have H' := Aside0.mk H
   clear H
   go_wp2
   go_loopg [0, 6, 7] kj1 (fun kq v0 v6 v7 w' => ∃ (x0_2 : Int) (x6_2 : ByteArray) (x7_2 : Int), v0 = .int .u64 x0_2 ∧ v6 = .string x6_2 ∧ v7 = .int .i64 x7_2 ∧ Aside0 (pollardref02_Num.l1 kq x0_2 x3_1 x6_2 x7_2 = some r) ∧ Aside0 (kq ≤ kj1) ∧ Aside0 (Below w.heap.size w w'))
   case atStart => exact ⟨(IntKind.u64.wrap (a0 - x5_1)), ((⟨#[]⟩ : ByteArray)), (0), (by first | rfl | (simp; done) | (simp [*]; done)), (by first | rfl | (simp; done) | (simp [*]; done)), (by first | rfl | (simp; done) | (simp [*]; done)), H', ⟨Nat.le_refl _⟩, ⟨by repeat (first | exact HB.out | apply below_alloc | apply pw_below_drewN | apply below_drew1)⟩⟩
   case round =>
    clear H'
    obtain ⟨x0_2, x6_2, x7_2, rfl, rfl, rfl, HA, HK2, HB⟩ := hrel
    cases gk with
    | zero => exact absurd HA.out (by simp [pollardref02_Num.l1])
    | succ k2 =>
     have H := HA.out
     clear HA
     simp only [pollardref02_Num.l1] at H
     by_cases c5 : x7_2 < x3_1
     ·
      rw [if_pos c5] at H
      have c5b0 : decide (x7_2 < x3_1) = true := decide_eq_true c5
      clear c5
      by_cases c6 : x7_2 > 0
      ·
       rw [if_pos c6] at H
       have c6b0 : decide (0 < x7_2) = true := decide_eq_true c6
       clear c6
       obtain ⟨y101, hy101⟩ : ∃ y_ : List Int, y_ = (([(((Int.tmod x0_2 128) % 256) + 128) % 256] : List Int)) := ⟨_, rfl⟩
       replace H : (if (strOfNums y101).size + x6_2.size ≤ 9223372036854775807 then (pollardref02_Num.l1 k2 (IntKind.u64.wrap (Int.tdiv x0_2 128)) x3_1 ((strOfNums y101) ++ x6_2) (wrap64 (x7_2 + 1))) else (none)) = some r := by first | (rw [hy101]; with_reducible exact H) | (have H2_ := (Option.bind_some _ _).symm.trans H; rw [hy101]; with_reducible exact H2_) | (have H2_ := (Option.bind_some _ _).symm.trans H; with_reducible exact H2_) | with_reducible exact H | (rw [hy101]; exact H) | exact H
       have Ny101 := Aside0.mk hy101
       clear hy101
       by_cases c7 : (strOfNums y101).size + x6_2.size ≤ 9223372036854775807
       ·
        rw [if_pos c7] at H
        have c7b0 := eq_true c7
        have c7b1 : decide ((strOfNums y101).size + x6_2.size ≤ 9223372036854775807) = true := decide_eq_true c7
        try have c7b2 : (9223372036854775807 < (strOfNums y101).size + x6_2.size) = False := eq_false (Nat.not_lt.2 c7)
        have H' := Aside0.mk H
        clear H
        go_wp2_with (first | ((with_reducible refine gate_dst (N := 41) rfl ?_); refine Kd.R_lit (Kd.int .u8) _ 5 ?hg (N := 41) ?hd (xs := ([(((Int.tmod x0_2 128) % 256) + 128) % 256] : List Int)) (inner := [.int .u8 ((((Int.tmod x0_2 128) % 256) + 128) % 256)]) (ok := fun _ => True) (okp := fun _ => True) ?hr ?hp (fun _ hk => hk) trivial (Below.refl _ _) (Nat.le_refl _) (by simp) ?_; (case hd => rfl); (case hg => rfl); (case hr => first | (go_simp; done) | (go_simp; rfl)); (case hp => exact (Reps.one (show Kd.M (Kd.int .u8) _ _ _ ((((Int.tmod x0_2 128) % 256) + 128) % 256) [.int .u8 ((((Int.tmod x0_2 128) % 256) + 128) % 256)] from rfl) (Reps.none _ _))); intro v102 w8 ho9 hb hg_ hnew_; clear hg_ hnew_; (first | rw [← Ny101.out] at ho9 | (simp only [Int.reduceToNat] at ho9; rw [← Ny101.out] at ho9)); have n0_ := Aside0.mk (Kd.R_lower ho9 (below_size (by repeat (first | exact HB.out | apply below_alloc | apply pw_below_drewN | apply below_drew1)))); have n1_ := Aside0.mk (below_step (by repeat (first | exact HB.out | apply below_alloc | apply pw_below_drewN | apply below_drew1)) hb); clear HB; have HO103 := n0_; have HB := n1_; clear n0_ n1_; clear hb ho9; have hcv10 := own_string (P := Tryz.prog) Tryz.underlying71 Tryz.underlying5 Tryz.underlying9 (Kd.own_of_R HO103.out)))
        go_roundg k2
        case measure => have := HJ1.out; have := HK2.out; omega
        case rel => exact ⟨(IntKind.u64.wrap (Int.tdiv x0_2 128)), ((strOfNums y101) ++ x6_2), (wrap64 (x7_2 + 1)), (by first | rfl | (simp; done) | (simp [*]; done)), (by first | rfl | (simp; done) | (simp [*]; done)), (by first | rfl | (simp; done) | (simp [*]; done)), H', ⟨by have := HJ1.out; have := HK2.out; omega⟩, ⟨by repeat (first | exact HB.out | apply below_alloc | apply pw_below_drewN | apply below_drew1)⟩⟩
       ·
        rw [if_neg c7] at H
        exact absurd H (by simp)
      ·
       rw [if_neg c6] at H
       have c6b0 : decide (0 < x7_2) = false := decide_eq_false c6
       clear c6
       obtain ⟨y104, hy104⟩ : ∃ y_ : List Int, y_ = (([(Int.tmod x0_2 128) % 256] : List Int)) := ⟨_, rfl⟩
       replace H : (if (strOfNums y104).size + x6_2.size ≤ 9223372036854775807 then (pollardref02_Num.l1 k2 (IntKind.u64.wrap (Int.tdiv x0_2 128)) x3_1 ((strOfNums y104) ++ x6_2) (wrap64 (x7_2 + 1))) else (none)) = some r := by first | (rw [hy104]; with_reducible exact H) | (have H2_ := (Option.bind_some _ _).symm.trans H; rw [hy104]; with_reducible exact H2_) | (have H2_ := (Option.bind_some _ _).symm.trans H; with_reducible exact H2_) | with_reducible exact H | (rw [hy104]; exact H) | exact H
       have Ny104 := Aside0.mk hy104
       clear hy104
       by_cases c11 : (strOfNums y104).size + x6_2.size ≤ 9223372036854775807
       ·
        rw [if_pos c11] at H
        have c11b0 := eq_true c11
        have c11b1 : decide ((strOfNums y104).size + x6_2.size ≤ 9223372036854775807) = true := decide_eq_true c11
        try have c11b2 : (9223372036854775807 < (strOfNums y104).size + x6_2.size) = False := eq_false (Nat.not_lt.2 c11)
        have H' := Aside0.mk H
        clear H
        go_wp2_with (first | ((with_reducible refine gate_dst (N := 41) rfl ?_); refine Kd.R_lit (Kd.int .u8) _ 5 ?hg (N := 41) ?hd (xs := ([(Int.tmod x0_2 128) % 256] : List Int)) (inner := [.int .u8 ((Int.tmod x0_2 128) % 256)]) (ok := fun _ => True) (okp := fun _ => True) ?hr ?hp (fun _ hk => hk) trivial (Below.refl _ _) (Nat.le_refl _) (by simp) ?_; (case hd => rfl); (case hg => rfl); (case hr => first | (go_simp; done) | (go_simp; rfl)); (case hp => exact (Reps.one (show Kd.M (Kd.int .u8) _ _ _ ((Int.tmod x0_2 128) % 256) [.int .u8 ((Int.tmod x0_2 128) % 256)] from rfl) (Reps.none _ _))); intro v105 w12 ho13 hb hg_ hnew_; clear hg_ hnew_; (first | rw [← Ny104.out] at ho13 | (simp only [Int.reduceToNat] at ho13; rw [← Ny104.out] at ho13)); have n0_ := Aside0.mk (Kd.R_lower ho13 (below_size (by repeat (first | exact HB.out | apply below_alloc | apply pw_below_drewN | apply below_drew1)))); have n1_ := Aside0.mk (below_step (by repeat (first | exact HB.out | apply below_alloc | apply pw_below_drewN | apply below_drew1)) hb); clear HB; have HO106 := n0_; have HB := n1_; clear n0_ n1_; clear hb ho13; have hcv14 := own_string (P := Tryz.prog) Tryz.underlying71 Tryz.underlying5 Tryz.underlying9 (Kd.own_of_R HO106.out)))
        go_roundg k2
        case measure => have := HJ1.out; have := HK2.out; omega
        case rel => exact ⟨(IntKind.u64.wrap (Int.tdiv x0_2 128)), ((strOfNums y104) ++ x6_2), (wrap64 (x7_2 + 1)), (by first | rfl | (simp; done) | (simp [*]; done)), (by first | rfl | (simp; done) | (simp [*]; done)), (by first | rfl | (simp; done) | (simp [*]; done)), H', ⟨by have := HJ1.out; have := HK2.out; omega⟩, ⟨by repeat (first | exact HB.out | apply below_alloc | apply pw_below_drewN | apply below_drew1)⟩⟩
       ·
        rw [if_neg c11] at H
        exact absurd H (by simp)
     ·
      rw [if_neg c5] at H
      have c5b0 : decide (x7_2 < x3_1) = false := decide_eq_false c5
      clear c5
      obtain rfl := Option.some.inj H
      go_wp2
      go_ret
      exact ⟨by first | rfl | (simp [errW_none, errW_some] <;> rfl) | (simp [*, errW_none, errW_some] <;> rfl), by repeat (first | exact HB.out | apply below_alloc | apply pw_below_drewN | apply below_drew1)⟩

/-! ### pollardref04_back: function 45 -/
mutual
def pollardref04_back.l0 : Nat → ByteArray → Int → Int → Option (Int)
 | 0, _, _, _ => none
 | k + 1, x0, x1, x5 => if x5 ≥ 0 then (pollardref04_back.j1 k x0 x1 x5 (decide ((wrap64 (x1 - x5)) ≤ 32768))) else (pollardref04_back.j1 k x0 x1 x5 false)
def pollardref04_back.j1 : Nat → ByteArray → Int → Int → Bool → Option (Int)
 | 0, _, _, _, _ => none
 | k + 1, x0, x1, x5, x20 => if x20 = true then (if 0 ≤ x5 then (if x5 ≤ (wrap64 (x5 + 4)) then (if (wrap64 (x5 + 4)) ≤ (x0.size : Int) then (if 0 ≤ x1 then (if x1 ≤ (wrap64 (x1 + 4)) then (if (wrap64 (x1 + 4)) ≤ (x0.size : Int) then (if (x0.extract (x5 : Int).toNat ((wrap64 (x5 + 4)) : Int).toNat).toList = (x0.extract (x1 : Int).toNat ((wrap64 (x1 + 4)) : Int).toNat).toList then (some (wrap64 (x1 - x5))) else (pollardref04_back.l0 k x0 x1 (wrap64 (x5 - 1)))) else (none)) else (none)) else (none)) else (none)) else (none)) else (none)) else (some 0)
end
def pollardref04_back.f (k : Nat) (a0 : ByteArray) (a1 : Int) : Option (Int) := if (wrap64 (a1 + 4)) > (a0.size : Int) then (some 0) else (pollardref04_back.l0 k a0 a1 (wrap64 (a1 - 1)))
set_option maxHeartbeats 8000000 in
set_option maxRecDepth 100000 in
theorem pollardref04_back.calls (k : Nat) (a0 : ByteArray) (a1 : Int) (r : Int) (w : World) (h : pollardref04_back.f k a0 a1 = some r) :
  Calls Tryz.prog 45 #[.string a0, .int .i64 a1] w fun e w' => e = .returned (.int .i64 r) ∧ Drawn0 w w' := by
 have H : (if (wrap64 (a1 + 4)) > (a0.size : Int) then (some 0) else (pollardref04_back.l0 k a0 a1 (wrap64 (a1 - 1)))) = some r := h
 clear h
 by_cases c3 : (wrap64 (a1 + 4)) > (a0.size : Int)
 ·
  rw [if_pos c3] at H
  have c3b0 : decide ((a0.size : Int) < (wrap64 (a1 + 4))) = true := decide_eq_true c3
  clear c3
  obtain rfl := Option.some.inj H
  go_enter Tryz.func45, Tryz.ntmps45
  go_wp2
  repeat (go_quiet (fail); try go_wp2)
  go_ret
  exact ⟨by first | rfl | (simp; done) | (simp [*]; done), by repeat (first | exact Drawn0.refl _ | apply Drawn0.step)⟩
 ·
  rw [if_neg c3] at H
  have c3b0 : decide ((a0.size : Int) < (wrap64 (a1 + 4))) = false := decide_eq_false c3
  clear c3
  have H' := Aside0.mk H
  clear H
  go_enter Tryz.func45, Tryz.ntmps45
  go_wp2
  repeat (go_quiet (fail); try go_wp2)
  go_loopg [5] k (fun kq v5 w' => ∃ (x5_1 : Int), v5 = .int .i64 x5_1 ∧ Aside0 (pollardref04_back.l0 kq a0 a1 x5_1 = some r) ∧ Aside0 (kq ≤ k) ∧ Drawn0 w w')
  case atStart => exact ⟨(wrap64 (a1 - 1)), (by first | rfl | (simp; done) | (simp [*]; done)), H', ⟨Nat.le_refl _⟩, by repeat (first | exact Drawn0.refl _ | apply Drawn0.step)⟩
  case round =>
   clear H'
   obtain ⟨x5_1, rfl, HA, HK1, ⟨m1, rfl⟩⟩ := hrel
   cases gk with
   | zero => exact absurd HA.out (by simp [pollardref04_back.l0])
   | succ k1 =>
    have H := HA.out
    clear HA
    simp only [pollardref04_back.l0] at H
    have HC4 := Aside0.mk H
    clear H
    go_upto_region 4 with (fail)
    repeat (go_quiet (fail); go_upto_region 4 with (fail))
    go_cut [20] (fun v20 wc => ∃ (kq : Nat) (x20_3 : Bool), v20 = .bool x20_3 ∧ Aside0 (pollardref04_back.j1 kq a0 a1 x5_1 x20_3 = some r) ∧ Aside0 (kq ≤ k1) ∧ Drawn0 w wc)
    case first =>
     have H := HC4.out
     clear HC4
     by_cases c5 : x5_1 ≥ 0
     ·
      rw [if_pos c5] at H
      have c5b0 : decide (0 ≤ x5_1) = true := decide_eq_true c5
      clear c5
      (first | rw [c5b0] | (simp only [i64_w, i32_w]; rw [c5b0]) | skip)
      have H' := Aside0.mk H
      clear H
      go_wp2
      repeat (go_quiet (fail); try go_wp2)
      go_meet
      case rel => exact ⟨_, (decide ((wrap64 (a1 - x5_1)) ≤ 32768)), (by first | rfl | (simp; done) | (simp [*]; done)), H', ⟨by have := HK1.out; first | omega | exact Nat.le_refl _⟩, by repeat (first | exact Drawn0.refl _ | apply Drawn0.step)⟩
     ·
      rw [if_neg c5] at H
      have c5b0 : decide (0 ≤ x5_1) = false := decide_eq_false c5
      clear c5
      (first | rw [c5b0] | (simp only [i64_w, i32_w]; rw [c5b0]) | skip)
      have H' := Aside0.mk H
      clear H
      go_wp2
      repeat (go_quiet (fail); try go_wp2)
      go_meet
      case rel => exact ⟨_, (false), (by first | rfl | (simp; done) | (simp [*]; done)), H', ⟨by have := HK1.out; first | omega | exact Nat.le_refl _⟩, by repeat (first | exact Drawn0.refl _ | apply Drawn0.step)⟩
    case rest =>
     clear HC4
     obtain ⟨kq, x20_3, rfl, HA, HJ3, ⟨mc3, rfl⟩⟩ := hcut
     cases kq with
     | zero => exact absurd HA.out (by simp [pollardref04_back.j1])
     | succ kj3 =>
      have H := HA.out
      clear HA
      simp only [pollardref04_back.j1] at H
      by_cases c6 : x20_3 = true
      ·
       subst c6
       have H1 : (if 0 ≤ x5_1 then (if x5_1 ≤ (wrap64 (x5_1 + 4)) then (if (wrap64 (x5_1 + 4)) ≤ (a0.size : Int) then (if 0 ≤ a1 then (if a1 ≤ (wrap64 (a1 + 4)) then (if (wrap64 (a1 + 4)) ≤ (a0.size : Int) then (if (a0.extract (x5_1 : Int).toNat ((wrap64 (x5_1 + 4)) : Int).toNat).toList = (a0.extract (a1 : Int).toNat ((wrap64 (a1 + 4)) : Int).toNat).toList then (some (wrap64 (a1 - x5_1))) else (pollardref04_back.l0 kj3 a0 a1 (wrap64 (x5_1 - 1)))) else (none)) else (none)) else (none)) else (none)) else (none)) else (none)) = some r := by rw [if_pos rfl] at H; exact H
       clear H
       have H := H1
       clear H1
       by_cases c7 : 0 ≤ x5_1
       ·
        rw [if_pos c7] at H
        have c7b0 := eq_true c7
        have c7b1 : decide (0 ≤ x5_1) = true := decide_eq_true c7
        clear c7
        by_cases c8 : x5_1 ≤ (wrap64 (x5_1 + 4))
        ·
         rw [if_pos c8] at H
         have c8b0 := eq_true c8
         have c8b1 : decide (x5_1 ≤ (wrap64 (x5_1 + 4))) = true := decide_eq_true c8
         by_cases c9 : (wrap64 (x5_1 + 4)) ≤ (a0.size : Int)
         ·
          rw [if_pos c9] at H
          have c9b0 := eq_true c9
          have c9b1 : decide ((wrap64 (x5_1 + 4)) ≤ (a0.size : Int)) = true := decide_eq_true c9
          by_cases c10 : 0 ≤ a1
          ·
           rw [if_pos c10] at H
           have c10b0 := eq_true c10
           have c10b1 : decide (0 ≤ a1) = true := decide_eq_true c10
           clear c10
           by_cases c11 : a1 ≤ (wrap64 (a1 + 4))
           ·
            rw [if_pos c11] at H
            have c11b0 := eq_true c11
            have c11b1 : decide (a1 ≤ (wrap64 (a1 + 4))) = true := decide_eq_true c11
            by_cases c12 : (wrap64 (a1 + 4)) ≤ (a0.size : Int)
            ·
             rw [if_pos c12] at H
             have c12b0 := eq_true c12
             have c12b1 : decide ((wrap64 (a1 + 4)) ≤ (a0.size : Int)) = true := decide_eq_true c12
             by_cases c13 : (a0.extract (x5_1 : Int).toNat ((wrap64 (x5_1 + 4)) : Int).toNat).toList = (a0.extract (a1 : Int).toNat ((wrap64 (a1 + 4)) : Int).toNat).toList
             ·
              rw [if_pos c13] at H
              have c13b0 : ((a0.extract (x5_1 : Int).toNat ((wrap64 (x5_1 + 4)) : Int).toNat).toList == (a0.extract (a1 : Int).toNat ((wrap64 (a1 + 4)) : Int).toNat).toList) = true := beq_iff_eq.mpr c13
              have c13b1 : ((a0.extract (x5_1 : Int).toNat ((wrap64 (x5_1 + 4)) : Int).toNat).toList != (a0.extract (a1 : Int).toNat ((wrap64 (a1 + 4)) : Int).toNat).toList) = false := bne_eq_false_iff_eq.mpr c13
              clear c13
              obtain rfl := Option.some.inj H
              go_wp2
              repeat (go_quiet (fail); try go_wp2)
              go_ret
              exact ⟨by first | rfl | (simp; done) | (simp [*]; done), by repeat (first | exact Drawn0.refl _ | apply Drawn0.step)⟩
             ·
              rw [if_neg c13] at H
              have c13b0 : ((a0.extract (x5_1 : Int).toNat ((wrap64 (x5_1 + 4)) : Int).toNat).toList == (a0.extract (a1 : Int).toNat ((wrap64 (a1 + 4)) : Int).toNat).toList) = false := beq_eq_false_iff_ne.mpr c13
              have c13b1 : ((a0.extract (x5_1 : Int).toNat ((wrap64 (x5_1 + 4)) : Int).toNat).toList != (a0.extract (a1 : Int).toNat ((wrap64 (a1 + 4)) : Int).toNat).toList) = true := bne_iff_ne.mpr c13
              have H' := Aside0.mk H
              clear H
              go_wp2
              repeat (go_quiet (fail); try go_wp2)
              go_roundg kj3
              case measure => have := HK1.out; have := HJ3.out; omega
              case rel => exact ⟨(wrap64 (x5_1 - 1)), (by first | rfl | (simp; done) | (simp [*]; done)), H', ⟨by have := HK1.out; have := HJ3.out; omega⟩, by repeat (first | exact Drawn0.refl _ | apply Drawn0.step)⟩
            ·
             rw [if_neg c12] at H
             exact absurd H (by simp)
           ·
            rw [if_neg c11] at H
            exact absurd H (by simp)
          ·
           rw [if_neg c10] at H
           exact absurd H (by simp)
         ·
          rw [if_neg c9] at H
          exact absurd H (by simp)
        ·
         rw [if_neg c8] at H
         exact absurd H (by simp)
       ·
        rw [if_neg c7] at H
        exact absurd H (by simp)
      ·
       replace c6 := Bool.eq_false_iff.mpr c6
       subst c6
       have H1 : (some 0) = some r := by rw [if_neg (show ¬ (false = true) by decide)] at H; exact H
       clear H
       have H := H1
       clear H1
       obtain rfl := Option.some.inj H
       go_wp2
       repeat (go_quiet (fail); try go_wp2)
       go_ret
       exact ⟨by first | rfl | (simp; done) | (simp [*]; done), by repeat (first | exact Drawn0.refl _ | apply Drawn0.step)⟩

/-! ### pollardref04_Press: function 17 -/
mutual
def pollardref04_Press.l0 : Nat → ByteArray → ByteArray → ByteArray → Int → Option (ByteArray)
 | 0, _, _, _, _ => none
 | k + 1, x0, x3, x4, x5 => if x5 < (x0.size : Int) then ((pollardref04_back.f k x0 x5).bind fun t109 => (if t109 = 0 then (if 0 ≤ x5 then (if x5 ≤ (wrap64 (x5 + 1)) then (if (wrap64 (x5 + 1)) ≤ (x0.size : Int) then (if x4.size + (x0.extract (x5 : Int).toNat ((wrap64 (x5 + 1)) : Int).toNat).size ≤ 9223372036854775807 then (pollardref04_Press.l0 k x0 x3 (x4 ++ (x0.extract (x5 : Int).toNat ((wrap64 (x5 + 1)) : Int).toNat)) (wrap64 (x5 + 1))) else (none)) else (none)) else (none)) else (none)) else (pollardref04_Press.l1 k x0 x3 x4 x5 t109 4))) else (if x4.toList = ([] : List UInt8) then (some x3) else ((pollardref02_Num.f k (IntKind.u64.wrap ((x4.size : Int)))).bind fun t108 => (if t108.size + x4.size ≤ 9223372036854775807 then (if x3.size + (t108 ++ x4).size ≤ 9223372036854775807 then (some (x3 ++ (t108 ++ x4))) else (none)) else (none))))
def pollardref04_Press.l1 : Nat → ByteArray → ByteArray → ByteArray → Int → Int → Int → Option (ByteArray)
 | 0, _, _, _, _, _, _ => none
 | k + 1, x0, x3, x4, x5, x6, x7 => if (wrap64 (x5 + x7)) < (x0.size : Int) then (if 0 ≤ (wrap64 (x5 + x7)) then (if 0 ≤ (wrap64 ((wrap64 (x5 + x7)) - x6)) then (if (wrap64 ((wrap64 (x5 + x7)) - x6)) < (x0.size : Int) then (if (bt x0 (wrap64 (x5 + x7))) = (bt x0 (wrap64 ((wrap64 (x5 + x7)) - x6))) then (pollardref04_Press.l1 k x0 x3 x4 x5 x6 (wrap64 (x7 + 1))) else ((pollardref02_Num.f k (IntKind.u64.wrap ((x4.size : Int)))).bind fun t110 => (if t110.size + x4.size ≤ 9223372036854775807 then ((pollardref02_Num.f k (IntKind.u64.wrap (x6))).bind fun t111 => (if (t110 ++ x4).size + t111.size ≤ 9223372036854775807 then ((pollardref02_Num.f k (IntKind.u64.wrap (wrap64 (x7 - 4)))).bind fun t112 => (if ((t110 ++ x4) ++ t111).size + t112.size ≤ 9223372036854775807 then (if x3.size + (((t110 ++ x4) ++ t111) ++ t112).size ≤ 9223372036854775807 then (pollardref04_Press.l0 k x0 (x3 ++ (((t110 ++ x4) ++ t111) ++ t112)) (⟨#[]⟩ : ByteArray) (wrap64 (x5 + x7))) else (none)) else (none))) else (none))) else (none)))) else (none)) else (none)) else (none)) else ((pollardref02_Num.f k (IntKind.u64.wrap ((x4.size : Int)))).bind fun t113 => (if t113.size + x4.size ≤ 9223372036854775807 then ((pollardref02_Num.f k (IntKind.u64.wrap (x6))).bind fun t114 => (if (t113 ++ x4).size + t114.size ≤ 9223372036854775807 then ((pollardref02_Num.f k (IntKind.u64.wrap (wrap64 (x7 - 4)))).bind fun t115 => (if ((t113 ++ x4) ++ t114).size + t115.size ≤ 9223372036854775807 then (if x3.size + (((t113 ++ x4) ++ t114) ++ t115).size ≤ 9223372036854775807 then (pollardref04_Press.l0 k x0 (x3 ++ (((t113 ++ x4) ++ t114) ++ t115)) (⟨#[]⟩ : ByteArray) (wrap64 (x5 + x7))) else (none)) else (none))) else (none))) else (none)))
end
def pollardref04_Press.f (k : Nat) (a0 : ByteArray) : Option (ByteArray) := (pollardref02_Num.f k (IntKind.u64.wrap ((a0.size : Int)))).bind fun t107 => (pollardref04_Press.l0 k a0 t107 (⟨#[]⟩ : ByteArray) 0)
set_option maxHeartbeats 8000000 in
set_option maxRecDepth 100000 in
theorem pollardref04_Press.calls (k : Nat) (a0 : ByteArray) (r : ByteArray) (w : World) (h : pollardref04_Press.f k a0 = some r) :
  Calls Tryz.prog 17 #[.string a0] w fun e w' => e = .returned (.string r) ∧ Below w.heap.size w w' := by
 have HB := Aside0.mk (Below.refl w.heap.size w)
 have H : ((pollardref02_Num.f k (IntKind.u64.wrap ((a0.size : Int)))).bind fun t107 => (pollardref04_Press.l0 k a0 t107 (⟨#[]⟩ : ByteArray) 0)) = some r := h
 clear h
 replace H := Option.bind_eq_some_iff.mp H
 obtain ⟨t107, A20, H⟩ := H
 replace H : (pollardref04_Press.l0 k a0 t107 (⟨#[]⟩ : ByteArray) 0) = some r := H
 have A2 := Aside0.mk A20
 clear A20
 have H' := Aside0.mk H
 clear H
 go_enter Tryz.func17, Tryz.ntmps17
 go_wp2_with (first | (go_at_call 44; (with_reducible refine (pollardref02_Num.calls k (IntKind.u64.wrap ((a0.size : Int))) t107 _ A2.out).mono ?_); rintro e w3 ⟨rfl, hb⟩; have n0_ := Aside0.mk (below_step (by repeat (first | exact HB.out | apply below_alloc | apply pw_below_drewN | apply below_drew1)) hb); clear HB; have HB := n0_; clear n0_; (try clear hb); (try clear hb2); (try clear hk); (try clear hi)) | (go_at_call 44; (with_reducible refine (pollardref02_Num.calls k ((a0.size : Int)) t107 _ (by have h_ := A2.out; rwa [wrapU (x := (a0.size : Int)) (by omega) (by omega)] at h_)).mono ?_); rintro e w3 ⟨rfl, hb⟩; have n0_ := Aside0.mk (below_step (by repeat (first | exact HB.out | apply below_alloc | apply pw_below_drewN | apply below_drew1)) hb); clear HB; have HB := n0_; clear n0_; (try clear hb); (try clear hb2); (try clear hk); (try clear hi)))
 repeat (go_quiet (first | (go_at_call 44; (with_reducible refine (pollardref02_Num.calls k (IntKind.u64.wrap ((a0.size : Int))) t107 _ A2.out).mono ?_); rintro e w3 ⟨rfl, hb⟩; have n0_ := Aside0.mk (below_step (by repeat (first | exact HB.out | apply below_alloc | apply pw_below_drewN | apply below_drew1)) hb); clear HB; have HB := n0_; clear n0_; (try clear hb); (try clear hb2); (try clear hk); (try clear hi)) | (go_at_call 44; (with_reducible refine (pollardref02_Num.calls k ((a0.size : Int)) t107 _ (by have h_ := A2.out; rwa [wrapU (x := (a0.size : Int)) (by omega) (by omega)] at h_)).mono ?_); rintro e w3 ⟨rfl, hb⟩; have n0_ := Aside0.mk (below_step (by repeat (first | exact HB.out | apply below_alloc | apply pw_below_drewN | apply below_drew1)) hb); clear HB; have HB := n0_; clear n0_; (try clear hb); (try clear hb2); (try clear hk); (try clear hi))); try go_wp2_with (first | (go_at_call 44; (with_reducible refine (pollardref02_Num.calls k (IntKind.u64.wrap ((a0.size : Int))) t107 _ A2.out).mono ?_); rintro e w3 ⟨rfl, hb⟩; have n0_ := Aside0.mk (below_step (by repeat (first | exact HB.out | apply below_alloc | apply pw_below_drewN | apply below_drew1)) hb); clear HB; have HB := n0_; clear n0_; (try clear hb); (try clear hb2); (try clear hk); (try clear hi)) | (go_at_call 44; (with_reducible refine (pollardref02_Num.calls k ((a0.size : Int)) t107 _ (by have h_ := A2.out; rwa [wrapU (x := (a0.size : Int)) (by omega) (by omega)] at h_)).mono ?_); rintro e w3 ⟨rfl, hb⟩; have n0_ := Aside0.mk (below_step (by repeat (first | exact HB.out | apply below_alloc | apply pw_below_drewN | apply below_drew1)) hb); clear HB; have HB := n0_; clear n0_; (try clear hb); (try clear hb2); (try clear hk); (try clear hi))))
 go_loopg [3, 4, 5] k (fun kq v3 v4 v5 w' => ∃ (x3_1 : ByteArray) (x4_1 : ByteArray) (x5_1 : Int), v3 = .string x3_1 ∧ v4 = .string x4_1 ∧ v5 = .int .i64 x5_1 ∧ Aside0 (pollardref04_Press.l0 kq a0 x3_1 x4_1 x5_1 = some r) ∧ Aside0 (kq ≤ k) ∧ Aside0 (Below w.heap.size w w'))
 case atStart => exact ⟨(t107), ((⟨#[]⟩ : ByteArray)), (0), (by first | rfl | (simp; done) | (simp [*]; done)), (by first | rfl | (simp; done) | (simp [*]; done)), (by first | rfl | (simp; done) | (simp [*]; done)), H', ⟨Nat.le_refl _⟩, ⟨by repeat (first | exact HB.out | apply below_alloc | apply pw_below_drewN | apply below_drew1)⟩⟩
 case round =>
  clear H'
  obtain ⟨x3_1, x4_1, x5_1, rfl, rfl, rfl, HA, HK1, HB⟩ := hrel
  cases gk with
  | zero => exact absurd HA.out (by simp [pollardref04_Press.l0])
  | succ k1 =>
   have H := HA.out
   clear HA
   simp only [pollardref04_Press.l0] at H
   by_cases c4 : x5_1 < (a0.size : Int)
   ·
    rw [if_pos c4] at H
    have c4b0 : decide (x5_1 < (a0.size : Int)) = true := decide_eq_true c4
    clear c4
    replace H := Option.bind_eq_some_iff.mp H
    obtain ⟨t109, A50, H⟩ := H
    replace H : (if t109 = 0 then (if 0 ≤ x5_1 then (if x5_1 ≤ (wrap64 (x5_1 + 1)) then (if (wrap64 (x5_1 + 1)) ≤ (a0.size : Int) then (if x4_1.size + (a0.extract (x5_1 : Int).toNat ((wrap64 (x5_1 + 1)) : Int).toNat).size ≤ 9223372036854775807 then (pollardref04_Press.l0 k1 a0 x3_1 (x4_1 ++ (a0.extract (x5_1 : Int).toNat ((wrap64 (x5_1 + 1)) : Int).toNat)) (wrap64 (x5_1 + 1))) else (none)) else (none)) else (none)) else (none)) else (pollardref04_Press.l1 k1 a0 x3_1 x4_1 x5_1 t109 4)) = some r := H
    have A5 := Aside0.mk A50
    clear A50
    by_cases c6 : t109 = 0
    ·
     rw [if_pos c6] at H
     have c6b0 : (t109 == 0) = true := beq_iff_eq.mpr c6
     have c6b1 : (t109 != 0) = false := bne_eq_false_iff_eq.mpr c6
     clear c6
     by_cases c7 : 0 ≤ x5_1
     ·
      rw [if_pos c7] at H
      have c7b0 := eq_true c7
      have c7b1 : decide (0 ≤ x5_1) = true := decide_eq_true c7
      clear c7
      by_cases c8 : x5_1 ≤ (wrap64 (x5_1 + 1))
      ·
       rw [if_pos c8] at H
       have c8b0 := eq_true c8
       have c8b1 : decide (x5_1 ≤ (wrap64 (x5_1 + 1))) = true := decide_eq_true c8
       by_cases c9 : (wrap64 (x5_1 + 1)) ≤ (a0.size : Int)
       ·
        rw [if_pos c9] at H
        have c9b0 := eq_true c9
        have c9b1 : decide ((wrap64 (x5_1 + 1)) ≤ (a0.size : Int)) = true := decide_eq_true c9
        by_cases c10 : x4_1.size + (a0.extract (x5_1 : Int).toNat ((wrap64 (x5_1 + 1)) : Int).toNat).size ≤ 9223372036854775807
        ·
         rw [if_pos c10] at H
         have c10b0 := eq_true c10
         have c10b1 : decide (x4_1.size + (a0.extract (x5_1 : Int).toNat ((wrap64 (x5_1 + 1)) : Int).toNat).size ≤ 9223372036854775807) = true := decide_eq_true c10
         try have c10b2 : (9223372036854775807 < x4_1.size + (a0.extract (x5_1 : Int).toNat ((wrap64 (x5_1 + 1)) : Int).toNat).size) = False := eq_false (Nat.not_lt.2 c10)
         have H' := Aside0.mk H
         clear H
         go_wp2_with (first | (go_at_call 45; (with_reducible refine (pollardref04_back.calls k1 a0 x5_1 t109 _ A5.out).mono ?_); rintro e w' ⟨rfl, ⟨nd, rfl⟩⟩; (try first | exact ⟨rfl, _, World.drewN_drewN _ _ _⟩ | exact ⟨rfl, _, Eq.trans (World.drewN_drewN _ _ _) (congrArg (World.drewN _) (Nat.add_assoc _ _ _))⟩)))
         repeat (go_quiet (first | (go_at_call 45; (with_reducible refine (pollardref04_back.calls k1 a0 x5_1 t109 _ A5.out).mono ?_); rintro e w' ⟨rfl, ⟨nd, rfl⟩⟩; (try first | exact ⟨rfl, _, World.drewN_drewN _ _ _⟩ | exact ⟨rfl, _, Eq.trans (World.drewN_drewN _ _ _) (congrArg (World.drewN _) (Nat.add_assoc _ _ _))⟩))); try go_wp2_with (first | (go_at_call 45; (with_reducible refine (pollardref04_back.calls k1 a0 x5_1 t109 _ A5.out).mono ?_); rintro e w' ⟨rfl, ⟨nd, rfl⟩⟩; (try first | exact ⟨rfl, _, World.drewN_drewN _ _ _⟩ | exact ⟨rfl, _, Eq.trans (World.drewN_drewN _ _ _) (congrArg (World.drewN _) (Nat.add_assoc _ _ _))⟩))))
         go_roundg k1
         case measure => have := HK1.out; omega
         case rel => exact ⟨(x3_1), (x4_1 ++ (a0.extract (x5_1 : Int).toNat ((wrap64 (x5_1 + 1)) : Int).toNat)), (wrap64 (x5_1 + 1)), (by first | rfl | (simp; done) | (simp [*]; done)), (by first | rfl | (simp; done) | (simp [*]; done)), (by first | rfl | (simp; done) | (simp [*]; done)), H', ⟨by have := HK1.out; omega⟩, ⟨by repeat (first | exact HB.out | apply below_alloc | apply pw_below_drewN | apply below_drew1)⟩⟩
        ·
         rw [if_neg c10] at H
         exact absurd H (by simp)
       ·
        rw [if_neg c9] at H
        exact absurd H (by simp)
      ·
       rw [if_neg c8] at H
       exact absurd H (by simp)
     ·
      rw [if_neg c7] at H
      exact absurd H (by simp)
    ·
     rw [if_neg c6] at H
     have c6b0 : (t109 == 0) = false := beq_eq_false_iff_ne.mpr c6
     have c6b1 : (t109 != 0) = true := bne_iff_ne.mpr c6
     have H' := Aside0.mk H
     clear H
     go_wp2_with (first | (go_at_call 45; (with_reducible refine (pollardref04_back.calls k1 a0 x5_1 t109 _ A5.out).mono ?_); rintro e w' ⟨rfl, ⟨nd, rfl⟩⟩; (try first | exact ⟨rfl, _, World.drewN_drewN _ _ _⟩ | exact ⟨rfl, _, Eq.trans (World.drewN_drewN _ _ _) (congrArg (World.drewN _) (Nat.add_assoc _ _ _))⟩)))
     repeat (go_quiet (first | (go_at_call 45; (with_reducible refine (pollardref04_back.calls k1 a0 x5_1 t109 _ A5.out).mono ?_); rintro e w' ⟨rfl, ⟨nd, rfl⟩⟩; (try first | exact ⟨rfl, _, World.drewN_drewN _ _ _⟩ | exact ⟨rfl, _, Eq.trans (World.drewN_drewN _ _ _) (congrArg (World.drewN _) (Nat.add_assoc _ _ _))⟩))); try go_wp2_with (first | (go_at_call 45; (with_reducible refine (pollardref04_back.calls k1 a0 x5_1 t109 _ A5.out).mono ?_); rintro e w' ⟨rfl, ⟨nd, rfl⟩⟩; (try first | exact ⟨rfl, _, World.drewN_drewN _ _ _⟩ | exact ⟨rfl, _, Eq.trans (World.drewN_drewN _ _ _) (congrArg (World.drewN _) (Nat.add_assoc _ _ _))⟩))))
     go_loopg [7] k1 (fun kq v7 w' => ∃ (x7_2 : Int), v7 = .int .i64 x7_2 ∧ Aside0 (pollardref04_Press.l1 kq a0 x3_1 x4_1 x5_1 t109 x7_2 = some r) ∧ Aside0 (kq ≤ k1) ∧ Aside0 (Below w.heap.size w w'))
     case atStart => exact ⟨(4), (by first | rfl | (simp; done) | (simp [*]; done)), H', ⟨Nat.le_refl _⟩, ⟨by repeat (first | exact HB.out | apply below_alloc | apply pw_below_drewN | apply below_drew1)⟩⟩
     case round =>
      clear H'
      obtain ⟨x7_2, rfl, HA, HK2, HB⟩ := hrel
      cases gk with
      | zero => exact absurd HA.out (by simp [pollardref04_Press.l1])
      | succ k2 =>
       have H := HA.out
       clear HA
       simp only [pollardref04_Press.l1] at H
       by_cases c11 : (wrap64 (x5_1 + x7_2)) < (a0.size : Int)
       ·
        rw [if_pos c11] at H
        have c11b0 : decide ((wrap64 (x5_1 + x7_2)) < (a0.size : Int)) = true := decide_eq_true c11
        clear c11
        obtain ⟨ji12, hji12⟩ : ∃ j_ : Int, (wrap64 (x5_1 + x7_2)) = j_ := ⟨_, rfl⟩
        replace H : (if 0 ≤ (ji12) then (if 0 ≤ (wrap64 ((ji12) - t109)) then (if (wrap64 ((ji12) - t109)) < (a0.size : Int) then (if (bt a0 (ji12)) = (bt a0 (wrap64 ((ji12) - t109))) then (pollardref04_Press.l1 k2 a0 x3_1 x4_1 x5_1 t109 (wrap64 (x7_2 + 1))) else ((pollardref02_Num.f k2 (IntKind.u64.wrap ((x4_1.size : Int)))).bind fun t110 => (if t110.size + x4_1.size ≤ 9223372036854775807 then ((pollardref02_Num.f k2 (IntKind.u64.wrap (t109))).bind fun t111 => (if (t110 ++ x4_1).size + t111.size ≤ 9223372036854775807 then ((pollardref02_Num.f k2 (IntKind.u64.wrap (wrap64 (x7_2 - 4)))).bind fun t112 => (if ((t110 ++ x4_1) ++ t111).size + t112.size ≤ 9223372036854775807 then (if x3_1.size + (((t110 ++ x4_1) ++ t111) ++ t112).size ≤ 9223372036854775807 then (pollardref04_Press.l0 k2 a0 (x3_1 ++ (((t110 ++ x4_1) ++ t111) ++ t112)) (⟨#[]⟩ : ByteArray) ji12) else (none)) else (none))) else (none))) else (none)))) else (none)) else (none)) else (none)) = some r := by first | (rw [hji12] at H; exact H) | (simp only [hji12] at H ⊢; exact H)
        (try rw [hji12] at c11b0)
        have hji12w : (IntKind.i64.wrap (x5_1 + x7_2)) = ji12 := (i64_w _).trans hji12
        by_cases c13 : 0 ≤ (ji12)
        ·
         rw [if_pos c13] at H
         have c13b0 : decide (0 ≤ (ji12)) = true := decide_eq_true c13
         clear c13
         obtain ⟨ji15, hji15⟩ : ∃ j_ : Int, (wrap64 ((ji12) - t109)) = j_ := ⟨_, rfl⟩
         replace H : (if 0 ≤ (ji15) then (if (ji15) < (a0.size : Int) then (if (bt a0 (ji12)) = (bt a0 (ji15)) then (pollardref04_Press.l1 k2 a0 x3_1 x4_1 x5_1 t109 (wrap64 (x7_2 + 1))) else ((pollardref02_Num.f k2 (IntKind.u64.wrap ((x4_1.size : Int)))).bind fun t110 => (if t110.size + x4_1.size ≤ 9223372036854775807 then ((pollardref02_Num.f k2 (IntKind.u64.wrap (t109))).bind fun t111 => (if (t110 ++ x4_1).size + t111.size ≤ 9223372036854775807 then ((pollardref02_Num.f k2 (IntKind.u64.wrap (wrap64 (x7_2 - 4)))).bind fun t112 => (if ((t110 ++ x4_1) ++ t111).size + t112.size ≤ 9223372036854775807 then (if x3_1.size + (((t110 ++ x4_1) ++ t111) ++ t112).size ≤ 9223372036854775807 then (pollardref04_Press.l0 k2 a0 (x3_1 ++ (((t110 ++ x4_1) ++ t111) ++ t112)) (⟨#[]⟩ : ByteArray) ji12) else (none)) else (none))) else (none))) else (none)))) else (none)) else (none)) = some r := by first | (rw [hji15] at H; exact H) | (simp only [hji15] at H ⊢; exact H)
         have hji15w : (IntKind.i64.wrap ((ji12) - t109)) = ji15 := (i64_w _).trans hji15
         by_cases c16 : 0 ≤ (ji15)
         ·
          rw [if_pos c16] at H
          have c16b0 : decide (0 ≤ (ji15)) = true := decide_eq_true c16
          clear c16
          by_cases c17 : (ji15) < (a0.size : Int)
          ·
           rw [if_pos c17] at H
           have c17b0 : decide ((ji15) < (a0.size : Int)) = true := decide_eq_true c17
           clear c17
           by_cases c19 : (bt a0 (ji12)) = (bt a0 (ji15))
           ·
            rw [if_pos c19] at H
            have c19b0 : ((bt a0 (ji12)) == (bt a0 (ji15))) = true := beq_iff_eq.mpr c19
            have c19b1 : ((bt a0 (ji12)) != (bt a0 (ji15))) = false := bne_eq_false_iff_eq.mpr c19
            clear c19
            have H' := Aside0.mk H
            clear H
            have p14 : 0 ≤ ((ji12) : Int) := of_decide_eq_true (by first | (with_reducible assumption) | assumption)
            have q14 : (ji12) < (a0.size : Int) := of_decide_eq_true (by first | (with_reducible assumption) | assumption)
            have hx14 := bt_at a0 (ji12)
            replace p14 := eq_true p14
            replace q14 := eq_true q14
            have p18 : 0 ≤ ((ji15) : Int) := of_decide_eq_true (by first | (with_reducible assumption) | assumption)
            have q18 : (ji15) < (a0.size : Int) := of_decide_eq_true (by first | (with_reducible assumption) | assumption)
            have hx18 := bt_at a0 (ji15)
            replace p18 := eq_true p18
            replace q18 := eq_true q18
            go_wp2
            repeat (go_quiet (fail); try go_wp2)
            go_roundg k2
            case measure => have := HK1.out; have := HK2.out; omega
            case rel => exact ⟨(wrap64 (x7_2 + 1)), (by first | rfl | (simp; done) | (simp [*]; done)), H', ⟨by have := HK1.out; have := HK2.out; omega⟩, ⟨by repeat (first | exact HB.out | apply below_alloc | apply pw_below_drewN | apply below_drew1)⟩⟩
           ·
            rw [if_neg c19] at H
            have c19b0 : ((bt a0 (ji12)) == (bt a0 (ji15))) = false := beq_eq_false_iff_ne.mpr c19
            have c19b1 : ((bt a0 (ji12)) != (bt a0 (ji15))) = true := bne_iff_ne.mpr c19
            replace H := Option.bind_eq_some_iff.mp H
            obtain ⟨t110, A200, H⟩ := H
            replace H : (if t110.size + x4_1.size ≤ 9223372036854775807 then ((pollardref02_Num.f k2 (IntKind.u64.wrap (t109))).bind fun t111 => (if (t110 ++ x4_1).size + t111.size ≤ 9223372036854775807 then ((pollardref02_Num.f k2 (IntKind.u64.wrap (wrap64 (x7_2 - 4)))).bind fun t112 => (if ((t110 ++ x4_1) ++ t111).size + t112.size ≤ 9223372036854775807 then (if x3_1.size + (((t110 ++ x4_1) ++ t111) ++ t112).size ≤ 9223372036854775807 then (pollardref04_Press.l0 k2 a0 (x3_1 ++ (((t110 ++ x4_1) ++ t111) ++ t112)) (⟨#[]⟩ : ByteArray) ji12) else (none)) else (none))) else (none))) else (none)) = some r := H
            have A20 := Aside0.mk A200
            clear A200
            by_cases c21 : t110.size + x4_1.size ≤ 9223372036854775807
            ·
             rw [if_pos c21] at H
             have c21b0 := eq_true c21
             have c21b1 : decide (t110.size + x4_1.size ≤ 9223372036854775807) = true := decide_eq_true c21
             try have c21b2 : (9223372036854775807 < t110.size + x4_1.size) = False := eq_false (Nat.not_lt.2 c21)
             replace H := Option.bind_eq_some_iff.mp H
             obtain ⟨t111, A220, H⟩ := H
             replace H : (if (t110 ++ x4_1).size + t111.size ≤ 9223372036854775807 then ((pollardref02_Num.f k2 (IntKind.u64.wrap (wrap64 (x7_2 - 4)))).bind fun t112 => (if ((t110 ++ x4_1) ++ t111).size + t112.size ≤ 9223372036854775807 then (if x3_1.size + (((t110 ++ x4_1) ++ t111) ++ t112).size ≤ 9223372036854775807 then (pollardref04_Press.l0 k2 a0 (x3_1 ++ (((t110 ++ x4_1) ++ t111) ++ t112)) (⟨#[]⟩ : ByteArray) ji12) else (none)) else (none))) else (none)) = some r := H
             have A22 := Aside0.mk A220
             clear A220
             by_cases c23 : (t110 ++ x4_1).size + t111.size ≤ 9223372036854775807
             ·
              rw [if_pos c23] at H
              have c23b0 := eq_true c23
              have c23b1 : decide ((t110 ++ x4_1).size + t111.size ≤ 9223372036854775807) = true := decide_eq_true c23
              try have c23b2 : (9223372036854775807 < (t110 ++ x4_1).size + t111.size) = False := eq_false (Nat.not_lt.2 c23)
              (try (have c23b5 : t110.size + x4_1.size + t111.size ≤ 9223372036854775807 := by (have h_ := c23; simp only [ByteArray.size_append] at h_; exact h_))); (try (have c23b6 : (9223372036854775807 < t110.size + x4_1.size + t111.size) = False := eq_false (Nat.not_lt.2 c23b5)))
              replace H := Option.bind_eq_some_iff.mp H
              obtain ⟨t112, A240, H⟩ := H
              replace H : (if ((t110 ++ x4_1) ++ t111).size + t112.size ≤ 9223372036854775807 then (if x3_1.size + (((t110 ++ x4_1) ++ t111) ++ t112).size ≤ 9223372036854775807 then (pollardref04_Press.l0 k2 a0 (x3_1 ++ (((t110 ++ x4_1) ++ t111) ++ t112)) (⟨#[]⟩ : ByteArray) ji12) else (none)) else (none)) = some r := H
              have A24 := Aside0.mk A240
              clear A240
              by_cases c25 : ((t110 ++ x4_1) ++ t111).size + t112.size ≤ 9223372036854775807
              ·
               rw [if_pos c25] at H
               have c25b0 := eq_true c25
               have c25b1 : decide (((t110 ++ x4_1) ++ t111).size + t112.size ≤ 9223372036854775807) = true := decide_eq_true c25
               try have c25b2 : (9223372036854775807 < ((t110 ++ x4_1) ++ t111).size + t112.size) = False := eq_false (Nat.not_lt.2 c25)
               (try (have c25b5 : t110.size + x4_1.size + t111.size + t112.size ≤ 9223372036854775807 := by (have h_ := c25; simp only [ByteArray.size_append] at h_; exact h_))); (try (have c25b6 : (9223372036854775807 < t110.size + x4_1.size + t111.size + t112.size) = False := eq_false (Nat.not_lt.2 c25b5)))
               by_cases c26 : x3_1.size + (((t110 ++ x4_1) ++ t111) ++ t112).size ≤ 9223372036854775807
               ·
                rw [if_pos c26] at H
                have c26b0 := eq_true c26
                have c26b1 : decide (x3_1.size + (((t110 ++ x4_1) ++ t111) ++ t112).size ≤ 9223372036854775807) = true := decide_eq_true c26
                try have c26b2 : (9223372036854775807 < x3_1.size + (((t110 ++ x4_1) ++ t111) ++ t112).size) = False := eq_false (Nat.not_lt.2 c26)
                (try (have c26b5 : x3_1.size + (t110.size + x4_1.size + t111.size + t112.size) ≤ 9223372036854775807 := by (have h_ := c26; simp only [ByteArray.size_append] at h_; exact h_))); (try (have c26b6 : (9223372036854775807 < x3_1.size + (t110.size + x4_1.size + t111.size + t112.size)) = False := eq_false (Nat.not_lt.2 c26b5)))
                have H' := Aside0.mk H
                clear H
                have p14 : 0 ≤ ((ji12) : Int) := of_decide_eq_true (by first | (with_reducible assumption) | assumption)
                have q14 : (ji12) < (a0.size : Int) := of_decide_eq_true (by first | (with_reducible assumption) | assumption)
                have hx14 := bt_at a0 (ji12)
                replace p14 := eq_true p14
                replace q14 := eq_true q14
                have p18 : 0 ≤ ((ji15) : Int) := of_decide_eq_true (by first | (with_reducible assumption) | assumption)
                have q18 : (ji15) < (a0.size : Int) := of_decide_eq_true (by first | (with_reducible assumption) | assumption)
                have hx18 := bt_at a0 (ji15)
                replace p18 := eq_true p18
                replace q18 := eq_true q18
                go_wp2_with (first | (go_at_call 44; (with_reducible refine (pollardref02_Num.calls k2 (IntKind.u64.wrap ((x4_1.size : Int))) t110 _ A20.out).mono ?_); rintro e w27 ⟨rfl, hb⟩; have n0_ := Aside0.mk (below_step (by repeat (first | exact HB.out | apply below_alloc | apply pw_below_drewN | apply below_drew1)) hb); clear HB; have HB := n0_; clear n0_; (try clear hb); (try clear hb2); (try clear hk); (try clear hi)) | (go_at_call 44; (with_reducible refine (pollardref02_Num.calls k2 ((x4_1.size : Int)) t110 _ (by have h_ := A20.out; rwa [wrapU (x := (x4_1.size : Int)) (by omega) (by omega)] at h_)).mono ?_); rintro e w27 ⟨rfl, hb⟩; have n0_ := Aside0.mk (below_step (by repeat (first | exact HB.out | apply below_alloc | apply pw_below_drewN | apply below_drew1)) hb); clear HB; have HB := n0_; clear n0_; (try clear hb); (try clear hb2); (try clear hk); (try clear hi)) | (go_at_call 44; (with_reducible refine (pollardref02_Num.calls k2 (IntKind.u64.wrap (t109)) t111 _ A22.out).mono ?_); rintro e w28 ⟨rfl, hb⟩; have n0_ := Aside0.mk (below_step (by repeat (first | exact HB.out | apply below_alloc | apply pw_below_drewN | apply below_drew1)) hb); clear HB; have HB := n0_; clear n0_; (try clear hb); (try clear hb2); (try clear hk); (try clear hi)) | (go_at_call 44; (with_reducible refine (pollardref02_Num.calls k2 (IntKind.u64.wrap (wrap64 (x7_2 - 4))) t112 _ A24.out).mono ?_); rintro e w29 ⟨rfl, hb⟩; have n0_ := Aside0.mk (below_step (by repeat (first | exact HB.out | apply below_alloc | apply pw_below_drewN | apply below_drew1)) hb); clear HB; have HB := n0_; clear n0_; (try clear hb); (try clear hb2); (try clear hk); (try clear hi)))
                repeat (go_quiet (first | (go_at_call 44; (with_reducible refine (pollardref02_Num.calls k2 (IntKind.u64.wrap ((x4_1.size : Int))) t110 _ A20.out).mono ?_); rintro e w27 ⟨rfl, hb⟩; have n0_ := Aside0.mk (below_step (by repeat (first | exact HB.out | apply below_alloc | apply pw_below_drewN | apply below_drew1)) hb); clear HB; have HB := n0_; clear n0_; (try clear hb); (try clear hb2); (try clear hk); (try clear hi)) | (go_at_call 44; (with_reducible refine (pollardref02_Num.calls k2 ((x4_1.size : Int)) t110 _ (by have h_ := A20.out; rwa [wrapU (x := (x4_1.size : Int)) (by omega) (by omega)] at h_)).mono ?_); rintro e w27 ⟨rfl, hb⟩; have n0_ := Aside0.mk (below_step (by repeat (first | exact HB.out | apply below_alloc | apply pw_below_drewN | apply below_drew1)) hb); clear HB; have HB := n0_; clear n0_; (try clear hb); (try clear hb2); (try clear hk); (try clear hi)) | (go_at_call 44; (with_reducible refine (pollardref02_Num.calls k2 (IntKind.u64.wrap (t109)) t111 _ A22.out).mono ?_); rintro e w28 ⟨rfl, hb⟩; have n0_ := Aside0.mk (below_step (by repeat (first | exact HB.out | apply below_alloc | apply pw_below_drewN | apply below_drew1)) hb); clear HB; have HB := n0_; clear n0_; (try clear hb); (try clear hb2); (try clear hk); (try clear hi)) | (go_at_call 44; (with_reducible refine (pollardref02_Num.calls k2 (IntKind.u64.wrap (wrap64 (x7_2 - 4))) t112 _ A24.out).mono ?_); rintro e w29 ⟨rfl, hb⟩; have n0_ := Aside0.mk (below_step (by repeat (first | exact HB.out | apply below_alloc | apply pw_below_drewN | apply below_drew1)) hb); clear HB; have HB := n0_; clear n0_; (try clear hb); (try clear hb2); (try clear hk); (try clear hi))); try go_wp2_with (first | (go_at_call 44; (with_reducible refine (pollardref02_Num.calls k2 (IntKind.u64.wrap ((x4_1.size : Int))) t110 _ A20.out).mono ?_); rintro e w27 ⟨rfl, hb⟩; have n0_ := Aside0.mk (below_step (by repeat (first | exact HB.out | apply below_alloc | apply pw_below_drewN | apply below_drew1)) hb); clear HB; have HB := n0_; clear n0_; (try clear hb); (try clear hb2); (try clear hk); (try clear hi)) | (go_at_call 44; (with_reducible refine (pollardref02_Num.calls k2 ((x4_1.size : Int)) t110 _ (by have h_ := A20.out; rwa [wrapU (x := (x4_1.size : Int)) (by omega) (by omega)] at h_)).mono ?_); rintro e w27 ⟨rfl, hb⟩; have n0_ := Aside0.mk (below_step (by repeat (first | exact HB.out | apply below_alloc | apply pw_below_drewN | apply below_drew1)) hb); clear HB; have HB := n0_; clear n0_; (try clear hb); (try clear hb2); (try clear hk); (try clear hi)) | (go_at_call 44; (with_reducible refine (pollardref02_Num.calls k2 (IntKind.u64.wrap (t109)) t111 _ A22.out).mono ?_); rintro e w28 ⟨rfl, hb⟩; have n0_ := Aside0.mk (below_step (by repeat (first | exact HB.out | apply below_alloc | apply pw_below_drewN | apply below_drew1)) hb); clear HB; have HB := n0_; clear n0_; (try clear hb); (try clear hb2); (try clear hk); (try clear hi)) | (go_at_call 44; (with_reducible refine (pollardref02_Num.calls k2 (IntKind.u64.wrap (wrap64 (x7_2 - 4))) t112 _ A24.out).mono ?_); rintro e w29 ⟨rfl, hb⟩; have n0_ := Aside0.mk (below_step (by repeat (first | exact HB.out | apply below_alloc | apply pw_below_drewN | apply below_drew1)) hb); clear HB; have HB := n0_; clear n0_; (try clear hb); (try clear hb2); (try clear hk); (try clear hi))))
                go_roundg k2
                case measure => have := HK1.out; have := HK2.out; omega
                case rel => exact ⟨(x3_1 ++ (((t110 ++ x4_1) ++ t111) ++ t112)), ((⟨#[]⟩ : ByteArray)), (ji12), (by first | rfl | (simp; done) | (simp [*]; done)), (by first | rfl | (simp; done) | (simp [*]; done)), (by first | rfl | (simp; done) | (simp only [← hji12] <;> (first | rfl | simp)) | (simp [*]; done)), H', ⟨by have := HK1.out; have := HK2.out; omega⟩, ⟨by repeat (first | exact HB.out | apply below_alloc | apply pw_below_drewN | apply below_drew1)⟩⟩
               ·
                rw [if_neg c26] at H
                exact absurd H (by simp)
              ·
               rw [if_neg c25] at H
               exact absurd H (by simp)
             ·
              rw [if_neg c23] at H
              exact absurd H (by simp)
            ·
             rw [if_neg c21] at H
             exact absurd H (by simp)
          ·
           rw [if_neg c17] at H
           exact absurd H (by simp)
         ·
          rw [if_neg c16] at H
          exact absurd H (by simp)
        ·
         rw [if_neg c13] at H
         exact absurd H (by simp)
       ·
        rw [if_neg c11] at H
        have c11b0 : decide ((wrap64 (x5_1 + x7_2)) < (a0.size : Int)) = false := decide_eq_false c11
        clear c11
        replace H := Option.bind_eq_some_iff.mp H
        obtain ⟨t113, A300, H⟩ := H
        replace H : (if t113.size + x4_1.size ≤ 9223372036854775807 then ((pollardref02_Num.f k2 (IntKind.u64.wrap (t109))).bind fun t114 => (if (t113 ++ x4_1).size + t114.size ≤ 9223372036854775807 then ((pollardref02_Num.f k2 (IntKind.u64.wrap (wrap64 (x7_2 - 4)))).bind fun t115 => (if ((t113 ++ x4_1) ++ t114).size + t115.size ≤ 9223372036854775807 then (if x3_1.size + (((t113 ++ x4_1) ++ t114) ++ t115).size ≤ 9223372036854775807 then (pollardref04_Press.l0 k2 a0 (x3_1 ++ (((t113 ++ x4_1) ++ t114) ++ t115)) (⟨#[]⟩ : ByteArray) (wrap64 (x5_1 + x7_2))) else (none)) else (none))) else (none))) else (none)) = some r := H
        have A30 := Aside0.mk A300
        clear A300
        by_cases c31 : t113.size + x4_1.size ≤ 9223372036854775807
        ·
         rw [if_pos c31] at H
         have c31b0 := eq_true c31
         have c31b1 : decide (t113.size + x4_1.size ≤ 9223372036854775807) = true := decide_eq_true c31
         try have c31b2 : (9223372036854775807 < t113.size + x4_1.size) = False := eq_false (Nat.not_lt.2 c31)
         replace H := Option.bind_eq_some_iff.mp H
         obtain ⟨t114, A320, H⟩ := H
         replace H : (if (t113 ++ x4_1).size + t114.size ≤ 9223372036854775807 then ((pollardref02_Num.f k2 (IntKind.u64.wrap (wrap64 (x7_2 - 4)))).bind fun t115 => (if ((t113 ++ x4_1) ++ t114).size + t115.size ≤ 9223372036854775807 then (if x3_1.size + (((t113 ++ x4_1) ++ t114) ++ t115).size ≤ 9223372036854775807 then (pollardref04_Press.l0 k2 a0 (x3_1 ++ (((t113 ++ x4_1) ++ t114) ++ t115)) (⟨#[]⟩ : ByteArray) (wrap64 (x5_1 + x7_2))) else (none)) else (none))) else (none)) = some r := H
         have A32 := Aside0.mk A320
         clear A320
         by_cases c33 : (t113 ++ x4_1).size + t114.size ≤ 9223372036854775807
         ·
          rw [if_pos c33] at H
          have c33b0 := eq_true c33
          have c33b1 : decide ((t113 ++ x4_1).size + t114.size ≤ 9223372036854775807) = true := decide_eq_true c33
          try have c33b2 : (9223372036854775807 < (t113 ++ x4_1).size + t114.size) = False := eq_false (Nat.not_lt.2 c33)
          (try (have c33b5 : t113.size + x4_1.size + t114.size ≤ 9223372036854775807 := by (have h_ := c33; simp only [ByteArray.size_append] at h_; exact h_))); (try (have c33b6 : (9223372036854775807 < t113.size + x4_1.size + t114.size) = False := eq_false (Nat.not_lt.2 c33b5)))
          replace H := Option.bind_eq_some_iff.mp H
          obtain ⟨t115, A340, H⟩ := H
          replace H : (if ((t113 ++ x4_1) ++ t114).size + t115.size ≤ 9223372036854775807 then (if x3_1.size + (((t113 ++ x4_1) ++ t114) ++ t115).size ≤ 9223372036854775807 then (pollardref04_Press.l0 k2 a0 (x3_1 ++ (((t113 ++ x4_1) ++ t114) ++ t115)) (⟨#[]⟩ : ByteArray) (wrap64 (x5_1 + x7_2))) else (none)) else (none)) = some r := H
          have A34 := Aside0.mk A340
          clear A340
          by_cases c35 : ((t113 ++ x4_1) ++ t114).size + t115.size ≤ 9223372036854775807
          ·
           rw [if_pos c35] at H
           have c35b0 := eq_true c35
           have c35b1 : decide (((t113 ++ x4_1) ++ t114).size + t115.size ≤ 9223372036854775807) = true := decide_eq_true c35
           try have c35b2 : (9223372036854775807 < ((t113 ++ x4_1) ++ t114).size + t115.size) = False := eq_false (Nat.not_lt.2 c35)
           (try (have c35b5 : t113.size + x4_1.size + t114.size + t115.size ≤ 9223372036854775807 := by (have h_ := c35; simp only [ByteArray.size_append] at h_; exact h_))); (try (have c35b6 : (9223372036854775807 < t113.size + x4_1.size + t114.size + t115.size) = False := eq_false (Nat.not_lt.2 c35b5)))
           by_cases c36 : x3_1.size + (((t113 ++ x4_1) ++ t114) ++ t115).size ≤ 9223372036854775807
           ·
            rw [if_pos c36] at H
            have c36b0 := eq_true c36
            have c36b1 : decide (x3_1.size + (((t113 ++ x4_1) ++ t114) ++ t115).size ≤ 9223372036854775807) = true := decide_eq_true c36
            try have c36b2 : (9223372036854775807 < x3_1.size + (((t113 ++ x4_1) ++ t114) ++ t115).size) = False := eq_false (Nat.not_lt.2 c36)
            (try (have c36b5 : x3_1.size + (t113.size + x4_1.size + t114.size + t115.size) ≤ 9223372036854775807 := by (have h_ := c36; simp only [ByteArray.size_append] at h_; exact h_))); (try (have c36b6 : (9223372036854775807 < x3_1.size + (t113.size + x4_1.size + t114.size + t115.size)) = False := eq_false (Nat.not_lt.2 c36b5)))
            have H' := Aside0.mk H
            clear H
            go_wp2_with (first | (go_at_call 44; (with_reducible refine (pollardref02_Num.calls k2 (IntKind.u64.wrap ((x4_1.size : Int))) t113 _ A30.out).mono ?_); rintro e w37 ⟨rfl, hb⟩; have n0_ := Aside0.mk (below_step (by repeat (first | exact HB.out | apply below_alloc | apply pw_below_drewN | apply below_drew1)) hb); clear HB; have HB := n0_; clear n0_; (try clear hb); (try clear hb2); (try clear hk); (try clear hi)) | (go_at_call 44; (with_reducible refine (pollardref02_Num.calls k2 ((x4_1.size : Int)) t113 _ (by have h_ := A30.out; rwa [wrapU (x := (x4_1.size : Int)) (by omega) (by omega)] at h_)).mono ?_); rintro e w37 ⟨rfl, hb⟩; have n0_ := Aside0.mk (below_step (by repeat (first | exact HB.out | apply below_alloc | apply pw_below_drewN | apply below_drew1)) hb); clear HB; have HB := n0_; clear n0_; (try clear hb); (try clear hb2); (try clear hk); (try clear hi)) | (go_at_call 44; (with_reducible refine (pollardref02_Num.calls k2 (IntKind.u64.wrap (t109)) t114 _ A32.out).mono ?_); rintro e w38 ⟨rfl, hb⟩; have n0_ := Aside0.mk (below_step (by repeat (first | exact HB.out | apply below_alloc | apply pw_below_drewN | apply below_drew1)) hb); clear HB; have HB := n0_; clear n0_; (try clear hb); (try clear hb2); (try clear hk); (try clear hi)) | (go_at_call 44; (with_reducible refine (pollardref02_Num.calls k2 (IntKind.u64.wrap (wrap64 (x7_2 - 4))) t115 _ A34.out).mono ?_); rintro e w39 ⟨rfl, hb⟩; have n0_ := Aside0.mk (below_step (by repeat (first | exact HB.out | apply below_alloc | apply pw_below_drewN | apply below_drew1)) hb); clear HB; have HB := n0_; clear n0_; (try clear hb); (try clear hb2); (try clear hk); (try clear hi)))
            repeat (go_quiet (first | (go_at_call 44; (with_reducible refine (pollardref02_Num.calls k2 (IntKind.u64.wrap ((x4_1.size : Int))) t113 _ A30.out).mono ?_); rintro e w37 ⟨rfl, hb⟩; have n0_ := Aside0.mk (below_step (by repeat (first | exact HB.out | apply below_alloc | apply pw_below_drewN | apply below_drew1)) hb); clear HB; have HB := n0_; clear n0_; (try clear hb); (try clear hb2); (try clear hk); (try clear hi)) | (go_at_call 44; (with_reducible refine (pollardref02_Num.calls k2 ((x4_1.size : Int)) t113 _ (by have h_ := A30.out; rwa [wrapU (x := (x4_1.size : Int)) (by omega) (by omega)] at h_)).mono ?_); rintro e w37 ⟨rfl, hb⟩; have n0_ := Aside0.mk (below_step (by repeat (first | exact HB.out | apply below_alloc | apply pw_below_drewN | apply below_drew1)) hb); clear HB; have HB := n0_; clear n0_; (try clear hb); (try clear hb2); (try clear hk); (try clear hi)) | (go_at_call 44; (with_reducible refine (pollardref02_Num.calls k2 (IntKind.u64.wrap (t109)) t114 _ A32.out).mono ?_); rintro e w38 ⟨rfl, hb⟩; have n0_ := Aside0.mk (below_step (by repeat (first | exact HB.out | apply below_alloc | apply pw_below_drewN | apply below_drew1)) hb); clear HB; have HB := n0_; clear n0_; (try clear hb); (try clear hb2); (try clear hk); (try clear hi)) | (go_at_call 44; (with_reducible refine (pollardref02_Num.calls k2 (IntKind.u64.wrap (wrap64 (x7_2 - 4))) t115 _ A34.out).mono ?_); rintro e w39 ⟨rfl, hb⟩; have n0_ := Aside0.mk (below_step (by repeat (first | exact HB.out | apply below_alloc | apply pw_below_drewN | apply below_drew1)) hb); clear HB; have HB := n0_; clear n0_; (try clear hb); (try clear hb2); (try clear hk); (try clear hi))); try go_wp2_with (first | (go_at_call 44; (with_reducible refine (pollardref02_Num.calls k2 (IntKind.u64.wrap ((x4_1.size : Int))) t113 _ A30.out).mono ?_); rintro e w37 ⟨rfl, hb⟩; have n0_ := Aside0.mk (below_step (by repeat (first | exact HB.out | apply below_alloc | apply pw_below_drewN | apply below_drew1)) hb); clear HB; have HB := n0_; clear n0_; (try clear hb); (try clear hb2); (try clear hk); (try clear hi)) | (go_at_call 44; (with_reducible refine (pollardref02_Num.calls k2 ((x4_1.size : Int)) t113 _ (by have h_ := A30.out; rwa [wrapU (x := (x4_1.size : Int)) (by omega) (by omega)] at h_)).mono ?_); rintro e w37 ⟨rfl, hb⟩; have n0_ := Aside0.mk (below_step (by repeat (first | exact HB.out | apply below_alloc | apply pw_below_drewN | apply below_drew1)) hb); clear HB; have HB := n0_; clear n0_; (try clear hb); (try clear hb2); (try clear hk); (try clear hi)) | (go_at_call 44; (with_reducible refine (pollardref02_Num.calls k2 (IntKind.u64.wrap (t109)) t114 _ A32.out).mono ?_); rintro e w38 ⟨rfl, hb⟩; have n0_ := Aside0.mk (below_step (by repeat (first | exact HB.out | apply below_alloc | apply pw_below_drewN | apply below_drew1)) hb); clear HB; have HB := n0_; clear n0_; (try clear hb); (try clear hb2); (try clear hk); (try clear hi)) | (go_at_call 44; (with_reducible refine (pollardref02_Num.calls k2 (IntKind.u64.wrap (wrap64 (x7_2 - 4))) t115 _ A34.out).mono ?_); rintro e w39 ⟨rfl, hb⟩; have n0_ := Aside0.mk (below_step (by repeat (first | exact HB.out | apply below_alloc | apply pw_below_drewN | apply below_drew1)) hb); clear HB; have HB := n0_; clear n0_; (try clear hb); (try clear hb2); (try clear hk); (try clear hi))))
            go_roundg k2
            case measure => have := HK1.out; have := HK2.out; omega
            case rel => exact ⟨(x3_1 ++ (((t113 ++ x4_1) ++ t114) ++ t115)), ((⟨#[]⟩ : ByteArray)), (wrap64 (x5_1 + x7_2)), (by first | rfl | (simp; done) | (simp [*]; done)), (by first | rfl | (simp; done) | (simp [*]; done)), (by first | rfl | (simp; done) | (simp [*]; done)), H', ⟨by have := HK1.out; have := HK2.out; omega⟩, ⟨by repeat (first | exact HB.out | apply below_alloc | apply pw_below_drewN | apply below_drew1)⟩⟩
           ·
            rw [if_neg c36] at H
            exact absurd H (by simp)
          ·
           rw [if_neg c35] at H
           exact absurd H (by simp)
         ·
          rw [if_neg c33] at H
          exact absurd H (by simp)
        ·
         rw [if_neg c31] at H
         exact absurd H (by simp)
   ·
    rw [if_neg c4] at H
    have c4b0 : decide (x5_1 < (a0.size : Int)) = false := decide_eq_false c4
    clear c4
    by_cases c40 : x4_1.toList = ([] : List UInt8)
    ·
     rw [if_pos c40] at H
     have c40b0 : (x4_1.toList == ([] : List UInt8)) = true := beq_iff_eq.mpr c40
     have c40b1 : (x4_1.toList != ([] : List UInt8)) = false := bne_eq_false_iff_eq.mpr c40
     clear c40
     obtain rfl := Option.some.inj H
     go_wp2
     repeat (go_quiet (fail); try go_wp2)
     go_ret
     exact ⟨by first | rfl | (simp [errW_none, errW_some] <;> rfl) | (simp [*, errW_none, errW_some] <;> rfl), by repeat (first | exact HB.out | apply below_alloc | apply pw_below_drewN | apply below_drew1)⟩
    ·
     rw [if_neg c40] at H
     have c40b0 : (x4_1.toList == ([] : List UInt8)) = false := beq_eq_false_iff_ne.mpr c40
     have c40b1 : (x4_1.toList != ([] : List UInt8)) = true := bne_iff_ne.mpr c40
     replace H := Option.bind_eq_some_iff.mp H
     obtain ⟨t108, A410, H⟩ := H
     replace H : (if t108.size + x4_1.size ≤ 9223372036854775807 then (if x3_1.size + (t108 ++ x4_1).size ≤ 9223372036854775807 then (some (x3_1 ++ (t108 ++ x4_1))) else (none)) else (none)) = some r := H
     have A41 := Aside0.mk A410
     clear A410
     by_cases c42 : t108.size + x4_1.size ≤ 9223372036854775807
     ·
      rw [if_pos c42] at H
      have c42b0 := eq_true c42
      have c42b1 : decide (t108.size + x4_1.size ≤ 9223372036854775807) = true := decide_eq_true c42
      try have c42b2 : (9223372036854775807 < t108.size + x4_1.size) = False := eq_false (Nat.not_lt.2 c42)
      by_cases c43 : x3_1.size + (t108 ++ x4_1).size ≤ 9223372036854775807
      ·
       rw [if_pos c43] at H
       have c43b0 := eq_true c43
       have c43b1 : decide (x3_1.size + (t108 ++ x4_1).size ≤ 9223372036854775807) = true := decide_eq_true c43
       try have c43b2 : (9223372036854775807 < x3_1.size + (t108 ++ x4_1).size) = False := eq_false (Nat.not_lt.2 c43)
       (try (have c43b5 : x3_1.size + (t108.size + x4_1.size) ≤ 9223372036854775807 := by (have h_ := c43; simp only [ByteArray.size_append] at h_; exact h_))); (try (have c43b6 : (9223372036854775807 < x3_1.size + (t108.size + x4_1.size)) = False := eq_false (Nat.not_lt.2 c43b5)))
       obtain rfl := Option.some.inj H
       go_wp2_with (first | (go_at_call 44; (with_reducible refine (pollardref02_Num.calls k1 (IntKind.u64.wrap ((x4_1.size : Int))) t108 _ A41.out).mono ?_); rintro e w44 ⟨rfl, hb⟩; have n0_ := Aside0.mk (below_step (by repeat (first | exact HB.out | apply below_alloc | apply pw_below_drewN | apply below_drew1)) hb); clear HB; have HB := n0_; clear n0_; (try clear hb); (try clear hb2); (try clear hk); (try clear hi)) | (go_at_call 44; (with_reducible refine (pollardref02_Num.calls k1 ((x4_1.size : Int)) t108 _ (by have h_ := A41.out; rwa [wrapU (x := (x4_1.size : Int)) (by omega) (by omega)] at h_)).mono ?_); rintro e w44 ⟨rfl, hb⟩; have n0_ := Aside0.mk (below_step (by repeat (first | exact HB.out | apply below_alloc | apply pw_below_drewN | apply below_drew1)) hb); clear HB; have HB := n0_; clear n0_; (try clear hb); (try clear hb2); (try clear hk); (try clear hi)))
       repeat (go_quiet (first | (go_at_call 44; (with_reducible refine (pollardref02_Num.calls k1 (IntKind.u64.wrap ((x4_1.size : Int))) t108 _ A41.out).mono ?_); rintro e w44 ⟨rfl, hb⟩; have n0_ := Aside0.mk (below_step (by repeat (first | exact HB.out | apply below_alloc | apply pw_below_drewN | apply below_drew1)) hb); clear HB; have HB := n0_; clear n0_; (try clear hb); (try clear hb2); (try clear hk); (try clear hi)) | (go_at_call 44; (with_reducible refine (pollardref02_Num.calls k1 ((x4_1.size : Int)) t108 _ (by have h_ := A41.out; rwa [wrapU (x := (x4_1.size : Int)) (by omega) (by omega)] at h_)).mono ?_); rintro e w44 ⟨rfl, hb⟩; have n0_ := Aside0.mk (below_step (by repeat (first | exact HB.out | apply below_alloc | apply pw_below_drewN | apply below_drew1)) hb); clear HB; have HB := n0_; clear n0_; (try clear hb); (try clear hb2); (try clear hk); (try clear hi))); try go_wp2_with (first | (go_at_call 44; (with_reducible refine (pollardref02_Num.calls k1 (IntKind.u64.wrap ((x4_1.size : Int))) t108 _ A41.out).mono ?_); rintro e w44 ⟨rfl, hb⟩; have n0_ := Aside0.mk (below_step (by repeat (first | exact HB.out | apply below_alloc | apply pw_below_drewN | apply below_drew1)) hb); clear HB; have HB := n0_; clear n0_; (try clear hb); (try clear hb2); (try clear hk); (try clear hi)) | (go_at_call 44; (with_reducible refine (pollardref02_Num.calls k1 ((x4_1.size : Int)) t108 _ (by have h_ := A41.out; rwa [wrapU (x := (x4_1.size : Int)) (by omega) (by omega)] at h_)).mono ?_); rintro e w44 ⟨rfl, hb⟩; have n0_ := Aside0.mk (below_step (by repeat (first | exact HB.out | apply below_alloc | apply pw_below_drewN | apply below_drew1)) hb); clear HB; have HB := n0_; clear n0_; (try clear hb); (try clear hb2); (try clear hk); (try clear hi))))
       go_ret
       exact ⟨by first | rfl | (simp [errW_none, errW_some] <;> rfl) | (simp [*, errW_none, errW_some] <;> rfl), by repeat (first | exact HB.out | apply below_alloc | apply pw_below_drewN | apply below_drew1)⟩
      ·
       rw [if_neg c43] at H
       exact absurd H (by simp)
     ·
      rw [if_neg c42] at H
      exact absurd H (by simp)

/-! ### pollardref07_kind: function 57 -/
def pollardref07_kind.f (a0 : Int) : Option (ByteArray) := (some (([(⟨#[]⟩ : ByteArray), (⟨#[98, 108, 111, 98]⟩ : ByteArray), (⟨#[116, 114, 101, 101]⟩ : ByteArray), (⟨#[99, 111, 109, 109, 105, 116]⟩ : ByteArray), (⟨#[116, 97, 103]⟩ : ByteArray)] : List ByteArray) : List ByteArray)).bind fun y116 => (if 0 ≤ a0 then (if a0 < (y116.length : Int) then (some (rdOf ByteArray.empty y116 a0)) else (none)) else (none))
set_option maxHeartbeats 8000000 in
set_option maxRecDepth 100000 in
theorem pollardref07_kind.calls (a0 : Int) (r : ByteArray) (w : World) (h : pollardref07_kind.f a0 = some r) :
  Calls Tryz.prog 57 #[.int .i64 a0] w fun e w' => e = .returned (.string r) ∧ Below w.heap.size w w' := by
 have HB := Aside0.mk (Below.refl w.heap.size w)
 have H : ((some (([(⟨#[]⟩ : ByteArray), (⟨#[98, 108, 111, 98]⟩ : ByteArray), (⟨#[116, 114, 101, 101]⟩ : ByteArray), (⟨#[99, 111, 109, 109, 105, 116]⟩ : ByteArray), (⟨#[116, 97, 103]⟩ : ByteArray)] : List ByteArray) : List ByteArray)).bind fun y116 => (if 0 ≤ a0 then (if a0 < (y116.length : Int) then (some (rdOf ByteArray.empty y116 a0)) else (none)) else (none))) = some r := h
 clear h
 obtain ⟨y116, hy116⟩ : ∃ y_ : List ByteArray, y_ = (([(⟨#[]⟩ : ByteArray), (⟨#[98, 108, 111, 98]⟩ : ByteArray), (⟨#[116, 114, 101, 101]⟩ : ByteArray), (⟨#[99, 111, 109, 109, 105, 116]⟩ : ByteArray), (⟨#[116, 97, 103]⟩ : ByteArray)] : List ByteArray)) := ⟨_, rfl⟩
 replace H : (if 0 ≤ a0 then (if a0 < (y116.length : Int) then (some (rdOf ByteArray.empty y116 a0)) else (none)) else (none)) = some r := by first | (rw [hy116]; with_reducible exact H) | (have H2_ := (Option.bind_some _ _).symm.trans H; rw [hy116]; with_reducible exact H2_) | (have H2_ := (Option.bind_some _ _).symm.trans H; with_reducible exact H2_) | with_reducible exact H | (rw [hy116]; exact H) | exact H
 have Ny116 := Aside0.mk hy116
 clear hy116
 by_cases c2 : 0 ≤ a0
 ·
  rw [if_pos c2] at H
  have c2b0 : decide (0 ≤ a0) = true := decide_eq_true c2
  clear c2
  by_cases c3 : a0 < (y116.length : Int)
  ·
   rw [if_pos c3] at H
   have c3b0 : decide (a0 < (y116.length : Int)) = true := decide_eq_true c3
   clear c3
   obtain rfl := Option.some.inj H
   go_enter Tryz.func57, Tryz.ntmps57
   go_wp2_with (first | ((with_reducible refine gate_dst (N := 3) rfl ?_); refine Kd.R_lit Kd.string _ 9 ?hg (N := 3) ?hd (xs := ([(⟨#[]⟩ : ByteArray), (⟨#[98, 108, 111, 98]⟩ : ByteArray), (⟨#[116, 114, 101, 101]⟩ : ByteArray), (⟨#[99, 111, 109, 109, 105, 116]⟩ : ByteArray), (⟨#[116, 97, 103]⟩ : ByteArray)] : List ByteArray)) (inner := [.string (⟨#[]⟩ : ByteArray), .string (⟨#[98, 108, 111, 98]⟩ : ByteArray), .string (⟨#[116, 114, 101, 101]⟩ : ByteArray), .string (⟨#[99, 111, 109, 109, 105, 116]⟩ : ByteArray), .string (⟨#[116, 97, 103]⟩ : ByteArray)]) (ok := fun _ => True) (okp := fun _ => True) ?hr ?hp (fun _ hk => hk) trivial (Below.refl _ _) (Nat.le_refl _) (by simp) ?_; (case hd => rfl); (case hg => rfl); (case hr => first | (go_simp; done) | (go_simp; rfl)); (case hp => exact (Reps.one (show Kd.M Kd.string _ _ _ (⟨#[]⟩ : ByteArray) [.string (⟨#[]⟩ : ByteArray)] from rfl) (Reps.one (show Kd.M Kd.string _ _ _ (⟨#[98, 108, 111, 98]⟩ : ByteArray) [.string (⟨#[98, 108, 111, 98]⟩ : ByteArray)] from rfl) (Reps.one (show Kd.M Kd.string _ _ _ (⟨#[116, 114, 101, 101]⟩ : ByteArray) [.string (⟨#[116, 114, 101, 101]⟩ : ByteArray)] from rfl) (Reps.one (show Kd.M Kd.string _ _ _ (⟨#[99, 111, 109, 109, 105, 116]⟩ : ByteArray) [.string (⟨#[99, 111, 109, 109, 105, 116]⟩ : ByteArray)] from rfl) (Reps.one (show Kd.M Kd.string _ _ _ (⟨#[116, 97, 103]⟩ : ByteArray) [.string (⟨#[116, 97, 103]⟩ : ByteArray)] from rfl) (Reps.none _ _))))))); intro v117 w4 ho5 hb hg_ hnew_; clear hg_ hnew_; (first | rw [← Ny116.out] at ho5 | (simp only [Int.reduceToNat] at ho5; rw [← Ny116.out] at ho5)); have n0_ := Aside0.mk (Kd.R_lower ho5 (below_size (by repeat (first | exact HB.out | apply below_alloc | apply pw_below_drewN | apply below_drew1)))); have n1_ := Aside0.mk (below_step (by repeat (first | exact HB.out | apply below_alloc | apply pw_below_drewN | apply below_drew1)) hb); clear HB; have HO118 := n0_; have HB := n1_; clear n0_ n1_; clear hb ho5; obtain ⟨Ao6, co6, eo6⟩ := Kd.R_slice HO118.out; subst eo6; have p119 : 0 ≤ (a0 : Int) := of_decide_eq_true (by first | (with_reducible assumption) | assumption); have q119 : a0 < (y116.length : Int) := of_decide_eq_true (by first | (with_reducible assumption) | assumption); obtain ⟨ad119, e119, hx119_0⟩ := Kd.at_string (Kd.R_reads' HO118.out).2.2 a0 p119 q119; cases e119; replace p119 := eq_true p119; replace q119 := eq_true q119))
   go_ret
   exact ⟨by first | rfl | (simp [errW_none, errW_some] <;> rfl) | (simp [*, errW_none, errW_some] <;> rfl), by repeat (first | exact HB.out | apply below_alloc | apply pw_below_drewN | apply below_drew1)⟩
  ·
   rw [if_neg c3] at H
   exact absurd H (by simp)
 ·
  rw [if_neg c2] at H
  exact absurd H (by simp)

end Go.Proofs.YthnojgpobfpgeaaGreatDoor.PLa
