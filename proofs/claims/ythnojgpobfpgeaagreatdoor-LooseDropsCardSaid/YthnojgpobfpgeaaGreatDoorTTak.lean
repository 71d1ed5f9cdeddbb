/- code.Unnum: the number at the beginning of bytes. -/
import Derived.Test.YthnojgpobfpgeaaGreatDoorProg
import Derived.Lib.ConvBytes
import Derived.Laws.Slices
import Derived.Laws.Small
import Derived.Laws.Wrap64
import Derived.IntWalk
import Derived.WideLaws
import Derived.Below
import Derived.WalkKit
import Derived.OwnWalk
import Derived.LoopTactic
import Derived.LoopN
import Derived.Lib.Hide
import Derived.Test.YthnojgpobfpgeaaGreatDoorPW
import Derived.Test.YthnojgpobfpgeaaGreatDoorEvText
import Derived.Test.YthnojgpobfpgeaaGreatDoorTRefT
import Derived.Test.YthnojgpobfpgeaaGreatDoorEvBytes
import Derived.Test.YthnojgpobfpgeaaGreatDoorTMid
namespace Go.Proofs
open Go.RowKit Go.Ev
def bU : Nat -> Nat
 | 0 => 0
 | i + 1 => 128 * bU i + 128
theorem bU_lt {i : Nat} (h : i <= 9) : bU i < 18446744073709551616 := by
 have : ∀ k : Fin 10, bU k.1 < 18446744073709551616 := by decide
 exact this ⟨i, by omega⟩
theorem unnumR_more {s : List UInt8} {i n : Nat} (h : s.length <= i) (m : Nat) : unnumR (s.drop i) m n = none := by
 rw [List.drop_of_length_le h]; rfl
theorem unnumR_at {s : List UInt8} {i n : Nat} (h : i < s.length) : unnumR (s.drop i) i n = if i = 9 then none else if (s[i]).toNat < 128 then some (n * 128 + (s[i]).toNat % 128, i + 1) else unnumR (s.drop (i + 1)) (i + 1) (n * 128 + (s[i]).toNat % 128 + 1) := by
 rw [List.drop_eq_getElem_cons h]
 rfl
def unnE (l : List UInt8) : Int := if 9 <= l.length then 6 else 4
theorem unnE_ne (l : List UInt8) : unnE l ≠ 0 := by unfold unnE; split <;> decide
def UnnP (l : List UInt8) (e : Ending) : Prop := match unnumL l with
 | some (v, k) => e = .returned (.tuple #[.int .u64 (v : Int), .int .i64 (k : Int), .int .i64 0])
 | none => e = .returned (.tuple #[.int .u64 0, .int .i64 0, .int .i64 (unnE l)])
theorem unn_some {l : List UInt8} {v k : Nat} (h : unnumL l = some (v, k)) : UnnP l (.returned (.tuple #[.int .u64 (v : Int), .int .i64 (k : Int), .int .i64 0])) := by
 unfold UnnP; rw [h]
theorem unn_none {l : List UInt8} (c : Int) (hc : unnE l = c) (h : unnumL l = none) : UnnP l (.returned (.tuple #[.int .u64 0, .int .i64 0, .int .i64 c])) := by
 unfold UnnP; rw [h]; exact hc ▸ rfl
set_option maxHeartbeats 2000000 in
set_option maxRecDepth 1000000 in
theorem unnum_calls (s : ByteArray) (hs : s.size <= 1099511627776) (w : World) :
  Calls Tryz.prog 115 #[.string s] w fun e w' => UnnP s.data.toList e /\ Below w.heap.size w w' := by
 have hcv : ∀ W : World, (convert 9 71 (.string s)).run Tryz.prog W = _ := fun W => Lib.run_convert_string_bytes W 9 71 5 s Tryz.underlying9 Tryz.underlying71 Tryz.underlying5
 have hsl : s.data.toList.length = s.size := by simp
 go_enter Tryz.func115, Tryz.ntmps115
 go_wp2
 generalize hW0 : Lib.bytesWorld w 5 s = W0
 have hsz0 : W0.heap.size = w.heap.size + 1 := by rw [<- hW0, Lib.bytesWorld_size]
 have hcell0 : ∀ j, j < s.size -> W0.cell? ⟨w.heap.size, j, none⟩ = some (.int .u8 (s.data.toList.getD j 0).toNat) := fun j hj => by
  have := Lib.bytesWorld_cell w 5 s j hj
  rw [hW0] at this
  exact this
 have hbel : Below w.heap.size w W0 := by rw [<- hW0]; exact (Below.refl _ _).grown (bytesWorld_grown w 5 s) (Nat.le_refl _) (fun k hk => by cases hk)
 clear hcv hW0
 go_loopw [5, 11] (fun vn vi wr => wr = W0 /\ ∃ i n : Nat, i <= s.size /\ i <= 9 /\ n <= bU i /\ vi = .int .i64 i /\ vn = .int .u64 n /\ unnumR (s.data.toList.drop i) i n = unnumL s.data.toList) (fun _ v _ => s.size - (valOf v).toNat)
 case atStart => exact ⟨rfl, 0, 0, Nat.zero_le _, by omega, Nat.le_refl _, rfl, rfl, rfl⟩
 case round =>
  obtain ⟨rfl, i, n, hi, hi9, hn, rfl, rfl, hU⟩ := hrel
  by_cases hlt : i < s.size
  ·
   have hlt' : ((i : Int) < (s.size : Int)) := by exact_mod_cast hlt
   have hc := hcell0 i hlt
   have hget : s.data.toList.getD i 0 = s.data.toList[i]'(by omega) := by simp [List.getD, List.getElem?_eq_getElem (show i < s.data.toList.length by omega)]
   rw [unnumR_at (show i < s.data.toList.length by omega), <- hget] at hU
   generalize s.data.toList.getD i 0 = c at hc hU
   have hcl := c.toNat_lt
   clear hget hcell0
   by_cases h9 : i = 9
   ·
    subst h9
    have h9' : ((9 : Nat) : Int) = 9 := rfl
    rw [if_pos rfl] at hU
    go_wp2
    go_ret3
    exact ⟨unn_none 6 (if_pos (by omega)) hU.symm, hbel⟩
   ·
    have h9' : ¬ ((i : Int) = 9) := by omega
    rw [if_neg h9] at hU
    have hB := bU_lt (i := i + 1) (by omega)
    have hb1 : bU (i + 1) = 128 * bU i + 128 := rfl
    obtain ⟨q, hq⟩ : ∃ q, q = n * 128 := ⟨_, rfl⟩
    obtain ⟨r, hr⟩ : ∃ r, r = c.toNat % 128 := ⟨_, rfl⟩
    obtain ⟨t, ht⟩ : ∃ t, t = n * 128 + c.toNat % 128 := ⟨_, rfl⟩
    have m2 : IntKind.u64.wrap ((n : Int) * 128) = (q : Int) := by
     rw [show (n : Int) * 128 = (q : Int) by omega]
     exact wrapU64 _ (by omega)
    have m3 : Int.tmod (c.toNat : Int) 128 = (r : Int) := by rw [hr]; rfl
    have m4 : IntKind.u64.wrap (r : Int) = (r : Int) := wrapU64 _ (by omega)
    have m6 : IntKind.u64.wrap ((q : Int) + (r : Int)) = (t : Int) := by
     rw [show (q : Int) + (r : Int) = (t : Int) by omega]
     exact wrapU64 _ (by omega)
    have hn' : n * 128 + c.toNat % 128 + 1 <= bU (i + 1) := by omega
    by_cases hc128 : c.toNat < 128
    ·
     have hc' : ((c.toNat : Int) < 128) := by omega
     rw [if_pos hc128] at hU
     go_wp2
     go_ret3
     exact ⟨unn_some hU.symm, hbel⟩
    ·
     have hc' : ¬ ((c.toNat : Int) < 128) := by omega
     rw [if_neg hc128] at hU
     have m8 : IntKind.u64.wrap ((t : Int) + 1) = ((t + 1 : Nat) : Int) := by
      rw [show (t : Int) + 1 = ((t + 1 : Nat) : Int) by omega]
      exact wrapU64 _ (by omega)
     go_wp2
     refine ⟨⟨trivial, i + 1, n * 128 + c.toNat % 128 + 1, by omega, by omega, by omega, by push_cast; rfl, by push_cast; rfl, hU⟩, ?_⟩
     simp [valOf]; omega
  ·
   have hlt' : ¬ ((i : Int) < (s.size : Int)) := by omega
   obtain rfl : i = s.size := by omega
   rw [unnumR_more (by omega)] at hU
   by_cases h9 : 9 <= s.size
   ·
    have h9' : (9 : Int) <= (s.size : Int) := by omega
    go_wp2
    go_ret3
    exact ⟨unn_none 6 (if_pos (by omega)) hU.symm, hbel⟩
   ·
    have h9' : ¬ (9 : Int) <= (s.size : Int) := by omega
    go_wp2
    go_ret3
    exact ⟨unn_none 4 (if_neg (by omega)) hU.symm, hbel⟩
end Go.Proofs
namespace Go.Proofs
open Go.RowKit Go.Ev Go.Lib
attribute [local go_sem] Oper.semAt_some
theorem unn_any {l : List UInt8} {e : Ending} (h : UnnP l e) : ∃ v k c : Int, e = .returned (.tuple #[.int .u64 v, .int .i64 k, .int .i64 c]) /\ ((c = 0 /\ ∃ v' k' : Nat, v = v' /\ k = k' /\ unnumL l = some (v', k')) \/ (c = unnE l /\ unnumL l = none)) := by
 unfold UnnP at h
 cases hu : unnumL l with
 | none =>
  rw [hu] at h
  exact ⟨_, _, _, h, .inr ⟨rfl, rfl⟩⟩
 | some p =>
  rw [hu] at h
  exact ⟨_, _, _, h, .inl ⟨rfl, _, _, rfl, rfl, rfl⟩⟩
theorem unnumR_le : ∀ (l : List UInt8) (i n v k : Nat), unnumR l i n = some (v, k) -> k <= i + l.length
 | [], _, _, _, _, h => by cases h
 | c :: l, i, n, v, k, h => by
  unfold unnumR at h
  split at h
  ·
   cases h
  ·
   split at h
   ·
    cases h
    rw [List.length_cons]
    omega
   ·
    have h2 := unnumR_le l (i + 1) _ v k h
    rw [List.length_cons]
    omega
def numE (l : List UInt8) : Int := match unnumL l with
 | some _ => 6
 | none => unnE l
theorem numE_ne (l : List UInt8) : numE l ≠ 0 := by
 unfold numE
 split
 ·
  decide
 ·
  exact unnE_ne l
def TakAt (W : World) (tb : Nat) (S : ByteArray) (e : Int) : Prop := W.heap[tb]? = some (.cells #[.string S, .int .i64 e] 114 (0, 0))
def NumR (S : ByteArray) (e : Int) (most : Nat) (c : Nat) (S' : ByteArray) (e' : Int) : Prop :=
 S'.size <= S.size /\ (e ≠ 0 -> c = 0 /\ e' = e /\ S' = S) /\ (e = 0 -> (e' = 0 /\ takS S.data.toList most = some (c, S'.data.toList)) \/ (e' = numE S.data.toList /\ c = 0 /\ takS S.data.toList most = none))
def NumP (W : World) (tb : Nat) (S : ByteArray) (e : Int) (most : Nat) (r : Ending) (w' : World) : Prop :=
 ∃ (c : Nat) (S' : ByteArray) (e' : Int), r = .returned (.int .i64 (c : Int)) /\ TakAt w' tb S' e' /\ ButB W.heap.size tb W w' /\ NumR S e most c S' e'
set_option maxHeartbeats 2000000 in
set_option maxRecDepth 1000000 in
theorem num_err {W : World} {tb : Nat} {S : ByteArray} {e : Int} {most : Nat} (hT : TakAt W tb S e) (hS : S.size <= 1099511627776) (he : ¬ e = 0) :
  Calls Tryz.prog 76 #[.pointer (some ⟨tb, 0, none⟩), .int .i64 (most : Int)] W (NumP W tb S e most) := by
 have hu := Lib.hid (unnum_calls S hS)
 have c0 : W.cell? ⟨tb, 0, none⟩ = some (.string S) := by rw [Lib.cell_of_heap hT]; rfl
 have hlt : tb < W.heap.size := (Array.getElem?_eq_some_iff.1 hT).1
 have hT' := Lib.hid hT
 clear hT hS
 go_enter Tryz.func76, Tryz.ntmps76
 go_wp2_with (go_at_call 115; refine (hu.out _).mono ?_; rintro r w1 ⟨hP, hb⟩; obtain ⟨v, k, c, rfl, _⟩ := unn_any hP; clear hP; have hT1 : w1.heap[tb]? = some (.cells #[.string S, .int .i64 e] 114 (0, 0)) := (hb.block tb hlt).trans hT'.out; have d1 : w1.cell? ⟨tb, 1, none⟩ = some (.int .i64 e) := (by rw [Lib.cell_of_heap hT1]; rfl); have hT2 := Lib.hid hT1; clear hT1; have hb' := Lib.hid hb; clear hb)
 go_ret
 exact ⟨0, S, e, rfl, hT2.out, ⟨hb'.out.os, hb'.out.tape, hb'.out.output, hb'.out.size, fun k hk _ => hb'.out.block k hk⟩, Nat.le_refl _, fun _ => ⟨rfl, rfl, rfl⟩, fun h => absurd h he⟩
theorem tak_set1 {W : World} {tb : Nat} {S : ByteArray} {e : Int} (h : W.heap[tb]? = some (.cells #[.string S, .int .i64 e] 114 (0, 0))) (e' : Int) : (W.setCell ⟨tb, 1, none⟩ (.int .i64 e')).heap[tb]? = some (.cells #[.string S, .int .i64 e'] 114 (0, 0)) := by
 simp [World.setCell, Array.getElem?_modify, h]
theorem tak_set0 {W : World} {tb : Nat} {S : ByteArray} {e : Int} (h : W.heap[tb]? = some (.cells #[.string S, .int .i64 e] 114 (0, 0))) (S' : ByteArray) : (W.setCell ⟨tb, 0, none⟩ (.string S')).heap[tb]? = some (.cells #[.string S', .int .i64 e] 114 (0, 0)) := by
 simp [World.setCell, Array.getElem?_modify, h]
theorem but_set {W w : World} {B tb o : Nat} (h : ButB B tb W w) (v : Value) : ButB B tb W (w.setCell ⟨tb, o, none⟩ v) :=
 ⟨h.os, h.tape, h.output, by simp only [World.setCell, Array.size_modify]; exact h.size, fun k hk hne => by
  simp only [World.setCell, Array.getElem?_modify]
  rw [if_neg (fun e => hne e.symm)]
  exact h.block k hk hne⟩
theorem tak_cells {W : World} {tb : Nat} {S : ByteArray} {e : Int} (h : W.heap[tb]? = some (.cells #[.string S, .int .i64 e] 114 (0, 0))) :
  W.cell? ⟨tb, 0, none⟩ = some (.string S) /\ W.cell? ⟨tb, 1, none⟩ = some (.int .i64 e) /\ W.frozen? ⟨tb, 0, none⟩ = false /\ W.frozen? ⟨tb, 1, none⟩ = false :=
 ⟨by rw [Lib.cell_of_heap h]; rfl, by rw [Lib.cell_of_heap h]; rfl, Lib.frozen_of_heap h 0, Lib.frozen_of_heap h 1⟩
theorem below_but {W w : World} (h : Below W.heap.size W w) (tb : Nat) : ButB W.heap.size tb W w := ⟨h.os, h.tape, h.output, h.size, fun k hk _ => h.block k hk⟩
set_option maxHeartbeats 2000000 in
set_option maxRecDepth 1000000 in
theorem num_none {W : World} {tb : Nat} {S : ByteArray} {most : Nat} (hT : TakAt W tb S 0) (hS : S.size <= 1099511627776) (hU : unnumL S.data.toList = none) :
  Calls Tryz.prog 76 #[.pointer (some ⟨tb, 0, none⟩), .int .i64 (most : Int)] W (NumP W tb S 0 most) := by
 obtain ⟨c, hc⟩ : ∃ c, c = unnE S.data.toList := ⟨_, rfl⟩
 have hc0 : ¬ c = 0 := hc ▸ unnE_ne _
 have hu : Hid (∀ w, Calls Tryz.prog 115 #[.string S] w fun e w' => e = .returned (.tuple #[.int .u64 0, .int .i64 0, .int .i64 c]) /\ Below w.heap.size w w') := Lib.hid fun w => (unnum_calls S hS w).mono fun e w' ⟨h1, h2⟩ => ⟨by unfold UnnP at h1; rw [hU, <- hc] at h1; exact h1, h2⟩
 have c0 : W.cell? ⟨tb, 0, none⟩ = some (.string S) := (tak_cells hT).1
 have hlt : tb < W.heap.size := (Array.getElem?_eq_some_iff.1 hT).1
 have hT' := Lib.hid hT
 have hc' := Lib.hid hc
 clear hc
 have hU' := Lib.hid hU
 clear hT hU
 go_enter Tryz.func76, Tryz.ntmps76
 go_wp2_with (go_at_call 115; refine (hu.out _).mono ?_; rintro r w1 ⟨rfl, hb⟩; have hT1 : w1.heap[tb]? = some (.cells #[.string S, .int .i64 0] 114 (0, 0)) := (hb.block tb hlt).trans hT'.out; obtain ⟨_, d1, _, f1⟩ := tak_cells hT1; have hT2 := Lib.hid (tak_set1 hT1 c); clear hT1; have hb' := Lib.hid hb; clear hb)
 go_ret
 exact ⟨0, S, c, rfl, hT2.out, but_set (below_but hb'.out tb) _, Nat.le_refl _, fun h => absurd rfl h, fun _ => .inr ⟨by unfold numE; rw [hU'.out]; exact hc'.out, rfl, by unfold takS; rw [hU'.out]⟩⟩
set_option maxHeartbeats 2000000 in
set_option maxRecDepth 1000000 in
theorem num_some {W : World} {tb : Nat} {S : ByteArray} {most v k : Nat} (hT : TakAt W tb S 0) (hS : S.size <= 1099511627776) (hm : most <= 1099511627776) (hU : unnumL S.data.toList = some (v, k)) :
  Calls Tryz.prog 76 #[.pointer (some ⟨tb, 0, none⟩), .int .i64 (most : Int)] W (NumP W tb S 0 most) := by
 have hu : Hid (∀ w, Calls Tryz.prog 115 #[.string S] w fun e w' => e = .returned (.tuple #[.int .u64 (v : Int), .int .i64 (k : Int), .int .i64 0]) /\ Below w.heap.size w w') := Lib.hid fun w => (unnum_calls S hS w).mono fun e w' ⟨h1, h2⟩ => ⟨by unfold UnnP at h1; rw [hU] at h1; exact h1, h2⟩
 have c0 : W.cell? ⟨tb, 0, none⟩ = some (.string S) := (tak_cells hT).1
 have hlt : tb < W.heap.size := (Array.getElem?_eq_some_iff.1 hT).1
 have hk : k <= S.size := by
  have := unnumR_le _ 0 0 v k hU
  simpa using this
 have hk1 : (k : Int) <= (S.size : Int) := by omega
 have hk2 : ¬ (S.size : Int) < (k : Int) := by omega
 have wm : IntKind.u64.wrap (most : Int) = (most : Int) := wrapU64 _ (by omega)
 have hdrop : (S.extract k S.size).data.toList = S.data.toList.drop k := by
  rw [ByteArray.data_extract, Array.toList_extract, List.extract_eq_take_drop, List.take_of_length_le (by rw [List.length_drop]; simp)]
 have hsz : (S.extract k S.size).size <= S.size := by rw [ByteArray.size_extract]; omega
 have hT' := Lib.hid hT
 have hU' := Lib.hid hU
 have hd' := Lib.hid hdrop
 have hz' := Lib.hid hsz
 clear hT hU hdrop hsz
 by_cases hv : v <= most
 ·
  have hv1 : ¬ (most : Int) < (v : Int) := by omega
  have wv : IntKind.i64.wrap (v : Int) = (v : Int) := wrapI64 _ (by omega)
  go_enter Tryz.func76, Tryz.ntmps76
  go_wp2_with (go_at_call 115; refine (hu.out _).mono ?_; rintro r w1 ⟨rfl, hb⟩; have hT1 : w1.heap[tb]? = some (.cells #[.string S, .int .i64 0] 114 (0, 0)) := (hb.block tb hlt).trans hT'.out; obtain ⟨_, d1, _, f1⟩ := tak_cells hT1; have hT2 := tak_set1 hT1 0; obtain ⟨d2, d3, f2, f3⟩ := tak_cells hT2; have hT3 := Lib.hid (tak_set0 hT2 (S.extract k S.size)); clear hT1 hT2; have hb' := Lib.hid hb; clear hb)
  go_ret
  exact ⟨v, S.extract k S.size, 0, rfl, hT3.out, but_set (but_set (below_but hb'.out tb) _) _, hz'.out, fun h => absurd rfl h, fun _ => .inl ⟨rfl, by unfold takS; rw [hU'.out, hd'.out]; exact if_pos hv⟩⟩
 ·
  have hv1 : (most : Int) < (v : Int) := by omega
  go_enter Tryz.func76, Tryz.ntmps76
  go_wp2_with (go_at_call 115; refine (hu.out _).mono ?_; rintro r w1 ⟨rfl, hb⟩; have hT1 : w1.heap[tb]? = some (.cells #[.string S, .int .i64 0] 114 (0, 0)) := (hb.block tb hlt).trans hT'.out; obtain ⟨_, d1, _, f1⟩ := tak_cells hT1; have hT2 := tak_set1 hT1 0; obtain ⟨d2, d3, f2, f3⟩ := tak_cells hT2; have hT3 := tak_set0 hT2 (S.extract k S.size); obtain ⟨_, d4, _, f4⟩ := tak_cells hT3; have hT4 := Lib.hid (tak_set1 hT3 6); clear hT1 hT2 hT3; have hb' := Lib.hid hb; clear hb)
  go_ret
  exact ⟨0, S.extract k S.size, 6, rfl, hT4.out, but_set (but_set (but_set (below_but hb'.out tb) _) _) _, hz'.out, fun h => absurd rfl h, fun _ => .inr ⟨by unfold numE; rw [hU'.out], rfl, by unfold takS; rw [hU'.out]; exact if_neg hv⟩⟩
theorem num_tak {W : World} {tb : Nat} {S : ByteArray} {e : Int} {most : Nat} (hT : TakAt W tb S e) (hS : S.size <= 1099511627776) (hm : most <= 1099511627776) :
  Calls Tryz.prog 76 #[.pointer (some ⟨tb, 0, none⟩), .int .i64 (most : Int)] W (NumP W tb S e most) := by
 by_cases he : e = 0
 ·
  subst he
  cases hU : unnumL S.data.toList with
  | none => exact num_none hT hS hU
  | some p => exact num_some hT hS hm hU
 ·
  exact num_err hT hS he
def BytR (S : ByteArray) (e : Int) (n : Nat) (X S' : ByteArray) (e' : Int) : Prop :=
 S'.size <= S.size /\ X.size <= n /\ (e ≠ 0 -> X = ⟨#[]⟩ /\ e' = e /\ S' = S) /\ (e = 0 -> (e' = 0 /\ n <= S.size /\ X.data.toList = S.data.toList.take n /\ S'.data.toList = S.data.toList.drop n) \/ (e' = 4 /\ S.size < n /\ X = ⟨#[]⟩))
def BytP (W : World) (tb : Nat) (S : ByteArray) (e : Int) (n : Nat) (r : Ending) (w' : World) : Prop :=
 ∃ (X S' : ByteArray) (e' : Int), r = .returned (.string X) /\ TakAt w' tb S' e' /\ ButB W.heap.size tb W w' /\ BytR S e n X S' e'
set_option maxHeartbeats 2000000 in
set_option maxRecDepth 1000000 in
theorem bytes_tak {W : World} {tb : Nat} {S : ByteArray} {e : Int} {n : Nat} (hT : TakAt W tb S e) (hn : n <= 1099511627776) :
  Calls Tryz.prog 77 #[.pointer (some ⟨tb, 0, none⟩), .int .i64 (n : Int)] W (BytP W tb S e n) := by
 obtain ⟨c0, c1, f0, f1⟩ := tak_cells hT
 by_cases he : e = 0
 ·
  subst he
  by_cases hle : n <= S.size
  ·
   have h1 : ¬ (S.size : Int) < (n : Int) := by omega
   have h2 : (n : Int) <= (S.size : Int) := by omega
   have hT' := Lib.hid (tak_set0 hT (S.extract n S.size))
   have hx : (S.extract 0 n).data.toList = S.data.toList.take n := by
    rw [ByteArray.data_extract, Array.toList_extract, List.extract_eq_take_drop]; simp
   have hd : (S.extract n S.size).data.toList = S.data.toList.drop n := by
    rw [ByteArray.data_extract, Array.toList_extract, List.extract_eq_take_drop, List.take_of_length_le (by rw [List.length_drop]; simp)]
   have hz : (S.extract n S.size).size <= S.size /\ (S.extract 0 n).size <= n := by rw [ByteArray.size_extract, ByteArray.size_extract]; omega
   have hx' := Lib.hid hx
   have hd' := Lib.hid hd
   have hz' := Lib.hid hz
   clear hT hx hd hz
   go_enter Tryz.func77, Tryz.ntmps77
   go_wp2
   go_ret
   exact ⟨_, _, 0, rfl, hT'.out, but_set (ButB.refl _ _ _) _, hz'.out.1, hz'.out.2, fun h => absurd rfl h, fun _ => .inl ⟨rfl, hle, hx'.out, hd'.out⟩⟩
  ·
   have h1 : (S.size : Int) < (n : Int) := by omega
   have hT1 := tak_set1 hT 4
   obtain ⟨d0, d1, _, _⟩ := tak_cells hT1
   have hT' := Lib.hid hT1
   clear hT hT1
   go_enter Tryz.func77, Tryz.ntmps77
   go_wp2
   go_ret
   exact ⟨_, S, 4, rfl, hT'.out, but_set (ButB.refl _ _ _) _, Nat.le_refl _, Nat.zero_le _, fun h => absurd rfl h, fun _ => .inr ⟨rfl, by omega, rfl⟩⟩
 ·
  have hT' := Lib.hid hT
  clear hT
  go_enter Tryz.func77, Tryz.ntmps77
  go_wp2
  go_ret
  exact ⟨_, S, e, rfl, hT'.out, ButB.refl _ _ _, Nat.le_refl _, Nat.zero_le _, fun _ => ⟨rfl, rfl, rfl⟩, fun h => absurd h he⟩
end Go.Proofs
