/- pollardref02.Unnum, pollardref04.num. -/
import Derived.Test.YthnojgpobfpgeaaGreatDoorTSprE
import Derived.Deep.QuietTactic
/-! pollardref02.Unnum, pollardref04.num. -/
namespace Go.Proofs
open Go.RowKit Go.Ev Go.Lib
attribute [local go_sem] Oper.semAt_some

theorem bU_le {i : Nat} (h : i ≤ 8) : 127 * bU i + 128 ≤ 9223372036854775808 := by
 have : ∀ k : Fin 9, 127 * bU k.1 + 128 ≤ 9223372036854775808 := by decide
 exact this ⟨i, by omega⟩
set_option maxHeartbeats 4000000 in
set_option maxRecDepth 1000000 in
theorem run_calls (s : ByteArray) (hs : s.size ≤ 1099511627776) (w : World) :
  Calls Tryz.prog 79 #[.string s] w fun e w' => UnnP s.data.toList e ∧ w' = w := by
 have hsl : s.data.toList.length = s.size := by simp
 go_enter Tryz.func79, Tryz.ntmps79
 go_wp2
 go_loopw [5, 6, 7, 8] (fun vn vf vz vi wr => wr = w ∧ ∃ i rn np : Nat, ∃ z : Int, i ≤ s.size ∧ i ≤ 9 ∧ np ≤ bU i ∧ 128 * np = 128 * rn + bU i ∧ vi = .int .i64 i ∧ vn = .int .u64 rn ∧ vf = .int .u64 (bU i) ∧ vz = .int .u64 z ∧ (i ≤ 8 → z = 127 * bU i + 128) ∧ unnumR (s.data.toList.drop i) i np = unnumL s.data.toList) (fun _ _ _ v _ => s.size - (valOf v).toNat)
 case atStart => exact ⟨rfl, 0, 0, 0, 128, Nat.zero_le _, by omega, Nat.le_refl _, rfl, rfl, rfl, rfl, rfl, fun _ => rfl, rfl⟩
 case round =>
  obtain ⟨rfl, i, rn, np, z, hi, hi9, hnp, hrel, rfl, rfl, rfl, rfl, hz, hU⟩ := hrel
  by_cases h9 : i = 9
  ·
   have h9' : ¬ (i : Int) < 9 := by omega
   have hN : unnumL s.data.toList = none := by
    rw [← hU]
    by_cases hlt : i < s.size
    ·
     rw [unnumR_at (show i < s.data.toList.length by omega), if_pos h9]
    ·
     exact unnumR_more (by omega) i
   clear hU hz
   go_wp2
   go_ret3
   exact ⟨unn_none 6 (if_pos (by omega)) hN, rfl⟩
  ·
   have h9' : (i : Int) < 9 := by omega
   have hz8 := hz (by omega)
   clear hz
   by_cases hlt : i < s.size
   ·
    have hlt' : ¬ (s.size : Int) ≤ (i : Int) := by omega
    have hlt2 : (i : Int) < (s.size : Int) := by omega
    rw [unnumR_at (show i < s.data.toList.length by omega), if_neg h9] at hU
    have hcc : s.data.toList[i]'(by omega) = s[i]'hlt := rfl
    rw [hcc] at hU
    have hN255 : (s[i]'hlt).toNat < 256 := (s[i]'hlt).toNat_lt
    have hB := bU_lt (i := i + 1) (by omega)
    have hb1 : bU (i + 1) = 128 * bU i + 128 := rfl
    have hzl := bU_le (i := i) (by omega)
    obtain ⟨N, hN⟩ : ∃ N, N = (s[i]'hlt).toNat := ⟨_, rfl⟩
    rw [← hN] at hU hN255
    have a1 : IntKind.u64.wrap ((rn : Int) * 128) = ((rn * 128 : Nat) : Int) := by
     have h := wrapU64 (rn * 128) (by omega)
     push_cast at h ⊢
     exact h
    have a2 : IntKind.u64.wrap (N : Int) = (N : Int) := wrapU64 _ (by omega)
    have a3 : Int.tmod (N : Int) 128 = ((N % 128 : Nat) : Int) := rfl
    have a4 : IntKind.u64.wrap (((rn * 128 : Nat) : Int) + (N : Int) % 128) = ((rn * 128 + N % 128 : Nat) : Int) := by
     rw [show ((rn * 128 : Nat) : Int) + (N : Int) % 128 = ((rn * 128 + N % 128 : Nat) : Int) by omega]
     exact wrapU64 _ (by omega)
    have a5 : IntKind.u64.wrap ((bU i : Int) + ((rn * 128 + N % 128 : Nat) : Int)) = ((np * 128 + N % 128 : Nat) : Int) := by
     rw [← Int.natCast_add, show bU i + (rn * 128 + N % 128) = np * 128 + N % 128 by omega]
     exact wrapU64 _ (by omega)
    have a6 : IntKind.u64.wrap ((bU i : Int) + (127 * (bU i : Int) + 128)) = ((bU (i + 1) : Nat) : Int) := by
     rw [show (bU i : Int) + (127 * (bU i : Int) + 128) = ((bU (i + 1) : Nat) : Int) by rw [hb1]; push_cast; omega]
     exact wrapU64 _ hB
    have a7 : i + 1 ≤ 8 → IntKind.u64.wrap ((127 * (bU i : Int) + 128) * 128) = 127 * (bU (i + 1) : Int) + 128 := by
     intro h8
     have h9 := bU_le h8
     rw [show (127 * (bU i : Int) + 128) * 128 = ((127 * bU (i + 1) + 128 : Nat) : Int) by rw [hb1]; push_cast; omega]
     rw [wrapU64 _ (by omega)]
     push_cast
     rfl
    have hstep : 128 * (np * 128 + N % 128 + 1) = 128 * (rn * 128 + N % 128) + bU (i + 1) ∧ np * 128 + N % 128 + 1 ≤ bU (i + 1) := by omega
    have A := Lib.hid (And.intro a1 (And.intro a2 (And.intro a3 (And.intro a4 (And.intro a5 (And.intro a6 a7))))))
    clear a1 a2 a3 a4 a5 a6 a7
    have hU' := Lib.hid hU
    have hS' := Lib.hid hstep
    by_cases hc : N < 128
    ·
     have hc' : ((s[i]'hlt).toNat : Int) < 128 := by omega
     clear hU hstep hb1 hB hzl
     go_wp2
     go_ret3
     obtain ⟨a1, a2, a3, a4, a5, a6, a7⟩ := A.out
     refine ⟨?_, rfl⟩
     simp only [← hN]
     rw [a1, a4, a5]
     have hU2 := hU'.out
     rw [if_pos hc] at hU2
     exact unn_some hU2.symm
    ·
     have hc' : ¬ ((s[i]'hlt).toNat : Int) < 128 := by omega
     clear hU hstep hb1 hB hzl
     go_wp2
     obtain ⟨a1, a2, a3, a4, a5, a6, a7⟩ := A.out
     simp only [← hN]
     rw [a1, a4, a6]
     have hU2 := hU'.out
     rw [if_neg hc] at hU2
     refine ⟨⟨trivial, i + 1, rn * 128 + N % 128, np * 128 + N % 128 + 1, _, by omega, by omega, hS'.out.2, hS'.out.1, by push_cast; rfl, rfl, rfl, rfl, a7, hU2⟩, ?_⟩
     simp [valOf]
     omega
   ·
    have hlt' : (s.size : Int) ≤ (i : Int) := by omega
    have hN : unnumL s.data.toList = none := by
     rw [← hU]
     exact unnumR_more (by omega) i
    clear hU
    go_wp2
    go_ret3
    exact ⟨unn_none 4 (if_neg (by omega)) hN, rfl⟩
end Go.Proofs

/-! pollardref04.num. -/
namespace Go.Proofs
open Go.RowKit Go.Ev Go.Lib
attribute [local go_sem] Oper.semAt_some

theorem below_drewK (w : World) : ∀ n, Below w.heap.size w (w.drewN n)
 | 0 => Below.refl _ _
 | n + 1 => (below_drewK w n).drew
/-- What the reference's num answers. -/
def RNum (s : ByteArray) (most c : Nat) (X : ByteArray) (e : Int) : Prop := X.size ≤ s.size ∧ ((e = 0 ∧ takS s.data.toList most = some (c, X.data.toList)) ∨ (e = numE s.data.toList ∧ takS s.data.toList most = none))
def RNumP (s : ByteArray) (most : Nat) (r : Ending) : Prop := ∃ (c : Nat) (X : ByteArray) (e : Int), r = .returned (.tuple #[.int .i64 (c : Int), .string X, .int .i64 e]) ∧ RNum s most c X e

set_option maxHeartbeats 2000000 in
set_option maxRecDepth 1000000 in
theorem rnum_calls {s : ByteArray} {most : Nat} (hs : s.size ≤ 1099511627776) (hm : most ≤ 1099511627776) (w : World) :
  Calls Tryz.prog 39 #[.string s, .int .i64 (most : Int)] w fun r w' => RNumP s most r ∧ Below w.heap.size w w' := by
 cases hU : unnumL s.data.toList with
 | none =>
  obtain ⟨c, hc⟩ : ∃ c, c = unnE s.data.toList := ⟨_, rfl⟩
  have hc0 : ¬ c = 0 := hc ▸ unnE_ne _
  have hu : Hid (∀ w, Calls Tryz.prog 79 #[.string s] w fun e w' => e = .returned (.tuple #[.int .u64 0, .int .i64 0, .int .i64 c]) ∧ w' = w) := Lib.hid fun w => (run_calls s hs w).mono fun e w' ⟨h1, h2⟩ => ⟨by unfold UnnP at h1; rw [hU, ← hc] at h1; exact h1, h2⟩
  have hU' := Lib.hid hU
  have hc' := Lib.hid hc
  clear hU hc
  go_enter Tryz.func39, Tryz.ntmps39
  go_wp2_with (go_at_call 79; refine (hu.out _).mono ?_; rintro r w1 ⟨rfl, rfl⟩)
  go_ret3
  exact ⟨⟨0, s, c, rfl, Nat.le_refl _, .inr ⟨by unfold numE; rw [hU'.out]; exact hc'.out, by unfold takS; rw [hU'.out]⟩⟩, Below.refl _ _⟩
 | some p =>
  obtain ⟨v, k⟩ := p
  have hu : Hid (∀ w, Calls Tryz.prog 79 #[.string s] w fun e w' => e = .returned (.tuple #[.int .u64 (v : Int), .int .i64 (k : Int), .int .i64 0]) ∧ w' = w) := Lib.hid fun w => (run_calls s hs w).mono fun e w' ⟨h1, h2⟩ => ⟨by unfold UnnP at h1; rw [hU] at h1; exact h1, h2⟩
  have hk : k ≤ s.size := by
   have := unnumR_le _ 0 0 v k hU
   simpa using this
  have hk1 : (k : Int) ≤ (s.size : Int) := by omega
  have hk2 : ¬ (s.size : Int) < (k : Int) := by omega
  have wm : IntKind.u64.wrap (most : Int) = (most : Int) := wrapU64 _ (by omega)
  have hdrop : (s.extract k s.size).data.toList = s.data.toList.drop k := by
   rw [ByteArray.data_extract, Array.toList_extract, List.extract_eq_take_drop, List.take_of_length_le (by rw [List.length_drop]; simp)]
  have hsz : (s.extract k s.size).size ≤ s.size := by rw [ByteArray.size_extract]; omega
  have hU' := Lib.hid hU
  have hd' := Lib.hid hdrop
  have hz' := Lib.hid hsz
  clear hU hdrop hsz
  by_cases hv : v ≤ most
  ·
   have hv1 : ¬ (most : Int) < (v : Int) := by omega
   have wv : IntKind.i64.wrap (v : Int) = (v : Int) := wrapI64 _ (by omega)
   go_enter Tryz.func39, Tryz.ntmps39
   go_wp2_with (go_at_call 79; refine (hu.out _).mono ?_; rintro r w1 ⟨rfl, rfl⟩)
   go_quiet (fail)
   go_wp2
   go_ret3
   exact ⟨⟨v, s.extract k s.size, 0, rfl, hz'.out, .inl ⟨rfl, by unfold takS; rw [hU'.out, hd'.out]; exact if_pos hv⟩⟩, below_drewK _ _⟩
  ·
   have hv1 : (most : Int) < (v : Int) := by omega
   go_enter Tryz.func39, Tryz.ntmps39
   go_wp2_with (go_at_call 79; refine (hu.out _).mono ?_; rintro r w1 ⟨rfl, rfl⟩)
   go_ret3
   exact ⟨⟨0, s, 6, rfl, Nat.le_refl _, .inr ⟨by unfold numE; rw [hU'.out], by unfold takS; rw [hU'.out]; exact if_neg hv⟩⟩, Below.refl _ _⟩
end Go.Proofs
