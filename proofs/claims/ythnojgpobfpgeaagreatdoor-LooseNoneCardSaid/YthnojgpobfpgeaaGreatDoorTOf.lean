/- sum.New, sum.Of. -/
import Derived.Test.YthnojgpobfpgeaaGreatDoorTMid
import Derived.Deep.RegionWith
/-! sum.New, sum.Of. -/
namespace Go.Proofs
open Go.RowKit Go.Ev
/-- Where Ticket stands. -/
structure InvT (b base : Nat) (T : List UInt8) (w : World) : Prop where
 lt : b < base
 le : base ≤ w.heap.size
 st : ∃ held, StAt w b (absN (T.length / 64) hw0 T) held T.length ∧ BytesAt w base 5 held (T.drop (64 * (T.length / 64)))

theorem write_str {b base : Nat} {T : List UInt8} {w w' : World} (hI : InvT b base T w) (hS : Sb w w') (m : List UInt8) (hm : T.length + m.length ≤ 1099511627776) :
  Calls Tryz.prog 108 #[.pointer (some ⟨b, 0, none⟩), str m] w' fun e w'' => e = .returned noResult ∧ InvT b base (T ++ m) w'' ∧ ButB base b w' w'' := by
 obtain ⟨h1, h2, held, hSt, hB⟩ := hI
 have hsz := Below.size hS
 have hSt' := hSt.but (w' := w') (hS.block b (by omega))
 have hB' : BytesAt w' base 5 held (T.drop (64 * (T.length / 64))) := hB.kept fun g hg => hS.block g (hB.lt g hg).2
 have hdl : (T.drop (64 * (T.length / 64))).length = T.length - 64 * (T.length / 64) := List.length_drop
 have hsm : (⟨⟨m⟩⟩ : ByteArray).size = m.length := rfl
 refine (write_calls (absN_lt (T.length / 64) hw0_lt T) h1 (by omega) hSt' hB' ⟨⟨m⟩⟩ (by rw [hsm]; omega) (by rw [hsm, hdl]; omega)).mono ?_
 rintro e w'' ⟨rfl, held', hS2, hB2, hBut⟩
 refine ⟨rfl, ⟨h1, Nat.le_trans (Nat.le_trans h2 hsz) hBut.size, held', ?_, ?_⟩, hBut⟩
 ·
  have e1 : T.drop (64 * (T.length / 64)) ++ m = (T ++ m).drop (64 * (T.length / 64)) := by rw [List.drop_append_of_le_length (by omega)]
  have e2 : absN (T.length / 64) hw0 T = absN (T.length / 64) hw0 (T ++ m) := (absN_app _ _ _ _ (by omega)).symm
  have e3 : (T ++ m).length = T.length + m.length := List.length_append
  have hS2' : StAt w'' b (absN ((T.drop (64 * (T.length / 64)) ++ m).length / 64) (absN (T.length / 64) hw0 T) (T.drop (64 * (T.length / 64)) ++ m)) held' (T.length + m.length) := hS2
  rw [e1, e2, ← absN_add, List.length_drop, e3, show T.length / 64 + (T.length + m.length - 64 * (T.length / 64)) / 64 = (T.length + m.length) / 64 by omega] at hS2'
  rw [e3]; exact hS2'
 ·
  have e3 : (T ++ m).length = T.length + m.length := List.length_append
  have hB2' : BytesAt w'' base 5 held' ((T.drop (64 * (T.length / 64)) ++ m).drop (64 * ((T.drop (64 * (T.length / 64)) ++ m).length / 64))) := hB2
  have e1 : T.drop (64 * (T.length / 64)) ++ m = (T ++ m).drop (64 * (T.length / 64)) := by rw [List.drop_append_of_le_length (by omega)]
  rw [e1, List.drop_drop, List.length_drop, e3, show 64 * (T.length / 64) + 64 * ((T.length + m.length - 64 * (T.length / 64)) / 64) = 64 * ((T.length + m.length) / 64) by omega] at hB2'
  rw [e3]; exact hB2'

set_option maxHeartbeats 1000000 in
set_option maxRecDepth 1000000 in
theorem begin_calls (w : World) : Calls Tryz.prog 135 #[] w fun e w' => e = .returned (.agg ⟨wordsC hw0⟩) ∧ Below w.heap.size w w' := by
 go_enter Tryz.func135, Tryz.ntmps135
 go_wp2
 have hres : Tryz.f135.results = #[.cell 0 122] := by kernel_rfl
 refine bodyPost_ret (v := .agg ⟨wordsC hw0⟩) ?_ rfl ⟨rfl, (Below.refl _ _).alloc (Nat.le_refl _) _⟩
 exact results_cell_row hres _ _ w.heap.size 122 _ (0, 0) _ rfl (heap_alloc_new w _) Tryz.underlying122 rfl info83s
set_option maxHeartbeats 1000000 in
set_option maxRecDepth 1000000 in
theorem new_calls (w : World) : Calls Tryz.prog 107 #[] w fun e w' => ∃ b, e = .returned (.pointer (some ⟨b, 0, none⟩)) ∧ StAt w' b hw0 (.slice none 0 0) 0 ∧ w.heap.size ≤ b ∧ b < w'.heap.size ∧ Below w.heap.size w w' := by
 go_enter Tryz.func107, Tryz.ntmps107
 go_wp2_with (go_at_call 135; refine (begin_calls _).mono ?_; rintro e w' ⟨rfl, hb⟩)
 have hres : Tryz.f107.results = #[.tmp 0] := by kernel_rfl
 refine bodyPost_ret (v := .pointer (some ⟨w'.heap.size, 0, none⟩)) ?_ rfl ⟨_, rfl, ⟨(0, 0), ?_, fun j _ => by omega⟩, Below.size hb, ?_, hb.alloc (Below.size hb) _⟩
 ·
  rw [results_tmp hres]; rfl
 ·
  rw [heap_alloc_new]; rfl
 ·
  simp

theorem sum_inv {b base : Nat} {T : List UInt8} {w : World} (hI : InvT b base T w) (hT : T.length ≤ 1073741824) : Calls Tryz.prog 109 #[.pointer (some ⟨b, 0, none⟩)] w fun e w' => e = .returned (str (shaF T)) ∧ Below w.heap.size w w' := by
 obtain ⟨h1, h2, held, hSt, hB⟩ := hI
 have hdl : (T.drop (64 * (T.length / 64))).length = T.length - 64 * (T.length / 64) := List.length_drop
 refine (sum_calls (absN_lt (T.length / 64) hw0_lt T) hSt hB (by omega) (by omega) (by omega)).mono ?_
 rintro e w' ⟨rfl, hb⟩
 refine ⟨?_, hb⟩
 have e1 : T.drop (64 * (T.length / 64)) ++ pad T.length = (T ++ pad T.length).drop (64 * (T.length / 64)) := by rw [List.drop_append_of_le_length (by omega)]
 have e2 : absN (T.length / 64) hw0 T = absN (T.length / 64) hw0 (T ++ pad T.length) := (absN_app _ _ _ _ (by omega)).symm
 have e3 : (T ++ pad T.length).length = T.length + (pad T.length).length := List.length_append
 rw [e1, e2, ← absN_add, List.length_drop, e3, show T.length / 64 + (T.length + (pad T.length).length - 64 * (T.length / 64)) / 64 = (T.length + (pad T.length).length) / 64 by omega]
 unfold shaF
 rw [e3]

set_option maxHeartbeats 1000000 in
set_option maxRecDepth 1000000 in
theorem of_calls (s : ByteArray) (hs : s.size ≤ 1073741824) (w : World) : Calls Tryz.prog 63 #[.string s] w fun e w' => e = .returned (str (shaF s.data.toList)) ∧ Below w.heap.size w w' := by
 have hI1 := @write_str
 have hI2 := @sum_inv
 have hsl : s.data.toList.length = s.size := by simp
 go_enter Tryz.func63, Tryz.ntmps63
 go_wp2_with (first
  | (go_at_call 107; refine (new_calls _).mono ?_; rintro e w1 ⟨b, rfl, hSt, hwb, hb, hbel⟩; have hSt' := Lib.hid hSt; have hbel' := Lib.hid hbel; clear hSt hbel)
  | (go_at_call 108; refine (write_str (T := []) (base := b + 1) (w := w1) ⟨Nat.lt_succ_self _, by omega, .slice none 0 0, by simpa [absN] using hSt'.out, .inl ⟨rfl, rfl⟩⟩ (Sb.refl _) s.data.toList (by simp; omega)).mono ?_; rintro e w2 ⟨rfl, hI, hbut⟩; have hI' := Lib.hid hI; have hbut' := Lib.hid hbut; clear hI hbut)
  | (go_at_call 109; refine (sum_inv hI'.out (by simp; omega)).mono ?_; rintro e w3 ⟨rfl, hb3⟩))
 go_ret
 refine ⟨rfl, ?_⟩
 have hsz := hbut'.out.size
 have hs1 := Below.size hbel'.out
 exact (hbel'.out.trans ⟨hbut'.out.os, hbut'.out.tape, hbut'.out.output, hbut'.out.size, fun k hk => hbut'.out.block k (by omega) (by omega)⟩).trans (hb3.mono (by omega))
end Go.Proofs
