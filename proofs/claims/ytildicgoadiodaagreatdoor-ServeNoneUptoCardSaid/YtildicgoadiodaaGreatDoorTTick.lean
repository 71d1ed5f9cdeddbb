/- strings.Join, by the kit's shelf. -/
import Derived.Shelf.Strings.OnBuilder
import Derived.Test.YtildicgoadiodaaGreatDoorTSumD
import Derived.Deep.RegionWith
/-! strings.Join, by the kit's shelf. -/
namespace Go.Proofs
open Go.RowKit Go.Sort Go.Shelf
def Tryz.join43_ren : Go.Shelf.Ren := ⟨fun | 156 => 43 | 165 => 81 | 166 => 82 | 169 => 83 | 240 => 135 | 241 => 136 | 276 => 192 | 277 => 193 | n => n, fun | 31 => 23 | 9 => 9 | 3 => 3 | 4 => 4 | 0 => 0 | 20 => 20 | 72 => 173 | 76 => 177 | 70 => 171 | 37 => 35 | 75 => 176 | 127 => 232 | 164 => 285 | 5 => 5 | 80 => 80 | n => n, fun | n => n⟩
theorem Tryz.join43 : Go.Proofs.Lays.n156 Tryz.prog Tryz.join43_ren := {mixed := by kernel_rfl, f156 := Tryz.func43.trans (congrArg some (by kernel_rfl)), f165 := Tryz.func81.trans (congrArg some (by kernel_rfl)), f166 := Tryz.func82.trans (congrArg some (by kernel_rfl)), f169 := Tryz.func83.trans (congrArg some (by kernel_rfl)), f240 := Tryz.func135.trans (congrArg some (by kernel_rfl)), f241 := Tryz.func136.trans (congrArg some (by kernel_rfl)), f276 := Tryz.func192.trans (congrArg some (by kernel_rfl)), f277 := Tryz.func193.trans (congrArg some (by kernel_rfl)), t0 := Tryz.underlying0, a0 := Tryz.isAgg0, z0 := Tryz.sizeOf0, v0 := Tryz.zeroValue0, t3 := Tryz.underlying3, a3 := Tryz.isAgg3, z3 := Tryz.sizeOf3, v3 := Tryz.zeroValue3, t4 := Tryz.underlying4, a4 := Tryz.isAgg4, z4 := Tryz.sizeOf4, v4 := Tryz.zeroValue4, t9 := Tryz.underlying9, a9 := Tryz.isAgg9, z9 := Tryz.sizeOf9, v9 := Tryz.zeroValue9, t20 := Tryz.underlying20, a20 := Tryz.isAgg20, z20 := Tryz.sizeOf20, v20 := Tryz.zeroValue20, t31 := Tryz.underlying23, a31 := Tryz.isAgg23, z31 := Tryz.sizeOf23, v31 := Tryz.zeroValue23, t37 := Tryz.underlying35, a37 := Tryz.isAgg35, z37 := Tryz.sizeOf35, v37 := Tryz.zeroValue35, t70 := Tryz.underlying171, a70 := Tryz.isAgg171, z70 := Tryz.sizeOf171, v70 := Tryz.zeroValue171, t72 := Tryz.underlying173, a72 := Tryz.isAgg173, z72 := Tryz.sizeOf173, v72 := Tryz.zeroValue173, t75 := Tryz.underlying176, a75 := Tryz.isAgg176, z75 := Tryz.sizeOf176, v75 := Tryz.zeroValue176, t76 := Tryz.underlying177, a76 := Tryz.isAgg177, z76 := Tryz.sizeOf177, v76 := Tryz.zeroValue177, t127 := Tryz.underlying232, a127 := Tryz.isAgg232, z127 := Tryz.sizeOf232, v127 := Tryz.zeroValue232, t164 := Tryz.underlying285, a164 := Tryz.isAgg285, z164 := Tryz.sizeOf285, v164 := Tryz.zeroValue285}
theorem Tryz.join43_X : Builder.Extra Tryz.prog Tryz.join43_ren := { sizeBuilder := by kernel_rfl, liesBuilder := by kernel_rfl, t5 := Tryz.underlying5, a5 := Tryz.isAgg5, z5 := Tryz.sizeOf5, v5 := Tryz.zeroValue5, infoByte := by kernel_rfl, cellsByte := by kernel_rfl, sizeByte := by kernel_rfl, neB5 := by decide }
end Go.Proofs

/-! serve.Ticket. -/
namespace Go.Proofs
open Go.RowKit Go.Ev
theorem lit30 {a : Act} (hs : a.tmps.size = 30) (hd : a.defers = []) : ∃ x0 x1 x2 x3 x4 x5 x6 x7 x8 x9 x10 x11 x12 x13 x14 x15 x16 x17 x18 x19 x20 x21 x22 x23 x24 x25 x26 x27 x28 x29 : Value, a = ⟨#[x0, x1, x2, x3, x4, x5, x6, x7, x8, x9, x10, x11, x12, x13, x14, x15, x16, x17, x18, x19, x20, x21, x22, x23, x24, x25, x26, x27, x28, x29], []⟩ := by
  obtain ⟨⟨l⟩, d⟩ := a
  subst hd
  have hs : l.length = 30 := hs
  obtain _ | ⟨x0, l⟩ := l
  · cases hs
  obtain _ | ⟨x1, l⟩ := l
  · cases hs
  obtain _ | ⟨x2, l⟩ := l
  · cases hs
  obtain _ | ⟨x3, l⟩ := l
  · cases hs
  obtain _ | ⟨x4, l⟩ := l
  · cases hs
  obtain _ | ⟨x5, l⟩ := l
  · cases hs
  obtain _ | ⟨x6, l⟩ := l
  · cases hs
  obtain _ | ⟨x7, l⟩ := l
  · cases hs
  obtain _ | ⟨x8, l⟩ := l
  · cases hs
  obtain _ | ⟨x9, l⟩ := l
  · cases hs
  obtain _ | ⟨x10, l⟩ := l
  · cases hs
  obtain _ | ⟨x11, l⟩ := l
  · cases hs
  obtain _ | ⟨x12, l⟩ := l
  · cases hs
  obtain _ | ⟨x13, l⟩ := l
  · cases hs
  obtain _ | ⟨x14, l⟩ := l
  · cases hs
  obtain _ | ⟨x15, l⟩ := l
  · cases hs
  obtain _ | ⟨x16, l⟩ := l
  · cases hs
  obtain _ | ⟨x17, l⟩ := l
  · cases hs
  obtain _ | ⟨x18, l⟩ := l
  · cases hs
  obtain _ | ⟨x19, l⟩ := l
  · cases hs
  obtain _ | ⟨x20, l⟩ := l
  · cases hs
  obtain _ | ⟨x21, l⟩ := l
  · cases hs
  obtain _ | ⟨x22, l⟩ := l
  · cases hs
  obtain _ | ⟨x23, l⟩ := l
  · cases hs
  obtain _ | ⟨x24, l⟩ := l
  · cases hs
  obtain _ | ⟨x25, l⟩ := l
  · cases hs
  obtain _ | ⟨x26, l⟩ := l
  · cases hs
  obtain _ | ⟨x27, l⟩ := l
  · cases hs
  obtain _ | ⟨x28, l⟩ := l
  · cases hs
  obtain _ | ⟨x29, l⟩ := l
  · cases hs
  obtain _ | ⟨y, l⟩ := l
  · exact ⟨_, _, _, _, _, _, _, _, _, _, _, _, _, _, _, _, _, _, _, _, _, _, _, _, _, _, _, _, _, _, rfl⟩
  · simp at hs

/-- A slice that reads as these texts. -/
def StrsAt (w : World) (v : Value) (xs : List ByteArray) : Prop :=
  (xs = [] ∧ ∃ a c, v = .slice a 0 c) ∨ ∃ bk o c, v = .slice (some ⟨bk, o, none⟩) xs.length c ∧ xs.length ≤ c ∧ xs.length ≤ 140737488355328 ∧ bk < w.heap.size ∧ ∀ (j : Nat) x, xs[j]? = some x → w.cell? ⟨bk, o + j, none⟩ = some (.string x)
def catL (xs : List ByteArray) : List UInt8 := (xs.map (·.data.toList)).flatten
theorem join_empty : ∀ (l : List (List UInt8)), Lib.join l [] = l.flatten
  | [] => rfl
  | [x] => by simp [Lib.join]
  | x :: y :: l => by
    have := join_empty (y :: l)
    simp only [Lib.join, List.flatten_cons] at this ⊢
    simp_all
theorem join_calls {w : World} {v : Value} {xs : List ByteArray} (h : StrsAt w v xs) (hl : (catL xs).length ≤ 1099511627776) :
    Calls Tryz.prog 43 #[v, .string ⟨#[]⟩] w fun e w' => e = .returned (str (catL xs)) ∧ Below w.heap.size w w' := by
  rcases h with ⟨rfl, a, c, rfl⟩ | ⟨bk, o, c, rfl, hc, hn, hb, hcell⟩
  · exact (Any.strings_Join_none Tryz.join43 Tryz.join43_X a c ⟨#[]⟩ w).mono fun e w' ⟨he, hw⟩ => ⟨he, hw ▸ Below.refl _ _⟩
  · have hj : Lib.join (xs.map (·.data.toList)) (⟨#[]⟩ : ByteArray).data.toList = catL xs := join_empty _
    have := Any.strings_Join Tryz.join43 Tryz.join43_X bk o c xs ⟨#[]⟩ w hcell hb hn hc (by rw [hj]; omega)
    rw [hj] at this
    exact this

/-- What was there is as it was. -/
def Sb (w w' : World) : Prop := Below w.heap.size w w'
theorem Sb.alloc {w w' : World} (h : Sb w w') (o : Obj) : Sb w (w'.alloc o) := Below.alloc h (Below.size h) o
theorem Sb.drew {w w' : World} (h : Sb w w') : Sb w w'.drew := Below.drew h
theorem Sb.trans {w w' w'' : World} (h : Sb w w') (k : Below w'.heap.size w' w'') : Sb w w'' := Below.trans h (k.mono (Below.size h))
theorem Sb.toB {w w' : World} (h : Sb w w') {B b : Nat} (hB : B ≤ w.heap.size) : ButB B b w w' := ⟨h.os, h.tape, h.output, h.size, fun k h1 _ => h.block k (by omega)⟩
theorem Sb.refl (w : World) : Sb w w := Below.refl _ _
theorem StrsAt.below {w w' : World} {v : Value} {xs : List ByteArray} (h : StrsAt w v xs) (hS : Sb w w') : StrsAt w' v xs := by
  rcases h with h | ⟨bk, o, c, hv, hc, hn, hb, hcell⟩
  · exact .inl h
  · exact .inr ⟨bk, o, c, hv, hc, hn, Nat.lt_of_lt_of_le hb (Below.size hS), fun j x hx => by rw [Below.cell (p := ⟨bk, o + j, none⟩) hS hb]; exact hcell j x hx⟩

/-- Where Ticket stands. -/
structure InvT (b base : Nat) (T : List UInt8) (w : World) : Prop where
  lt : b < base
  le : base ≤ w.heap.size
  st : ∃ held, StAt w b (absN (T.length / 64) hw0 T) held T.length ∧ BytesAt w base 5 held (T.drop (64 * (T.length / 64)))

/-- At the end alone. -/
def Nrm (T : Act → World → Prop) : Exit → Act → World → Prop
  | .normal, a, w => T a w
  | _, _, _ => False
noncomputable def L11 : List Code := codes (Tryz.f11.body.getD .skip)
noncomputable def L11a : List Code := codes (loopB (itemN L11 3))
noncomputable def L11b : List Code := codes (blockB (itemN L11a 2))

theorem conv_one (k : Int) (hk : 0 ≤ k ∧ k < 256) (W : World) (g : Nat) (hc : W.cell? ⟨g, 0, none⟩ = some (.int .u8 k)) : (convert 35 9 (.slice (some ⟨g, 0, none⟩) 1 1)).run Tryz.prog W = .ok (str [UInt8.ofNat k.toNat]) W := by
  have := run_convert_bytes_back (P := Tryz.prog) W 35 9 5 ⟨g, 0, none⟩ 1 [UInt8.ofNat k.toNat] Tryz.underlying35 Tryz.underlying5 Tryz.underlying9 ?_
  · exact this
  · intro j hj
    have hj0 : j = 0 := by simpa using hj
    subst hj0
    have h1 : (⟨g, 0, none⟩ : Addr).add 0 = ⟨g, 0, none⟩ := rfl
    rw [h1, hc]
    show some (Value.int .u8 k) = some (Value.int .u8 ((UInt8.ofNat k.toNat).toNat : Int))
    congr 2
    rw [UInt8.toNat_ofNat']
    omega
theorem bcell {W w1 : World} (hb : Below W.heap.size W w1) : (∀ b o, b < W.heap.size → w1.cell? ⟨b, o, none⟩ = W.cell? ⟨b, o, none⟩) ∧ (∀ b o, b < W.heap.size → w1.frozen? ⟨b, o, none⟩ = W.frozen? ⟨b, o, none⟩) :=
  ⟨fun b o h => hb.cell (p := ⟨b, o, none⟩) h, fun b o h => hb.frozen (p := ⟨b, o, none⟩) h⟩
theorem add_str (W : World) {l m : List UInt8} (h : l.length + m.length ≤ 1099511627776) : (Go.binOp .add 9 (str l) (str m)).run Tryz.prog W = .ok (str (l ++ m)) W :=
  strOp_ok (strAdd h)
theorem write_str {b base : Nat} {T : List UInt8} {w w' : World} (hI : InvT b base T w) (hS : Sb w w') (m : List UInt8) (hm : T.length + m.length ≤ 1099511627776) :
    Calls Tryz.prog 42 #[.pointer (some ⟨b, 0, none⟩), str m] w' fun e w'' => e = .returned noResult ∧ InvT b base (T ++ m) w'' ∧ ButB base b w' w'' := by
  obtain ⟨h1, h2, held, hSt, hB⟩ := hI
  have hsz := Below.size hS
  have hSt' := hSt.but (w' := w') (hS.block b (by omega))
  have hB' : BytesAt w' base 5 held (T.drop (64 * (T.length / 64))) := hB.kept fun g hg => hS.block g (hB.lt g hg).2
  have hdl : (T.drop (64 * (T.length / 64))).length = T.length - 64 * (T.length / 64) := List.length_drop
  have hsm : (⟨⟨m⟩⟩ : ByteArray).size = m.length := rfl
  refine (write_calls (absN_lt (T.length / 64) hw0_lt T) h1 (by omega) hSt' hB' ⟨⟨m⟩⟩ (by rw [hsm]; omega) (by rw [hsm, hdl]; omega)).mono ?_
  rintro e w'' ⟨rfl, held', hS2, hB2, hBut⟩
  refine ⟨rfl, ⟨h1, Nat.le_trans (Nat.le_trans h2 hsz) hBut.size, held', ?_, ?_⟩, hBut⟩
  · have e1 : T.drop (64 * (T.length / 64)) ++ m = (T ++ m).drop (64 * (T.length / 64)) := by rw [List.drop_append_of_le_length (by omega)]
    have e2 : absN (T.length / 64) hw0 T = absN (T.length / 64) hw0 (T ++ m) := (absN_app _ _ _ _ (by omega)).symm
    have e3 : (T ++ m).length = T.length + m.length := List.length_append
    have hS2' : StAt w'' b (absN ((T.drop (64 * (T.length / 64)) ++ m).length / 64) (absN (T.length / 64) hw0 T) (T.drop (64 * (T.length / 64)) ++ m)) held' (T.length + m.length) := hS2
    rw [e1, e2, ← absN_add, List.length_drop, e3, show T.length / 64 + (T.length + m.length - 64 * (T.length / 64)) / 64 = (T.length + m.length) / 64 by omega] at hS2'
    rw [e3]; exact hS2'
  · have e3 : (T ++ m).length = T.length + m.length := List.length_append
    have hB2' : BytesAt w'' base 5 held' ((T.drop (64 * (T.length / 64)) ++ m).drop (64 * ((T.drop (64 * (T.length / 64)) ++ m).length / 64))) := hB2
    have e1 : T.drop (64 * (T.length / 64)) ++ m = (T ++ m).drop (64 * (T.length / 64)) := by rw [List.drop_append_of_le_length (by omega)]
    rw [e1, List.drop_drop, List.length_drop, e3, show 64 * (T.length / 64) + 64 * ((T.length + m.length - 64 * (T.length / 64)) / 64) = 64 * ((T.length + m.length) / 64) by omega] at hB2'
    rw [e3]; exact hB2'

set_option maxHeartbeats 4000000 in
set_option maxRecDepth 1000000 in
theorem tick_mid {b base bb i : Nat} {T : List UInt8} {xs : List ByteArray} {lv : Value} {w : World} {a : Act} (hI : InvT b base T w) (hX : StrsAt w lv xs) (hc : w.cell? ⟨bb, i, none⟩ = some lv) (hxl : (catL xs).length ≤ 1073741824) (hT : T.length ≤ 1099511627776 - 1073741825) (hi2 : i < 2)
    (_hbb : bb < base) (_hbn : bb ≠ b)
    (hF : Fr 30 a [(5, .pointer (some ⟨b, 0, none⟩)), (11, .slice (some ⟨bb, 0, none⟩) 2 2), (13, .int .i64 (i : Int)), (12, .int .i64 2)]) {Q : Exit → Act → World → Prop}
    (hQ : ∀ a' w', Fr 30 a' [(5, .pointer (some ⟨b, 0, none⟩)), (11, .slice (some ⟨bb, 0, none⟩) 2 2), (13, .int .i64 (i : Int)), (12, .int .i64 2)] → InvT b base (T ++ (catL xs ++ [UInt8.ofNat xs.length])) w' → ButB base b w w' → Q .normal a' w') : wpL Tryz.prog L11b Q a w := by
  have hlv : ∃ la lc, lv = .slice la xs.length lc := by
    rcases hX with ⟨rfl, a, c, rfl⟩ | ⟨bk, o, c, rfl, _⟩
    · exact ⟨_, _, rfl⟩
    · exact ⟨_, _, rfl⟩
  obtain ⟨la, lc, rfl⟩ := hlv
  obtain ⟨n, hn⟩ : ∃ n, n = xs.length := ⟨_, rfl⟩
  rw [← hn] at hX hc
  have hn' := Lib.hid hn
  have hX' := Lib.hid hX
  have hI' := Lib.hid hI
  clear hX hI hn
  have hi0 : (0 : Int) ≤ (i : Int) := by omega
  have hi3 : (i : Int) < 2 := by omega
  obtain ⟨hs, hd, hsl⟩ := hF
  have h5 := hsl _ List.mem_cons_self
  have h11 := hsl _ (List.mem_cons_of_mem _ List.mem_cons_self)
  have h13 := hsl _ (List.mem_cons_of_mem _ (List.mem_cons_of_mem _ List.mem_cons_self))
  have h12 := hsl _ (List.mem_cons_of_mem _ (List.mem_cons_of_mem _ (List.mem_cons_of_mem _ List.mem_cons_self)))
  clear hsl
  obtain ⟨x0, x1, x2, x3, x4, x5, x6, x7, x8, x9, x10, x11, x12, x13, x14, x15, x16, x17, x18, x19, x20, x21, x22, x23, x24, x25, x26, x27, x28, x29, rfl⟩ := lit30 hs hd
  replace h5 : x5 = .pointer (some ⟨b, 0, none⟩) := h5
  replace h11 : x11 = .slice (some ⟨bb, 0, none⟩) 2 2 := h11
  replace h13 : x13 = .int .i64 (i : Int) := h13
  replace h12 : x12 = .int .i64 2 := h12
  subst h5
  subst h11
  subst h13
  subst h12
  clear hs hd
  have hS0 : Sb w w := Sb.refl w
  have hk0 : (0 : Int) ≤ IntKind.u8.wrap (n : Int) ∧ IntKind.u8.wrap (n : Int) < 256 := by rw [wrapU8]; omega
  have hcv := conv_one _ hk0
  clear hk0
  have hadd := fun W => add_str W (l := catL xs) (m := [UInt8.ofNat (IntKind.u8.wrap (n : Int)).toNat]) (by simp; omega)
  refine wpL_lit (L' := [_, _]) (by rfl) ?_
  simp only [wpL]
  go_wp2
  have hQ' := Lib.hid hQ
  clear hQ
  refine wp_mono (Q := Nrm fun a' w' => Fr 30 a' [(5, .pointer (some ⟨b, 0, none⟩)), (11, .slice (some ⟨bb, 0, none⟩) 2 2), (13, .int .i64 (i : Int)), (12, .int .i64 2)] ∧ InvT b base (T ++ (catL xs ++ [UInt8.ofNat (IntKind.u8.wrap (n : Int)).toNat])) w' ∧ ButB base b w w') ?_ ?_
  · go_region_with (first
      | (go_at_call 43; refine (join_calls (hX'.out.below (by repeat (first | exact Sb.refl _ | apply Sb.drew | apply Sb.alloc | (refine Sb.trans ?_ (by assumption))))) (by omega)).mono ?_; rintro e w' ⟨rfl, hb⟩; obtain ⟨hcc, hff⟩ := bcell hb)
      | (go_at_call 42; refine (write_str hI'.out (by repeat (first | exact Sb.refl _ | apply Sb.drew | apply Sb.alloc | (refine Sb.trans ?_ (by assumption)))) _ (by simp; omega)).mono ?_; rintro e w' ⟨rfl, hI2, hbut⟩))
    all_goals
      refine ⟨⟨rfl, rfl, fun p hp => ?_⟩, hI2, (Sb.toB (by repeat (first | exact Sb.refl _ | apply Sb.drew | apply Sb.alloc | (refine Sb.trans ?_ (by assumption)))) hI'.out.le).trans hbut⟩
      simp only [List.mem_cons, List.not_mem_nil, or_false] at hp
      rcases hp with rfl | rfl | rfl | rfl <;> rfl
  · intro e a1 w1 h
    cases e with
    | normal =>
      refine hQ'.out a1 w1 h.1 ?_ h.2.2
      have e1 : UInt8.ofNat xs.length = UInt8.ofNat (IntKind.u8.wrap (n : Int)).toNat := by
        rw [wrapU8, ← hn'.out]
        exact (u8_mod n).symm
      rw [e1]; exact h.2.1
    | _ => exact h.elim
end Go.Proofs
