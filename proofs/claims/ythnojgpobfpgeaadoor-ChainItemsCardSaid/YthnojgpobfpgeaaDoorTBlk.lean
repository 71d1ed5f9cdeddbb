/- delta.blocks: where each block of a text first stands. -/
import Derived.RangeFuncBox
import Derived.RangeFuncLeaves
import Derived.Shelf.Abstract
import Derived.WalkKit
import Derived.OwnWalkIn
import Derived.TacticsInMore
import Derived.LoopNIn
import Derived.LoopIn
import Derived.Maps.OwnIn
import Derived.Maps.OwnSet
import Derived.Lib.Hide
import Derived.Laws.Slices
import Derived.WideLaws
import Derived.Laws.DeepStrings4
import Derived.Test.YthnojgpobfpgeaaDoorProg
/-! delta.blocks: where each block of a text first stands. -/
namespace Go.Proofs
open Go.RowKit Go.Shelf
attribute [local go_sem] Oper.semAt_some

/-- A block of a text, by its number. -/
abbrev BJ (s : ByteArray) := { j : Nat // 16 * j + 16 ≤ s.size }
/-- The first k blocks of a text. -/
def upB (s : ByteArray) (k : Nat) : List (BJ s) := (List.range k).filterMap fun j => if h : 16 * j + 16 ≤ s.size then some ⟨j, h⟩ else none
theorem upB_succ (s : ByteArray) {k : Nat} (h : 16 * k + 16 ≤ s.size) : upB s (k + 1) = upB s k ++ [⟨k, h⟩] := by simp [upB, List.range_succ, h]
theorem upB_length (s : ByteArray) : ∀ {k : Nat}, k ≤ s.size / 16 → (upB s k).length = k
  | 0, _ => rfl
  | k + 1, h => by rw [upB_succ s (by omega), List.length_append, upB_length s (by omega)]; rfl
theorem upB_prefix (s : ByteArray) {k : Nat} : ∀ {n : Nat}, k ≤ n → n ≤ s.size / 16 → upB s k <+: upB s n
  | 0, h, _ => by obtain rfl : k = 0 := by omega
                  exact List.prefix_refl _
  | n + 1, h, hn => by
    by_cases e : k = n + 1
    · subst e; exact List.prefix_refl _
    · rw [upB_succ s (by omega)]
      exact (upB_prefix s (by omega) (by omega)).trans (List.prefix_append _ _)
def blkOf (s : ByteArray) (j : Nat) : ByteArray := s.extract (16 * j) (16 * j + 16)
abbrev encB (s : ByteArray) (x : BJ s) : Array Value := #[.int .i64 ((16 * x.1 : Nat) : Int), .string (s.extract (16 * x.1) (16 * x.1 + 16))]

/-- A block lies as it lay. -/
def KBx (B : Nat) (W W' : World) : Prop := W'.heap[B]? = W.heap[B]?
theorem KBx.trans {B : Nat} {A B' C : World} (h : KBx B A B') (k : KBx B B' C) : KBx B A C := Eq.trans k h
theorem KBx.cell {B : Nat} {A C : World} (h : KBx B A C) (o : Nat) : C.cell? ⟨B, o, none⟩ = A.cell? ⟨B, o, none⟩ := World.cell?_of_block (w := A) (a := ⟨B, o, none⟩) h
theorem kbx_b {B : Nat} {w : World} (hB : B < w.heap.size) (W : World) (l : Nat) (o o' : Obj) (hl : w.heap.size ≤ l) (_ : W.heap[l]? = some o) (_ : o.isCells = false) (_ : o.isWalk = false) : KBx B W (W.putObj l o') := World.putObj_heap_other (by omega)

set_option maxRecDepth 100000 in
set_option maxHeartbeats 2000000 in
theorem piece_in (F : Fence) (n : Nat) (h7 : F.fn 36) (hro : F.round = none) (hn : 1 ≤ n) (l Bs : Nat) (s : ByteArray) (hs : s.size ≤ 1073741824) (J Jx : List (BJ s) → World → Prop)
    (hY : ∀ pre x W, J pre W → pre.length < s.size / 16 → YieldAt F (n - 1) Tryd.prog l (encB s x) W fun e W' =>
      (e = .returned (.bool true) ∧ J (pre ++ [x]) W' ∧ KBx Bs W W') ∨ (e = .returned (.bool false) ∧ Jx (pre ++ [x]) W'))
    (W : World) (hBs : W.cell? ⟨Bs, 0, none⟩ = some (.string s)) (h0 : J [] W) :
    CallsIn F n Tryd.prog 36 #[.func (.yield l) #[] #[], .pointer (some ⟨Bs, 0, none⟩)] W fun e W' => (∃ v, e = .returned v) ∧
      ((∃ ys, ys = upB s (s.size / 16) ∧ J ys W') ∨ (∃ pre, (∃ k, k ≤ s.size / 16 ∧ pre = upB s k) ∧ Jx pre W')) := by
  refine callsIn_of_wp Tryd.func36 rfl h7 ?_ hro
  simp only [Tryd.ntmps36, List.size_toArray, List.length_cons, List.length_nil, Nat.reduceAdd, Nat.reduceSub, Array.replicate_succ, Array.replicate_zero, List.push_toArray, List.append_toArray, List.nil_append, List.cons_append]
  gi_wp2
  gi_loopw [3] (fun i wr => ∃ k : Nat, k ≤ s.size / 16 ∧ i = .int .i64 ((16 * k : Nat) : Int) ∧ J (upB s k) wr ∧ KBx Bs W wr)
    (fun i _ => s.size + 16 - (intOf i).toNat)
  case atStart => exact ⟨0, Nat.zero_le _, rfl, h0, rfl⟩
  case round =>
    obtain ⟨k, hk, rfl, hJs, hnx⟩ := hrel
    have hcx : wr.cell? ⟨Bs, 0, none⟩ = some (.string s) := (hnx.cell 0).trans hBs
    by_cases hlt : k < s.size / 16
    · have hin : 16 * k + 16 ≤ s.size := by omega
      obtain ⟨el, hel⟩ : ∃ el : BJ s, el = ⟨k, hin⟩ := ⟨_, rfl⟩
      have hel1 : el.1 = k := by rw [hel]
      obtain ⟨fn, tmps, assign, body, hy, hR⟩ := hY _ el wr hJs (by rw [upB_length s (by omega)]; exact hlt)
      dsimp only [encB] at hy
      rw [hel1] at hy
      have hel' := Lib.hid hel
      clear hel hel1
      obtain ⟨m, hm⟩ : ∃ m, m = 16 * k := ⟨_, rfl⟩
      rw [← hm] at hy ⊢
      have hm' := Lib.hid hm
      have hl1 : m + 16 ≤ s.size := by omega
      clear hm hlt
      have hl2 : (m : Int) + 16 ≤ (s.size : Int) := by omega
      gi_wp2
      refine hR.mono ?_
      rintro e W3 (⟨rfl, hJ3, hk3⟩ | ⟨rfl, hJx3⟩)
      · gi_wp2
        go_roundw
        case rel =>
          have hm := hm'.out
          refine ⟨k + 1, by omega, ?_, by rw [upB_succ s (by omega), ← hel'.out]; exact hJ3, hnx.trans hk3⟩
          congr 1
          omega
        case measure => simp [intOf]; omega
      · gi_wp2
        have hm := hm'.out
        refine bodyPost_ret (results_none rfl _ _ _) rfl ?_
        exact ⟨⟨_, rfl⟩, .inr ⟨_, ⟨k + 1, by omega, by rw [upB_succ s (by omega), ← hel'.out]⟩, hJx3⟩⟩
    · obtain rfl : k = s.size / 16 := by omega
      have hl2 : ¬ ((16 * (s.size / 16) : Nat) : Int) + 16 ≤ (s.size : Int) := by omega
      obtain ⟨m, hm⟩ : ∃ m, m = 16 * (s.size / 16) := ⟨_, rfl⟩
      rw [← hm] at hl2 ⊢
      have hm' := Lib.hid hm
      have hl3 : (m : Int) ≤ 1073741824 := by omega
      clear hm hlt
      gi_wp2
      go_end0
      exact ⟨⟨_, rfl⟩, .inl hJs⟩

set_option maxRecDepth 1000000 in
theorem pieces_in (F : Fence) (n : Nat) (h5 : F.fn 29) (hro : F.round = none) (s : ByteArray) (w : World) :
    CallsIn F n Tryd.prog 29 #[.string s] w fun e w' => e = .returned (.func (.func 36) #[] #[.pointer (some ⟨w.heap.size, 0, none⟩)]) ∧ w' = w.alloc (.cells #[.string s] 9) := by
  refine callsIn_of_wp Tryd.func29 rfl h5 ?_ hro
  simp only [Tryd.ntmps29, List.size_toArray, List.length_cons, List.length_nil, Nat.reduceAdd, Nat.reduceSub, Array.replicate_succ, Array.replicate_zero, List.push_toArray, List.append_toArray, List.nil_append, List.cons_append]
  gi_wp2
  go_ret
  exact ⟨rfl, rfl⟩

theorem pieces_stops (F : Fence) (n : Nat) (h7 : F.fn 36) (hro : F.round = none) (hn : 1 ≤ n) (Bs : Nat) (s : ByteArray) (hs : s.size ≤ 1073741824) (w : World) (hBs : Bs < w.heap.size)
    (hc : w.cell? ⟨Bs, 0, none⟩ = some (.string s)) :
    SeqStopsK F n Tryd.prog 36 #[.pointer (some ⟨Bs, 0, none⟩)] (encB s) (KBx Bs) (fun ys => ys = upB s (s.size / 16)) (fun pre => pre <+: upB s (s.size / 16)) (s.size / 16) w := fun l J Jx W hW _ _ hY h0 => by
  refine (piece_in F n h7 hro hn l Bs s hs J Jx hY W ((hW.cell (p := ⟨Bs, 0, none⟩) hBs).trans hc) h0).mono ?_
  rintro e W' ⟨he, ⟨ys, rfl, hj⟩ | ⟨pre, ⟨k, hk, rfl⟩, hj⟩⟩
  · exact ⟨he, .inl ⟨_, rfl, hj⟩⟩
  · exact ⟨he, .inr ⟨_, upB_prefix s hk (Nat.le_refl _), hj⟩⟩

/-- The map of blocks behind these pieces. -/
def blkStep (s : ByteArray) (D : DataW Unit) (j : Nat) : DataW Unit := if Maps.has D (.string (blkOf s j).data.toList) then D else D.put (.string (blkOf s j).data.toList) (.lit (.int .i64 ((16 * j : Nat) : Int)))
def blkD (s : ByteArray) (xs : List (BJ s)) : DataW Unit := xs.foldl (fun D x => blkStep s D x.1) (.map [])
theorem blkD_has {s : ByteArray} {pre : List (BJ s)} {j : Nat} (hj : 16 * j + 16 ≤ s.size) (h : Maps.has (blkD s pre) (.string (s.extract (16 * j) (16 * j + 16)).data.toList) = true) : blkD s (pre ++ [⟨j, hj⟩]) = blkD s pre := by
  have : blkD s (pre ++ [⟨j, hj⟩]) = blkStep s (blkD s pre) j := by simp [blkD]
  rw [this]
  exact if_pos h
theorem blkD_new {s : ByteArray} {pre : List (BJ s)} {j : Nat} (hj : 16 * j + 16 ≤ s.size) (h : Maps.has (blkD s pre) (.string (s.extract (16 * j) (16 * j + 16)).data.toList) = false) : blkD s (pre ++ [⟨j, hj⟩]) = (blkD s pre).put (.string (s.extract (16 * j) (16 * j + 16)).data.toList) (.lit (.int .i64 ((16 * j : Nat) : Int))) := by
  have : blkD s (pre ++ [⟨j, hj⟩]) = blkStep s (blkD s pre) j := by simp [blkD]
  rw [this]
  exact if_neg (by rw [show blkOf s j = s.extract (16 * j) (16 * j + 16) from rfl, h]; decide)
theorem blkD_snoc (s : ByteArray) (pre : List (BJ s)) (x : BJ s) : blkD s (pre ++ [x]) = blkStep s (blkD s pre) x.1 := by simp [blkD]

set_option maxRecDepth 1000000 in
set_option maxHeartbeats 4000000 in
theorem blocks_in (F : Fence) (n : Nat) (h3 : F.fn 17) (h4 : F.fn 29) (h5 : F.fn 36) (hro : F.round = none) (hn : 3 ≤ n) (s : ByteArray) (hs : s.size ≤ 1073741824) (w : World) :
    CallsIn F n Tryd.prog 17 #[.string s] w fun e W' => e = .returned (.map (some w.heap.size)) ∧ W'.ownsMap Tryd.prog 9 (plainElem (H := Unit) Tryd.prog 3) w.heap.size (s.size / 16) (blkD s (upB s (s.size / 16))) ∧ Below w.heap.size w W' := by
  have h1 : 1 ≤ n := by omega
  have hmm := @run_makeMap Tryd.prog
  refine callsIn_of_wp_marks Tryd.func17 rfl h3 ?_ hro
  simp only [Tryd.ntmps17, List.size_toArray, List.length_cons, List.length_nil, Nat.reduceAdd, Nat.reduceSub, Array.replicate_succ, Array.replicate_zero, List.push_toArray, List.append_toArray, List.nil_append, List.cons_append]
  gi_wp2_with (gi_at_call 29; refine (pieces_in F (n - 1) h4 hro _ _).mono ?_; rintro e w' ⟨rfl, rfl⟩)
  have hm0 := World.ownsMap_made w Tryd.prog 9 (plainElem (H := Unit) Tryd.prog 3)
  have bS := (Boxed.new (w.alloc (.map #[] 0)) 44 (.map (some w.heap.size))).alloc (.cells #[.string s] 9)
  have bN := Boxed.new ((w.alloc (.map #[] 0)).alloc (.cells #[.map (some w.heap.size)] 44)) 9 (.string s)
  simp only [World.size_alloc] at bS bN
  have hB0 : Below w.heap.size w (((w.alloc (.map #[] 0)).alloc (.cells #[.map (some w.heap.size)] 44)).alloc (.cells #[.string s] 9)) := (((Below.refl _ w).alloc (Nat.le_refl _) _).alloc (by simp) _).alloc (by first | omega | (simp; done) | (simp; omega)) _
  refine wpIn_rangeFunc_ownG hro h1 (gf := 36) (lb := #[.pointer (some ⟨w.heap.size + 1 + 1, 0, none⟩)]) rfl h5 (enters_of Tryd.func36 (by kernel_rfl) rfl)
    (pieces_stops F (n - 1) h5 hro (by omega) (w.heap.size + 1 + 1) s hs _ (by simp) bN.cell) KBx.trans (kbx_b (by simp)) (Below.refl _ _) (fun _ => rfl)
    (fun pre W => ((W.cell? ⟨w.heap.size + 1, 0, none⟩ = some (.map (some w.heap.size)) ∧ W.cell? ⟨w.heap.size + 1 + 1, 0, none⟩ = some (.string s)) ∧ W.ownsMap Tryd.prog 9 (plainElem (H := Unit) Tryd.prog 3) w.heap.size pre.length (blkD s pre)) ∧ Below w.heap.size w W)
    (fun _ _ _ => False)
    (OwnFrom.and (fun s A B row hs hg hr => ⟨⟨cell_kept hs.1.1 hg (fun r e => (hr r e).2), cell_kept hs.1.2 hg (fun r e => (hr r e).2)⟩, hs.2.kept hg (fun e => by have := (hr _ e.symm).1; simp at this; omega)⟩) (ownFrom_below (Nat.le_refl _) (by first | omega | (simp; done) | (simp; omega))))
    (fun _ _ _ _ _ hs _ _ => hs)
    ⟨⟨⟨bS.cell, bN.cell⟩, (hm0.alloc _).alloc _⟩, hB0⟩
    (fun x => { tmps := #[.string s, undef, .map none, .pointer (some ⟨w.heap.size + 1, 0, none⟩), .int .i64 ((16 * x.1 : Nat) : Int), .string (s.extract (16 * x.1) (16 * x.1 + 16)), undef, undef, .map (some w.heap.size), .string s, .func (.func 36) #[] #[.pointer (some ⟨w.heap.size + 1 + 1, 0, none⟩)], .int .i64 ((16 * x.1 : Nat) : Int), .string (s.extract (16 * x.1) (16 * x.1 + 16)), undef, undef, undef, undef, undef, undef, undef, undef, undef, undef, undef, undef], defers := [] }) ?assign ?body ?done ?stop
  case assign =>
    intro l x W K hK
    gi_wp2
    exact hK
  case body =>
    rintro l pre ⟨j, hj⟩ W ⟨⟨⟨hc, hc2⟩, hown⟩, hB⟩ hlt
    have hlt2 : w.heap.size + 1 + 1 < W.heap.size := World.block_lt_of_cell? W _ hc2
    have hsz : (s.extract (16 * j) (16 * j + 16)).size ≤ maxLen := by rw [ByteArray.size_extract]; unfold maxLen; omega
    have hkey := WideMaps.keyOf_string_mk (P := Tryd.prog) Tryd.underlying9 hsz
    have hwf : (Lit.int .i64 ((16 * j : Nat) : Int)).wf = true := by
      have e1 : (16 * j : Nat) ≤ 9223372036854775807 := by omega
      show (decide (IntKind.min .i64 ≤ ((16 * j : Nat) : Int)) && decide (((16 * j : Nat) : Int) ≤ IntKind.max .i64)) = true
      have e2 : IntKind.min .i64 = -9223372036854775808 := by decide
      have e3 : IntKind.max .i64 = 9223372036854775807 := by decide
      rw [e2, e3]
      simp only [Bool.and_eq_true, decide_eq_true_eq]
      omega
    cases hhas : Maps.has (blkD s pre) (.string (s.extract (16 * j) (16 * j + 16)).data.toList) with
    | true =>
      gi_wp2_with (gi_at_lookup; refine wpListIn_lookup_own_ok_int _ rfl _ _ 44 rfl 9 3 .i64 (Maps.string_keyed Tryd.underlying9) Tryd.underlying44 Tryd.underlying3 (Tryd.zeroValue3 _) w.heap.size pre.length _ rfl hown _ _ rfl hkey ?_; intro c hat hwc; rw [hhas])
      exact ⟨(KeepsOthers.refl _).from _, rfl, ⟨⟨hc, hc2⟩, by rw [blkD_has hj hhas, List.length_append]; exact hown.mono (Nat.le_succ _)⟩, hB⟩
    | false =>
      gi_wp2_with (first
        | (gi_at_lookup; refine wpListIn_lookup_own_ok_int _ rfl _ _ 44 rfl 9 3 .i64 (Maps.string_keyed Tryd.underlying9) Tryd.underlying44 Tryd.underlying3 (Tryd.zeroValue3 _) w.heap.size pre.length _ rfl hown _ _ rfl hkey ?_; intro c hat hwc; rw [hhas])
        | (gi_at_mapUpdate; refine wpListIn_mapUpdate_own _ rfl _ _ _ 44 rfl 9 3 (Maps.string_keyed Tryd.underlying9) Tryd.underlying44 _ w.heap.size pre.length _ rfl hown (by unfold maxLen; omega) _ _ _ rfl rfl hkey _ [] (plainElem_int Tryd.underlying3 hwf) ?_; intro w1 hown1 hgrow1))
      obtain ⟨es, ck, hh, _⟩ := hown
      exact ⟨KeepsFrom.of_grownBy hgrow1 (fun j e => by cases e; simp; omega), hgrow1.block (w.heap.size + 1 + 1) hlt2 (by simp; omega),
        ⟨⟨cell_kept hc hgrow1 (fun r e => by cases e; exact ⟨_, hh, rfl⟩), cell_kept hc2 hgrow1 (fun r e => by cases e; exact ⟨_, hh, rfl⟩)⟩, by rw [blkD_new hj hhas, List.length_append]; exact hown1⟩, hB.grown hgrow1 hB.size (fun k e => by cases e; exact Nat.le_refl _)⟩
  case done =>
    rintro D ys W hD rfl ⟨⟨hc, hown⟩, hB⟩ hK
    gi_wp2
    refine ⟨by simp, .inl ⟨_, _, rfl, run_takeDeferred hK, ?_⟩⟩
    refine ⟨_, results_tmp rfl _ _ _, rfl, ?_, hB.trans (belowK_b (w := w) (Nat.le_refl _) W D _ _ (by simp at hD; omega) hK rfl rfl)⟩
    have := hown.kept (grownBy_putObj' _ D (.deferred none)) (fun e => by cases e; simp at hD; omega)
    rw [upB_length s (Nat.le_refl _)] at this
    exact this
  case stop =>
    rintro D c pre W _ _ h _
    exact h.elim
end Go.Proofs

/-! Texts made of others and pressed texts, as the chapters 4 and 9 have them: the functions that both programs compute. -/
namespace Go.Ev

/-- A number's bytes, below 16,512. -/
def numL (n : Nat) : List UInt8 := if n < 128 then [UInt8.ofNat n] else [UInt8.ofNat (n / 128 - 1 + 128), UInt8.ofNat (n % 128)]
theorem numL_le (n : Nat) : (numL n).length ≤ 2 := by unfold numL; split <;> simp

/-- the w bytes at a place -/
def cutL (l : List UInt8) (a w : Nat) : List UInt8 := (l.drop a).take w

/-- how many bytes of two texts are the same, from two places on, when n are so already -/
def sameL (x y : List UInt8) (a b : Nat) : Nat → Nat → Nat
  | 0, n => n
  | f + 1, n => if a + n < x.length ∧ b + n < y.length ∧ x[a + n]? = y[b + n]? then sameL x y a b f (n + 1) else n
theorem sameL_le {x y : List UInt8} {a b : Nat} : ∀ (f n : Nat), a + n ≤ x.length → a + sameL x y a b f n ≤ x.length ∧ n ≤ sameL x y a b f n
  | 0, n, h => ⟨h, Nat.le_refl _⟩
  | f + 1, n, h => by
    unfold sameL
    split
    · rename_i hc
      have := sameL_le (b := b) (y := y) f (n + 1) (by omega : a + (n + 1) ≤ x.length)
      omega
    · exact ⟨h, Nat.le_refl _⟩
theorem sameL_le2 {x y : List UInt8} {a b : Nat} : ∀ (f n : Nat), b + n ≤ y.length → b + sameL x y a b f n ≤ y.length
  | 0, n, h => h
  | f + 1, n, h => by
    unfold sameL
    split
    · exact sameL_le2 f (n + 1) (by omega)
    · exact h

/-- the first block of a base that these sixteen bytes are, from block j on -/
def blockL (b g : List UInt8) : Nat → Nat → Option Nat
  | 0, _ => none
  | f + 1, j => if j + 16 ≤ b.length then (if cutL b j 16 = g then some j else blockL b g f (j + 16)) else none
theorem blockL_ok {b g : List UInt8} : ∀ {f j k : Nat}, blockL b g f j = some k → j ≤ k ∧ k + 16 ≤ b.length ∧ cutL b k 16 = g
  | f + 1, j, k, h => by
    unfold blockL at h
    split at h
    · split at h
      · cases h; exact ⟨Nat.le_refl _, by assumption, by assumption⟩
      · have := blockL_ok h; exact ⟨by omega, this.2⟩
    · cases h
def putL (s : List UInt8) : List UInt8 := if s = [] then [] else numL (2 * (s.length - 1)) ++ s
/-- a delta's rest -/
def deltaR (b s : List UInt8) : Nat → Nat → Nat → List UInt8
  | 0, fr, _ => putL (s.drop fr)
  | f + 1, fr, a =>
    if s.length < a + 16 then putL (s.drop fr)
    else match blockL b (cutL s a 16) b.length 0 with
      | none => deltaR b s f fr (a + 1)
      | some k => putL (cutL s fr (a - fr)) ++ numL (2 * (sameL s b a k s.length 16 - 1) + 1) ++ numL k ++ deltaR b s f (a + sameL s b a k s.length 16) (a + sameL s b a k s.length 16)
def deltaL (b s : List UInt8) : List UInt8 := numL b.length ++ numL s.length ++ deltaR b s s.length 0 0
end Go.Ev

/-! The map of blocks, read: plain. -/
namespace Go.Proofs
open Go.Ev Go.RowKit

/-- The first of the blocks below k that these bytes are. -/
def firstB (s : ByteArray) (g : List UInt8) : Nat → Option Nat
  | 0 => none
  | k + 1 => match firstB s g k with
    | some j => some j
    | none => if (blkOf s k).data.toList = g then some k else none
theorem firstB_lt {s : ByteArray} {g : List UInt8} : ∀ {k j : Nat}, firstB s g k = some j → j < k ∧ (blkOf s j).data.toList = g ∧ ∀ i, i < j → (blkOf s i).data.toList ≠ g
  | k + 1, j, h => by
    unfold firstB at h
    split at h
    · rename_i j' hj'
      cases h
      have := firstB_lt hj'
      exact ⟨by omega, this.2⟩
    · rename_i hn
      split at h
      · cases h
        refine ⟨by omega, by assumption, fun i hi hg => ?_⟩
        exact firstB_none hn i hi hg
      · cases h
where firstB_none {s : ByteArray} {g : List UInt8} : ∀ {k : Nat}, firstB s g k = none → ∀ i, i < k → (blkOf s i).data.toList ≠ g
  | k + 1, h, i, hi, hg => by
    unfold firstB at h
    split at h
    · cases h
    · rename_i hn
      split at h
      · cases h
      · rename_i hne
        by_cases e : i = k
        · subst e; exact hne hg
        · exact firstB_none hn i (by omega) hg
theorem firstB_no {s : ByteArray} {g : List UInt8} {k : Nat} (h : firstB s g k = none) : ∀ i, i < k → (blkOf s i).data.toList ≠ g := firstB_lt.firstB_none h

theorem isMap_blk (s : ByteArray) : ∀ k, k ≤ s.size / 16 → Maps.IsMap (blkD s (upB s k))
  | 0, _ => Maps.isMap_empty
  | k + 1, h => by
    have ih := isMap_blk s k (by omega)
    rw [upB_succ s (by omega), blkD_snoc]
    unfold blkStep
    split
    · exact ih
    · exact ih.put _ _

theorem blk_has (s : ByteArray) (g : List UInt8) : ∀ k, k ≤ s.size / 16 → Maps.has (blkD s (upB s k)) (.string g) = (firstB s g k).isSome ∧ ∀ j z, firstB s g k = some j → (blkD s (upB s k)).atKey (.string g) z = .lit (.int .i64 ((16 * j : Nat) : Int))
  | 0, _ => ⟨rfl, fun j z h => by cases h⟩
  | k + 1, h => by
    obtain ⟨ih1, ih2⟩ := blk_has s g k (by omega)
    have hm := isMap_blk s k (by omega)
    rw [upB_succ s (by omega), blkD_snoc]
    show Maps.has (blkStep s (blkD s (upB s k)) k) (.string g) = _ ∧ ∀ j z, _ → (blkStep s (blkD s (upB s k)) k).atKey (.string g) z = _
    by_cases hg : (blkOf s k).data.toList = g
    · cases hf : firstB s g k with
      | some j =>
        rw [hf] at ih1
        have hhas : Maps.has (blkD s (upB s k)) (.string (blkOf s k).data.toList) = true := by rw [hg]; exact ih1
        have e1 : firstB s g (k + 1) = some j := by unfold firstB; rw [hf]
        rw [e1]
        unfold blkStep
        rw [if_pos hhas]
        exact ⟨ih1, fun j' z h' => by cases h'; exact ih2 _ z hf⟩
      | none =>
        rw [hf] at ih1
        have hhas : ¬ Maps.has (blkD s (upB s k)) (.string (blkOf s k).data.toList) = true := by rw [hg, ih1]; decide
        have e1 : firstB s g (k + 1) = some k := by unfold firstB; rw [hf]; simp [hg]
        rw [e1]
        unfold blkStep
        rw [if_neg hhas, hg]
        exact ⟨Maps.has_put_same hm (by trivial) _, fun j z h' => by cases h'; exact Maps.atKey_put_same hm (by trivial) _ _⟩
    · have e1 : firstB s g (k + 1) = firstB s g k := by
        conv => lhs; unfold firstB
        split
        · rename_i j hj; rw [hj]
        · rename_i hj; rw [if_neg hg, hj]
      rw [e1]
      unfold blkStep
      split
      · exact ⟨ih1, ih2⟩
      · have hne : (Lit.string g) ≠ Lit.string (blkOf s k).data.toList := fun e => by injection e with e; exact hg e.symm
        exact ⟨by rw [Maps.has_put_other hne]; exact ih1, fun j z h' => by rw [Maps.atKey_put_other hne]; exact ih2 j z h'⟩

theorem blk_zero (s : ByteArray) (g : List UInt8) (z : DataW Unit) : ∀ k, k ≤ s.size / 16 → firstB s g k = none → (blkD s (upB s k)).atKey (.string g) z = z
  | 0, _, _ => rfl
  | k + 1, h, hf => by
    have hg := firstB_no hf k (by omega)
    have hf' : firstB s g k = none := by
      cases h1 : firstB s g k with
      | none => rfl
      | some j => unfold firstB at hf; rw [h1] at hf; cases hf
    have ih := blk_zero s g z k (by omega) hf'
    rw [upB_succ s (by omega), blkD_snoc]
    show (blkStep s (blkD s (upB s k)) k).atKey (.string g) z = z
    unfold blkStep
    split
    · exact ih
    · have hne : (Lit.string g) ≠ Lit.string (blkOf s k).data.toList := fun e => by injection e with e; exact hg e.symm
      rw [Maps.atKey_put_other hne]; exact ih
theorem blkOf_cut (s : ByteArray) (j : Nat) : (blkOf s j).data.toList = cutL s.data.toList (16 * j) 16 := by
  unfold blkOf cutL
  simp [ByteArray.data_extract, Array.toList_extract]

theorem blockL_none {b g : List UInt8} : ∀ {f i : Nat}, (∀ j, i ≤ j → 16 * j + 16 ≤ b.length → cutL b (16 * j) 16 ≠ g) → blockL b g f (16 * i) = none
  | 0, _, _ => rfl
  | f + 1, i, h => by
    unfold blockL
    split
    · rename_i h1
      rw [if_neg (h i (Nat.le_refl _) h1)]
      exact blockL_none (i := i + 1) fun j hj => h j (by omega)
    · rfl
theorem blockL_first {b g : List UInt8} {j : Nat} (hj : 16 * j + 16 ≤ b.length) (he : cutL b (16 * j) 16 = g) (hn : ∀ i, i < j → cutL b (16 * i) 16 ≠ g) : ∀ {f i : Nat}, i ≤ j → j - i < f → blockL b g f (16 * i) = some (16 * j)
  | 0, _, _, h => by omega
  | f + 1, i, h1, h2 => by
    unfold blockL
    rw [if_pos (by omega)]
    by_cases e : i = j
    · subst e; rw [if_pos he]
    · rw [if_neg (hn i (by omega))]
      exact blockL_first hj he hn (i := i + 1) (by omega) (by omega)
/-- The first block, both ways. -/
theorem blockL_firstB (s : ByteArray) (g : List UInt8) : blockL s.data.toList g s.data.toList.length 0 = (firstB s g (s.size / 16)).map (16 * ·) := by
  have hl : s.data.toList.length = s.size := by simp
  cases hf : firstB s g (s.size / 16) with
  | some j =>
    obtain ⟨h1, h2, h3⟩ := firstB_lt hf
    rw [blkOf_cut] at h2
    exact blockL_first (i := 0) (by omega) h2 (fun i hi => by rw [← blkOf_cut]; exact h3 i hi) (Nat.zero_le _) (by omega)
  | none =>
    exact blockL_none (i := 0) fun j _ hj => by rw [← blkOf_cut]; exact firstB_no hf j (by omega)

/-- What is known of a base; where a block of it stands. -/
def delta_known.f (a0 : ByteArray) : Option ByteArray := some a0
def delta_look.f (b g : ByteArray) : Option (Int × Bool) := match blockL b.data.toList g.data.toList b.data.toList.length 0 with
  | some k => some ((k : Int), true)
  | none => some (0, false)
theorem ext_le {s : ByteArray} {a b : Nat} (h : s.size ≤ 1073741824) : (s.extract a b).size ≤ maxLen := by rw [ByteArray.size_extract]; unfold maxLen; omega
theorem own_below {w W : World} {b n : Nat} {D : DataW Unit} {R : Value → Option (DataW Unit × List MemPlace)} (h : w.ownsMap Tryd.prog 9 R b n D) (hb : Below w.heap.size w W) : W.ownsMap Tryd.prog 9 R b n D := by
  have hlt := h.lt
  obtain ⟨es, ck, hh, hr⟩ := h
  exact ⟨es, ck, (hb.block b hlt).trans hh, hr⟩
theorem look_eq {a0 t101 g : ByteArray} {t : Int} {bb : Bool} (hk : delta_known.f a0 = some t101) (h : delta_look.f t101 g = some (t, bb)) :
    Maps.has (blkD a0 (upB a0 (a0.size / 16))) (.string g.data.toList) = bb ∧ ∀ c, (blkD a0 (upB a0 (a0.size / 16))).atKey (.string g.data.toList) (.lit (.int .i64 0)) = .lit (.int .i64 c) → c = t := by
  cases hk
  unfold delta_look.f at h
  rw [blockL_firstB] at h
  obtain ⟨h1, h2⟩ := blk_has a0 g.data.toList (a0.size / 16) (Nat.le_refl _)
  cases hf : firstB a0 g.data.toList (a0.size / 16) with
  | some j =>
    rw [hf] at h h1
    cases h
    refine ⟨h1, fun c hc => ?_⟩
    rw [h2 j _ hf] at hc
    injection hc with hc
    injection hc with _ hc
    exact hc.symm
  | none =>
    rw [hf] at h h1
    cases h
    refine ⟨h1, fun c hc => ?_⟩
    rw [blk_zero a0 _ _ _ (Nat.le_refl _) hf] at hc
    injection hc with hc
    injection hc with _ hc
    exact hc.symm
end Go.Proofs
