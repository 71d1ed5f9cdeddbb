/- Crash, Up. -/
import Derived.Test.YthnojgpobfpgeaaGreatDoorTFsK
import Derived.Test.YthnojgpobfpgeaaGreatDoorTFsY
set_option linter.unusedVariables false
set_option linter.unusedSimpArgs false
namespace Go.Proofs
open Go.RowKit Go.Ev Go.Lib Go.Shelf
attribute [local go_sem] Oper.semAt_some
attribute [local go_sem ↓] Go.wp_at_zero Go.wp_at_succ
set_option maxRecDepth 1000000 in
theorem keeper_calls (w : World) : Calls Tryz.prog 47 #[.int .u64 0] w fun e w' => e = .returned (.func (.func 84) #[] #[pt (w.heap.size + 1), pt w.heap.size]) /\ w' = (w.alloc (.cells #[.int .u64 0] 38)).alloc (.cells #[.int .i64 0] 3) := by
  go_enter Tryz.func47, Tryz.ntmps47
  go_wp2
  go_ret
  exact ⟨rfl, rfl⟩
set_option maxRecDepth 1000000 in
theorem kept_calls {w : World} {bb kb n : Nat} (hn : n <= 2000) (hb : w.cell? ⟨bb, 0, none⟩ = some (.int .i64 (n : Int))) (hf : w.frozen? ⟨bb, 0, none⟩ = false) (hk : w.cell? ⟨kb, 0, none⟩ = some (.int .u64 0)) (hne : bb ≠ kb) :
    Calls Tryz.prog 84 #[pt bb, pt kb] w fun e w' => e = .returned (.bool false) /\ w' = w.setCell ⟨bb, 0, none⟩ (.int .i64 ((n : Int) + 1)) := by
  have hkk : (w.setCell ⟨bb, 0, none⟩ (.int .i64 ((n : Int) + 1))).cell? ⟨kb, 0, none⟩ = some (.int .u64 0) := (World.cell?_of_block (set_other _ (Ne.symm hne))).trans hk
  have hbits : bits BinOp.and IntKind.u64 0 1 = 0 := by decide
  by_cases h64 : n < 62
  . have h1 : (n : Int) + 1 <= 62 := by omega
    go_enter Tryz.func84, Tryz.ntmps84
    go_wp2
    go_ret
    exact ⟨rfl, rfl⟩
  . have h1 : ¬ (n : Int) + 1 <= 62 := by omega
    go_enter Tryz.func84, Tryz.ntmps84
    go_wp2
    go_ret
    exact ⟨rfl, rfl⟩
section
variable {W : World} {fb : Nat} {L : Lay} {s : St}
theorem FsAt.crashed (h : FsAt W fb L s) {b : Nat} (hM : MapF W b s.k s.sure) (hb : ∀ x, L.own fb x -> x ≠ b) :
    FsAt (((W.setCell ⟨fb, 0, none⟩ (.map (some b))).setCell ⟨fb, 2, none⟩ (.slice none 0 0)).setCell ⟨fb, 7, none⟩ (.bool true)) fb { L with bn := b, av := .slice none 0 0 } { s with now := s.sure, acts := [], off := true } := by
  have ho : ∀ x, x ≠ fb -> (((W.setCell ⟨fb, 0, none⟩ (.map (some b))).setCell ⟨fb, 2, none⟩ (.slice none 0 0)).setCell ⟨fb, 7, none⟩ (.bool true)).heap[x]? = W.heap[x]? := fun x hx => ((set_other _ hx).trans (set_other _ hx)).trans (set_other _ hx)
  refine ⟨?_, hM.kept (ho _ (Ne.symm (hb _ (.inl rfl)))), h.ms.kept (ho _ (Ne.symm h.fbs)), World.ownsRow_nil _ _ _ _, row_kept h.rn fun g hg => ho g (ne_own hg h.fnv), Ne.symm (hb _ (.inr (.inr (.inl rfl))))⟩
  exact set_heap (set_heap (set_heap h.hp _) _) _
def CrAt (W W1 : World) (bb kb n : Nat) (wr : World) : Prop := Sb W wr /\ W1.heap.size <= wr.heap.size /\ wr.cell? ⟨bb, 0, none⟩ = some (.int .i64 (n : Int)) /\ wr.frozen? ⟨bb, 0, none⟩ = false /\ wr.cell? ⟨kb, 0, none⟩ = some (.int .u64 0)
theorem cr_start {w1 : World} (hw : w1 = (W.alloc (.cells #[.int .u64 0] 38)).alloc (.cells #[.int .i64 0] 3)) : CrAt W w1 (W.heap.size + 1) W.heap.size 0 w1 := by
  have g0 : w1.heap[W.heap.size]? = some (.cells #[.int .u64 0] 38 (0, 0)) := by rw [hw]; exact (hao (by simp)).trans (heap_alloc_new W _)
  have g1 : w1.heap[W.heap.size + 1]? = some (.cells #[.int .i64 0] 3 (0, 0)) := by
    have := heap_alloc_new (W.alloc (.cells #[.int .u64 0] 38)) (.cells #[.int .i64 0] 3)
    rw [show (W.alloc (.cells #[.int .u64 0] 38)).heap.size = W.heap.size + 1 by simp] at this
    rw [hw]; exact this
  refine ⟨by rw [hw]; exact Sb.alloc (Sb.alloc (Sb.refl _) _) _, Nat.le_refl _, ?_, Lib.frozen_of_heap g1 0, ?_⟩
  . rw [Lib.cell_of_heap g1]; rfl
  . rw [Lib.cell_of_heap g0]; rfl
theorem frozen_kept {w w' : World} (hs : Sb w w') {a : Addr} {v : Value} (hc : w.cell? a = some v) (hf : w.frozen? a = false) : w'.frozen? a = false := by
  have := Sb.blk hs _ (World.block_lt_of_cell? w _ hc)
  unfold World.frozen? at hf ⊢
  rw [this]; exact hf
theorem cr_next {w1 wr w5 : World} {bb kb n : Nat} {o : Obj} (h : CrAt W w1 bb kb n wr) (hbb : W.heap.size <= bb) (hne : bb ≠ kb) (hw : w5 = (wr.alloc o).setCell ⟨bb, 0, none⟩ (.int .i64 ((n : Int) + 1))) : CrAt W w1 bb kb (n + 1) w5 := by
  obtain ⟨h1, h2, h3, h4, h5⟩ := h
  have hs : Sb W (wr.alloc o) := Sb.alloc h1 o
  have hlt := World.block_lt_of_cell? wr _ h3
  have e3 : (wr.alloc o).cell? ⟨bb, 0, none⟩ = some (.int .i64 (n : Int)) := (World.cell?_of_block (hao hlt)).trans h3
  have e4 := frozen_kept (Sb.alloc (Sb.refl wr) o) h3 h4
  subst hw
  refine ⟨⟨hs.os, hs.tape, hs.output, by simpa [World.setCell] using hs.siz, fun k hk => (set_other _ (by show k ≠ bb; omega)).trans (hs.block k hk)⟩, by simp [World.setCell]; omega, ?_, by simpa using e4, ?_⟩
  . rw [World.cell?_setCell_same _ _ _ e3]; rfl
  . exact (World.cell?_of_block (set_other _ (Ne.symm hne))).trans ((World.cell?_of_block (hao (World.block_lt_of_cell? wr _ h5))).trans h5)
theorem Stp.tr2 {W w' : World} {P P1 P2 : Nat -> Prop} (h : Stp W P w' P1) (ho : ∀ k, P2 k -> P1 k \/ W.heap.size <= k) : Stp W P w' P2 := ⟨h.os, h.tape, h.output, h.size, h.blk, fun k hk => (ho k hk).elim (h.own k) .inr⟩
theorem FsAt.nodeAll (h : FsAt W fb L s) {o : Option Addr} {n cap : Nat} (hv : L.nv = .slice o n cap) {k : Nat} {d : Nd} (hd : s.nodes[k]? = some d) :
    ∃ g, o = some ⟨g, 0, none⟩ /\ W.cell? ⟨g, k * 3, none⟩ = some (.bool d.dir) /\ W.cell? ⟨g, k * 3 + 1, none⟩ = some (.string d.now) /\ W.cell? ⟨g, k * 3 + 2, none⟩ = some (.string d.sure) := by
  obtain ⟨g, m, cap', hv', _, h1, h2, h3, _⟩ := h.node hd
  rw [hv] at hv'
  injection hv' with e _ _
  exact ⟨g, e, h1, h2, h3⟩
theorem FsAt.nvf2 (h : FsAt W fb L s) : ∃ o cap, L.nv = .slice o s.nodes.length cap := by
  rcases h.rn.2 with ⟨hv, h0⟩ | ⟨g, cap, _, hv, _⟩
  . exact ⟨none, 0, by rw [hv, h0]⟩
  . exact ⟨_, cap, hv⟩
theorem FsAt.avf2 (h : FsAt W fb L s) : ∃ o cap, L.av = .slice o s.acts.length cap := by
  rcases h.ra.2 with ⟨hv, h0⟩ | ⟨g, cap, _, hv, _⟩
  . exact ⟨none, 0, by rw [hv, h0]⟩
  . exact ⟨_, cap, hv⟩
theorem FsAt.act2 (h : FsAt W fb L s) {o : Option Addr} {n cap : Nat} (hv : L.av = .slice o n cap) {k : Nat} {a : Ac} (ha : s.acts[k]? = some a) :
    ∃ g, o = some ⟨g, 0, none⟩ /\ W.cell? ⟨g, k * 4, none⟩ = some (.int .i64 (a.kind : Int)) /\ W.cell? ⟨g, k * 4 + 1, none⟩ = some (.string a.path) /\ W.cell? ⟨g, k * 4 + 2, none⟩ = some (.string a.to) /\ W.cell? ⟨g, k * 4 + 3, none⟩ = some (.int .i64 (a.node : Int)) := by
  have hr := h.ra
  obtain ⟨hn, rfl⟩ := List.getElem?_eq_some_iff.1 ha
  rcases h.ra.2 with ⟨_, h0⟩ | ⟨g, cap', cur, hv', _, hg, _⟩
  . omega
  . rw [hv] at hv'
    injection hv' with e _ _
    have key : ∀ i (hi : i < 4), W.cell? ⟨g, k * 4 + i, none⟩ = (Ac.cells s.acts[k])[i]? := fun i hi => by
      have := hr.cells (g := g) (by rw [hv, e]; rfl) (k * 4 + i) ((Ac.cells s.acts[k])[i]'hi) ((flat_get Ac.cells (fun _ => rfl) s.acts k i hn hi).trans (List.getElem?_eq_getElem hi))
      rw [add_none] at this
      rw [this, List.getElem?_eq_getElem hi]
    exact ⟨g, e, key 0 (by decide), key 1 (by decide), key 2 (by decide), key 3 (by decide)⟩
set_option maxRecDepth 1000000 in
theorem up_calls (h : FsAt W fb L s) (hoff : s.off = true) : Calls Tryz.prog 24 #[pt fb] W fun e w' => (∃ v, e = .returned v) /\ FsTo W fb L { s with off := false } w' := by
  have c7 := h.c7
  have f7 := h.fz 7
  rw [hoff] at c7
  have hH := Lib.hid h
  clear h hoff
  go_enter Tryz.func24, Tryz.ntmps24
  go_wp2
  go_ret
  exact ⟨⟨_, rfl⟩, _, hH.out.setOff false, Stp.set (.inl rfl) _⟩
set_option maxRecDepth 1000000 in
set_option maxHeartbeats 4000000 in
theorem crash_calls (h : FsAt W fb L s) (hoff : s.off = false) (hsame : ∀ d ∈ s.nodes, d.now = d.sure) (ha : s.acts.length <= 1000) (hl : s.nodes.length <= 1000) :
    Calls Tryz.prog 18 #[pt fb, .int .u64 0, .int .i64 0] W fun e w' => (∃ v, e = .returned v) /\ FsTo W fb L { s with now := s.sure, acts := [], off := true } w' := by
  have hde := dead_calls h
  rw [hoff] at hde
  obtain ⟨oa, ca, hva⟩ := h.avf2
  obtain ⟨on, cn, hvn⟩ := h.nvf2
  have hX := Lib.hid (And.intro hde (And.intro h (And.intro hsame (And.intro ha (And.intro hl (And.intro hva hvn))))))
  have hcc : Hid (∀ w, Sb W w -> w.cell? ⟨fb, 2, none⟩ = some (.slice oa s.acts.length ca) /\ w.cell? ⟨fb, 3, none⟩ = some (.slice on s.nodes.length cn)) := Lib.hid fun w hb => ⟨hva ▸ (h.below hb).c2, hvn ▸ (h.below hb).c3⟩
  clear hde h hoff hsame ha hl hva hvn
  go_enter Tryz.func18, Tryz.ntmps18
  go_wp2_with (first
    | (go_at_call 46; refine hX.out.1.mono ?_; rintro r1 w1 ⟨rfl, hw⟩; rw [hw]; clear hw)
    | (go_at_call 47; refine (keeper_calls _).mono ?_; rintro r1 w1 ⟨rfl, hw⟩; have hSw : Sb W w1 := (by rw [hw]; exact Sb.alloc (Sb.alloc (Sb.refl _) _) _); obtain ⟨c2, c3⟩ := hcc.out w1 hSw; have hC0 : Hid (CrAt W w1 (W.heap.size + 1) W.heap.size 0 w1) := Lib.hid (cr_start hw); have hS1 := Lib.hid hSw; clear hw hSw))
  go_loopw [22, 8] (fun vi _ wr => ∃ k : Nat, k <= s.acts.length /\ vi = .int .i64 (k : Int) /\ CrAt W w1 (W.heap.size + 1) W.heap.size k wr) (fun vi _ _ => s.acts.length - (RowKit.intOf vi).toNat)
  case atStart => exact ⟨0, Nat.zero_le _, rfl, hC0.out⟩
  case round =>
    obtain ⟨k, hk, rfl, hC⟩ := hrel
    have hk1000 : k <= 1000 := Nat.le_trans hk hX.out.2.2.2.1
    obtain ⟨hSr, hBr, hcb, hfb, hck⟩ := hC
    by_cases hlt : k < s.acts.length
    . have hlt' : (k : Int) < (s.acts.length : Int) := by omega
      obtain ⟨a, hak⟩ : ∃ a, s.acts[k]? = some a := ⟨_, List.getElem?_eq_getElem hlt⟩
      obtain ⟨g, rfl, a0, a1, a2, a3⟩ := (hX.out.2.1.below hSr).act2 hX.out.2.2.2.2.2.1 hak
      have hbb : W.heap.size + 1 ≠ W.heap.size := by omega
      have hcH := Lib.hid (And.intro hSr (And.intro hBr (And.intro hcb (And.intro hfb hck))))
      have hkc : Hid (∀ w, Sb wr w -> Calls Tryz.prog 84 #[pt (W.heap.size + 1), pt W.heap.size] w fun e w' => e = .returned (.bool false) /\ w' = w.setCell ⟨W.heap.size + 1, 0, none⟩ (.int .i64 ((k : Int) + 1))) := Lib.hid (fun w hs => kept_calls (w := w) (bb := W.heap.size + 1) (kb := W.heap.size) (n := k) (by omega) ((World.cell?_of_block (Sb.blk (show Sb wr w from hs) _ (World.block_lt_of_cell? wr _ hcb))).trans hcb) (frozen_kept hs hcb hfb) ((World.cell?_of_block (Sb.blk hs _ (World.block_lt_of_cell? wr _ hck))).trans hck) hbb)
      clear hSr hBr hcb hfb hck
      go_wp2_with (go_at_call 84; refine (hkc.out _ (Sb.alloc (Sb.refl wr) _)).mono ?_; rintro r1 w5 ⟨rfl, hw⟩; have hC5 : Hid (CrAt W w1 (W.heap.size + 1) W.heap.size (k + 1) w5) := Lib.hid (cr_next hcH.out (Nat.le_succ _) hbb hw); clear hw)
      go_roundw
      case rel => exact ⟨k + 1, hlt, by go_num, hC5.out⟩
      case measure => simp [RowKit.intOf]; omega
    . have hlt' : ¬ (k : Int) < (s.acts.length : Int) := by omega
      have hS2 := Lib.hid hSr
      clear hBr hcb hfb hck
      obtain ⟨_, c3r⟩ := hcc.out wr hSr
      clear hSr
      go_wp2
      go_loopw [42, 9, 10, 11, 12, 2] (fun vi _ _ _ _ _ wq => ∃ k : Nat, k <= s.nodes.length /\ vi = .int .i64 (k : Int) /\ Sb W wq) (fun vi _ _ _ _ _ _ => s.nodes.length - (RowKit.intOf vi).toNat)
      case atStart => exact ⟨0, Nat.zero_le _, rfl, hS2.out⟩
      case round =>
        obtain ⟨k, hk, rfl, hSq⟩ := hrel
        have hk1000 : k <= 1000 := Nat.le_trans hk hX.out.2.2.2.2.1
        by_cases hlt : k < s.nodes.length
        . have hlt' : (k : Int) < (s.nodes.length : Int) := by omega
          obtain ⟨d, hdk⟩ : ∃ d, s.nodes[k]? = some d := ⟨_, List.getElem?_eq_getElem hlt⟩
          obtain ⟨g, rfl, d0, d1, d2⟩ := (hX.out.2.1.below hSq).nodeAll hX.out.2.2.2.2.2.2 hdk
          have hds := hX.out.2.2.1 d (List.mem_of_getElem? hdk)
          rw [<- hds] at d2
          have hbq := beq_self_eq_true d.now.toList
          have hSH := Lib.hid hSq
          clear hSq hdk hds
          go_wp2
          go_roundw
          case rel => exact ⟨k + 1, hlt, by go_num, Sb.alloc hSH.out _⟩
          case measure => simp [RowKit.intOf]; omega
        . have hlt' : ¬ (k : Int) < (s.nodes.length : Int) := by omega
          have hF := hX.out.2.1.below hSq
          have c1 := hF.c1
          have hFH := Lib.hid hF
          have hSH := Lib.hid hSq
          clear hF hSq
          go_wp2_with (go_at_call 50; refine (clone_calls hFH.out.ms).mono ?_; rintro r1 w6 ⟨rfl, hM, hb⟩; have h6 := hFH.out.below hb; have c0 := h6.c0; have c2 := h6.c2; have c7 := h6.c7; have f0 := h6.fz 0; have f2 := h6.fz 2; have f7 := h6.fz 7; have h6H := Lib.hid h6; have hMH := Lib.hid hM; have hS6 := Lib.hid (Sb.trans hSH.out hb); clear h6 hM hb)
          go_end0
          refine ⟨⟨_, rfl⟩, _, h6H.out.crashed hMH.out (fun x hx e => absurd (hFH.out.lt hx) (by omega)), ?_⟩
          refine ((((Stp.below (L.own fb) hS6.out).trans (Stp.set (P := L.own fb) (.inl rfl) _)).trans (Stp.set (P := L.own fb) (.inl rfl) _)).trans (Stp.set (P := L.own fb) (.inl rfl) _)).tr2 fun x hx => ?_
          rcases hx with hx | hx | hx | hx | hx
          . exact .inl (.inl hx)
          . exact .inr (Nat.le_trans hSH.out.siz (Nat.le_of_eq (Eq.symm hx)))
          . exact .inl (.inr (.inr (.inl hx)))
          . cases hx
          . exact .inl (.inr (.inr (.inr (.inr hx))))
end
end Go.Proofs
namespace Go.Proofs
open Go.RowKit Go.Ev Go.Lib Go.Shelf
attribute [local go_sem] Oper.semAt_some
attribute [local go_sem ↓] Go.wp_at_zero Go.wp_at_succ
section
variable {W : World} {fb : Nat} {L : Lay} {s : St}
set_option maxRecDepth 1000000 in
set_option maxHeartbeats 4000000 in
theorem sync_root (h : FsAt W fb L s) (hoff : s.off = false) (hf : FolIs s s.now ⟨#[]⟩) {U : ByteArray -> ByteArray} (hU : ∀ a ∈ s.acts, UpIs a.path (U a.path) /\ (a.kind = 2 -> UpIs a.to (U a.to))) {r : List Ac} {M : Nm} (hr : SRun s.nodes U ⟨#[]⟩ s.acts s.sure r M) (hk : s.k <= 1000) (ha : s.acts.length <= 1000) (hall : ∀ a ∈ s.acts, U a.path = ⟨#[]⟩) :
    Calls Tryz.prog 43 #[pt fb, .string ⟨#[]⟩] W fun e w' => e = .returned (.int .i64 0) /\ FsTo W fb L { s with sure := M, acts := r, k := s.k + s.acts.length } w' := by
  obtain ⟨i0, hi0, hz0, hz1, hz2⟩ := info_parts info67
  have hde := dead_calls h
  rw [hoff] at hde
  have hX := Lib.hid (And.intro hde (And.intro h (And.intro hf trivial)))
  have hB := Lib.hid (And.intro hk ha)
  have hUH := Lib.hid hU
  have hr0 := Lib.hid hr
  have hallH := Lib.hid hall
  clear hall
  clear hde h hoff hf hU hr hk ha
  go_enter Tryz.func43, Tryz.ntmps43
  go_wp2_with (first
    | (go_at_call 46; refine hX.out.1.mono ?_; rintro r1 w1 ⟨rfl, hw⟩; rw [hw]; clear hw; have hS1 := Lib.hid (Sb.refl W))
    | (go_at_call 31; refine (fol_ok hX.out.2.1 hX.out.2.2.1).mono ?_; rintro r1 w3 ⟨rfl, hw⟩; rw [hw]; clear hw)
    | (go_at_call 34; refine (step_calls hX.out.2.1).mono ?_; rintro r1 w4 ⟨rfl, L1, h4, hs4⟩; have c2 := h4.c2; obtain ⟨oa, capa, hva⟩ := h4.avf; rw [hva] at c2; have hvH := Lib.hid hva; have hS4 := Lib.hid hs4; have h4H := Lib.hid h4; clear h4 hs4 hva))
  go_loopw [32, 6, 8] (fun i v _ wr => ∃ k : Nat, k <= s.acts.length /\ i = .int .i64 (k : Int) /\ SyIn W fb L L1 s w4.heap.size U ⟨#[]⟩ r M k v wr) (fun i _ _ _ => s.acts.length - (RowKit.intOf i).toNat)
  case atStart =>
    exact ⟨0, Nat.zero_le _, rfl, s.sure, [], r, h4H.out, hS4.out, Nat.le_refl _, World.ownsRow_nil _ _ _ _, rfl, Nat.le_refl _, hr0.out⟩
  case round =>
    obtain ⟨k, hk, rfl, Mi, ri, rr, hF, hSt, hBr, hrow, hrr, hl, hrun⟩ := hrel
    replace hF := Lib.hid hF
    replace hSt := Lib.hid hSt
    replace hBr := Lib.hid hBr
    replace hrow := Lib.hid hrow
    replace hrr := Lib.hid hrr
    replace hl := Lib.hid hl
    have hk1000 : k <= 1000 := Nat.le_trans hk hB.out.2
    by_cases hlt : k < s.acts.length
    . have hlt' : (k : Int) < (s.acts.length : Int) := by omega
      obtain ⟨a, hae⟩ : ∃ a, a = s.acts[k] := ⟨_, rfl⟩
      have hak : s.acts[k]? = some a := by rw [hae]; exact List.getElem?_eq_getElem hlt
      have ham : a ∈ s.acts := List.mem_of_getElem? hak
      rw [drop_get hlt, <- hae] at hrun
      obtain ⟨g, rfl, a0, a1, a2, a3⟩ := hF.out.act hvH.out (k := k) hak
      have hu12 := hUH.out a ham
      clear hae hak
      by_cases hp1 : U a.path = ⟨#[]⟩
      . rw [hp1] at hu12
        have hu1 := Lib.hid hu12.1
        obtain ⟨M1, hdd, hn⟩ : ∃ M1, DoAll s.nodes Mi a M1 /\ SRun s.nodes U ⟨#[]⟩ (s.acts.drop (k + 1)) M1 rr M := by
          cases hrun with
          | hit hh d n => exact ⟨_, d, n⟩
          | miss hh n => exact absurd (Or.inl hp1) hh
        replace hdd := Lib.hid hdd
        replace hn := Lib.hid hn
        clear hrun hu12 hp1
        go_wp2_with (go_at_call 32; refine (hu1.out _).mono ?_; rintro r1 w5 ⟨rfl, hb⟩; obtain ⟨b0, b1, b2, b3⟩ := box4 hb; have hS5 := Lib.hid hb; clear hb)
        have hdo : Hid (∀ w', Sb wr w' -> Calls Tryz.prog 48 #[.map (some L1.bs), .agg #[.int .i64 (a.kind : Int), .string a.path, .string a.to, .int .i64 (a.node : Int)], dirV fb] w' fun e w'' => (∃ v, e = .returned v) /\ MapTo w' L1.bs (s.k + k + 1) M1 w'') := Lib.hid fun w' hb =>
          hdd.out { s with sure := Mi, k := s.k + k } rfl w' fb L1 L1.bs (s.k + k) (hF.out.below hb) (hF.out.ms.kept (Sb.blk hb _ hF.out.ms.lt)) (by have := hB.out; omega)
        have hbs : Hid (L1.bs < w4.heap.size) := Lib.hid (h4H.out.lt (.inr (.inr (.inl rfl))))
        have hk15 : Hid (∀ w', Sb w5 w' -> w'.cell? ⟨fb, 1, none⟩ = some (.map (some L1.bs)) /\ w'.cell? ⟨wr.heap.size, 0, none⟩ = some (.int .i64 (a.kind : Int)) /\ w'.cell? ⟨wr.heap.size, 1, none⟩ = some (.string a.path) /\ w'.cell? ⟨wr.heap.size, 2, none⟩ = some (.string a.to) /\ w'.cell? ⟨wr.heap.size, 3, none⟩ = some (.int .i64 (a.node : Int))) := Lib.hid fun w' hb =>
          ⟨(hF.out.below (Sb.trans (Sb.trans (Sb.alloc (Sb.refl wr) _) hS5.out) hb)).c1, box4 (Sb.trans hS5.out hb)⟩
        have hk15g : Hid (∀ w1 w', Sb w5 w1 -> w1.grownBy w' (some L1.bs) -> w'.cell? ⟨fb, 1, none⟩ = some (.map (some L1.bs)) /\ w'.cell? ⟨wr.heap.size, 0, none⟩ = some (.int .i64 (a.kind : Int)) /\ w'.cell? ⟨wr.heap.size, 1, none⟩ = some (.string a.path) /\ w'.cell? ⟨wr.heap.size, 2, none⟩ = some (.string a.to) /\ w'.cell? ⟨wr.heap.size, 3, none⟩ = some (.int .i64 (a.node : Int))) := Lib.hid fun w1 w' hb hg => by
          have hb1 := Sb.trans (Sb.trans (Sb.alloc (Sb.refl wr) (.cells #[.int .i64 (a.kind : Int), .string a.path, .string a.to, .int .i64 (a.node : Int)] 67)) hS5.out) hb
          refine ⟨?_, box4g (Sb.trans hS5.out hb) hg (by have := hBr.out; have := hbs.out; omega)⟩
          have e2 : w'.heap[fb]? = _ := (hg.block _ (Nat.lt_of_lt_of_le (hF.out.lt (.inl rfl)) hb1.siz) (fun e => hF.out.fbs (by injection e))).trans ((hF.out.below hb1).hp)
          rw [Lib.cell_of_heap e2]; rfl
        go_region_held3 (fun w' => w'.cell? ⟨fb, 1, none⟩ = some (.map (some L1.bs)) /\ w'.cell? ⟨wr.heap.size, 0, none⟩ = some (.int .i64 (a.kind : Int)) /\ w'.cell? ⟨wr.heap.size, 1, none⟩ = some (.string a.path) /\ w'.cell? ⟨wr.heap.size, 2, none⟩ = some (.string a.to) /\ w'.cell? ⟨wr.heap.size, 3, none⟩ = some (.int .i64 (a.node : Int)))
          (first
            | exact hk15.out _ (Sb.drew (Sb.refl _))
            | exact hk15g.out _ _ (Sb.drew (Sb.refl _)) (by assumption))
          ((go_at_call 48; refine (hdo.out _ (Sb.drew (Sb.trans (Sb.alloc (Sb.refl wr) _) hS5.out))).mono ?_; rintro r1 w6 ⟨⟨v6, rfl⟩, hM6⟩; have hg6 := hM6.2))
        rename_i hHeld
        have hM6' := Lib.hid hM6
        clear hHeld hg6 hM6
        go_wp2
        go_roundw
        case rel => exact ⟨k + 1, hlt, by go_num, SyIn.next_hit hF.out hSt.out hBr.out hrow.out hrr.out hl.out hn.out hbs.out (Sb.drew (Sb.trans (Sb.alloc (Sb.refl wr) _) hS5.out)) hM6'.out⟩
        case measure => simp [RowKit.intOf]; omega
      . exact absurd (hallH.out a ham) hp1
    . have hlt' : ¬ (k : Int) < (s.acts.length : Int) := by omega
      obtain rfl : k = s.acts.length := by omega
      have hrr' : r = ri /\ M = Mi := by
        rw [List.drop_length] at hrun
        cases hrun
        exact ⟨by rw [hrr.out, List.append_nil], rfl⟩
      have hrrH := Lib.hid hrr'
      have f2 := hF.out.fz 2
      have c2r := hF.out.c2
      clear hrun hrr'
      obtain ⟨ov, cv, rfl⟩ := row_form hrow.out
      go_wp2
      go_ret
      have hnew := hF.out.setAv (v := .slice ov ri.length cv) (acts := ri) (World.grownBy.refl _ _) (hrow.out.mono (Nat.zero_le _))
      refine ⟨rfl, { L1 with av := .slice ov ri.length cv }, ?_, (hSt.out.trans (Stp.set (P := L1.own fb) (.inl rfl) _)).trans' ?_⟩
      . rw [hrrH.out.1, hrrH.out.2]
        exact hnew
      . intro x hx
        rcases hx with hx | hx | hx | hx | hx
        . exact .inl (.inl hx)
        . exact .inl (.inr (.inl hx))
        . exact .inl (.inr (.inr (.inl hx)))
        . exact .inr (Nat.le_trans hS4.out.size (hrow.out.lt x hx).1)
        . exact .inl (.inr (.inr (.inr (.inr hx))))
end
end Go.Proofs
