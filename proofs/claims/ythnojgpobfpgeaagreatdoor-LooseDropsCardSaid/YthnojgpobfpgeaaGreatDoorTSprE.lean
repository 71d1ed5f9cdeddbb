/- lz.Spread is spreadL. -/
import Derived.Test.YthnojgpobfpgeaaGreatDoorTSprC
import Derived.Test.YthnojgpobfpgeaaGreatDoorTRnd
namespace Go.Proofs
open Go.RowKit Go.Ev Go.Lib
attribute [local go_sem] Oper.semAt_some
def spreadE (n : Nat) : Nat -> List UInt8 -> List UInt8 -> Int
 | 0, _, _ => 6
 | f + 1, t, out =>
  if n <= out.length then 5
  else match takS t (n - out.length) with
   | none => numE t
   | some (c, t1) =>
    if t1.length < c then 4
    else if (out ++ t1.take c).length = n then 5
    else match takS (t1.drop c) 32768 with
     | none => numE (t1.drop c)
     | some (k, t3) => match takS t3 (n - (out ++ t1.take c).length) with
      | none => numE t3
      | some (m, t4) => if m + 4 <= n - (out ++ t1.take c).length /\ 1 <= k /\ k <= (out ++ t1.take c).length then spreadE n f t4 (repS k (m + 4) (out ++ t1.take c)) else 6
def Todo (n : Nat) (T : List UInt8) (e : Int) (out : List UInt8) (R : Option (List UInt8)) (E : Int) (k : Nat) : Prop :=
 (e ≠ 0 /\ R = none /\ e = E) \/ (e = 0 /\ ∃ f, n - out.length < f /\ k = f /\ spreadR n f T out = R /\ spreadE n f T out = E)
def Done (T : List UInt8) (e : Int) (out : List UInt8) (R : Option (List UInt8)) (E : Int) : Prop :=
 (e ≠ 0 /\ R = none /\ e = E) \/ (e = 0 /\ R = (if T = [] then some out else none) /\ E = 5)
theorem round_sp {n tb base : Nat} {w0 : World} {T : ByteArray} {e : Int} {out : List UInt8} {R : Option (List UInt8)} {E : Int} {k : Nat} {A : Act} {W : World} (hC : SpC n tb base w0) (hI : SpS n tb base w0 T e out A W) (hR : Todo n T.data.toList e out R E k) {Q : Exit -> Act -> World -> Prop}
  (hX : ∀ A' W' T' e' out', SpS n tb base w0 T' e' out' A' W' -> Done T'.data.toList e' out' R E -> Q (.exit 1) A' W')
  (hN : ∀ A' W' T' e' out' k', SpS n tb base w0 T' e' out' A' W' -> Todo n T'.data.toList e' out' R E k' -> e = 0 -> (e' = 0 -> k' < k) -> Q .normal A' W') : (loopB (itemN L38 5)).wp Tryz.prog Q A W := by
 refine wpL_codes ?_
 refine wpL_lit (L' := [itemN L38a 0, itemN L38a 1, itemN L38a 2]) (by rfl) ?_
 rcases hR with ⟨he, hR, hE⟩ | ⟨he, f, hf, hk, hR, hE⟩
 ·
  exact head_exit hI (.inl he) fun A' W' h => hX A' W' _ _ _ h (.inl ⟨he, hR, hE⟩)
 ·
  subst he
  obtain ⟨f, rfl⟩ : ∃ f', f = f' + 1 := ⟨f - 1, by omega⟩
  unfold spreadR at hR
  unfold spreadE at hE
  by_cases hlt : out.length < n
  ·
   have hlt2 : ¬ n <= out.length := by omega
   rw [if_neg hlt2] at hR hE
   refine head_go hI hlt fun A1 W1 hI1 => ?_
   rw [blk38]
   refine wp_block (wpL_codes ?_)
   refine wpL_lit (L' := [itemN L38b 0] ++ ([itemN L38b 1, itemN L38b 2] ++ ([itemN L38b 3, itemN L38b 4] ++ [itemN L38b 5, itemN L38b 6, itemN L38b 7, itemN L38b 8, itemN L38b 9]))) (by rfl) ?_
   refine wpL_app _ _ _ _ (reg9 hC hI1 fun A2 W2 T2 e2 X hI2 hR9 => ?_)
   show wpL Tryz.prog _ _ A2 W2
   refine wpL_app _ _ _ _ ?_
   have hXl : X.data.toList.length = X.size := by simp
   rcases hR9 with ⟨rfl, c, t1, h1, h2, h3, h4⟩ | ⟨he2, hX0, h1⟩
   ·
    rw [h1] at hR hE
    dsimp only at hR hE
    rw [if_neg (by omega), <- h3, <- h4] at hR hE
    by_cases hl : (out ++ X.data.toList).length = n
    ·
     rw [if_pos hl] at hR hE
     exact mid_exit hI2 (.inr ⟨rfl, hl⟩) fun A3 W3 hI3 => hX A3 W3 _ _ _ hI3 (.inr ⟨rfl, hR.symm, hE.symm⟩)
    ·
     rw [if_neg hl] at hR hE
     refine mid_go hI2 hl fun A3 W3 hI3 => ?_
     show wpL Tryz.prog _ _ A3 W3
     refine wpL_app _ _ _ _ (reg11 hC hI3 fun A4 W4 S3 T4 e3 e4 kk m hI4 hR1 hR2 => ?_)
     show wpL Tryz.prog _ _ A4 W4
     obtain ⟨_, _, g3⟩ := hR1
     have hbad : ∀ {e'}, (e' : Int) ≠ 0 -> R = none -> e' = E -> ∀ A' W' T' out', SpS n tb base w0 T' e' out' A' W' -> Q .normal A' W' := fun he' hRn hEn A' W' T' out' h => hN A' W' _ _ _ 0 h (.inl ⟨he', hRn, hEn⟩) rfl fun h0 => absurd h0 he'
     rcases g3 rfl with ⟨rfl, ht⟩ | ⟨hne, rfl, ht⟩
     ·
      rw [ht] at hR hE
      dsimp only at hR hE
      obtain ⟨_, _, g6⟩ := hR2
      rcases g6 rfl with ⟨rfl, ht2⟩ | ⟨hne, rfl, ht2⟩
      ·
       rw [ht2] at hR hE
       dsimp only at hR hE
       by_cases hm : m + 4 <= n - (out ++ X.data.toList).length
       ·
        by_cases hk2 : 1 <= kk /\ kk <= (out ++ X.data.toList).length
        ·
         rw [if_pos ⟨hm, hk2⟩] at hR hE
         refine tail_yes hC hI4 hm hk2.1 hk2.2 (takS_le ht) fun A5 W5 hI5 => ?_
         refine hN A5 W5 _ _ _ f hI5 (.inr ⟨rfl, f, ?_, rfl, hR, hE⟩) rfl fun _ => by omega
         rw [repS_len, List.length_append]
         have : 0 <= X.size := Nat.zero_le _
         omega
        ·
         rw [if_neg (fun h => hk2 h.2)] at hR hE
         exact tail_no hC hI4 hm hk2 fun A5 W5 hI5 => hbad (by decide) hR.symm hE A5 W5 _ _ hI5
       ·
        rw [if_neg (fun h => hm h.1)] at hR hE
        exact tail_big hC hI4 hm fun A5 W5 hI5 => hbad (by decide) hR.symm hE A5 W5 _ _ hI5
      ·
       rw [ht2] at hR hE
       have hne' : e4 ≠ 0 := hne ▸ numE_ne _
       exact tail_bad hI4 hne' fun A5 W5 hI5 => hbad hne' hR.symm (hne.trans hE) A5 W5 _ _ hI5
     ·
      rw [ht] at hR hE
      have hne' : e3 ≠ 0 := hne ▸ numE_ne _
      have he43 : e4 = e3 := by
       obtain ⟨_, g5, _⟩ := hR2
       exact (g5 hne').2.1
      have he4 : e4 ≠ 0 := he43 ▸ hne'
      exact tail_bad hI4 he4 fun A5 W5 hI5 => hbad he4 hR.symm (he43.trans (hne.trans hE)) A5 W5 _ _ hI5
   ·
    refine mid_exit hI2 (.inl he2) fun A3 W3 hI3 => ?_
    rcases h1 with ⟨h1, h2⟩ | ⟨c, t1, h1, h2, h3⟩
    ·
     rw [h1] at hR hE
     exact hX A3 W3 _ _ _ hI3 (.inl ⟨he2, hR.symm, h2.trans hE⟩)
    ·
     rw [h1] at hR hE
     dsimp only at hR hE
     rw [if_pos h2] at hR hE
     exact hX A3 W3 _ _ _ hI3 (.inl ⟨he2, hR.symm, h3.trans hE⟩)
  ·
   rw [if_pos (by omega)] at hR hE
   exact head_exit hI (.inr ⟨rfl, hlt⟩) fun A' W' h => hX A' W' _ _ _ h (.inr ⟨rfl, hR.symm, hE.symm⟩)
theorem loop_sp {n tb base : Nat} {w0 : World} {T : ByteArray} {e : Int} {out : List UInt8} {R : Option (List UInt8)} {E : Int} {k : Nat} {A : Act} {W : World} (hC : SpC n tb base w0) (hI : SpS n tb base w0 T e out A W) (hR : Todo n T.data.toList e out R E k) {Q : Exit -> Act -> World -> Prop}
  (hX : ∀ A' W' T' e' out', SpS n tb base w0 T' e' out' A' W' -> Done T'.data.toList e' out' R E -> Q (.exit 1) A' W') : (Code.loop (loopB (itemN L38 5))).wp Tryz.prog Q A W := by
 refine wp_loop_n (P := Tryz.prog) (b := loopB (itemN L38 5)) (Q := Q) (I := fun j A' W' => ∃ T e out k, j = (if e = 0 then k + 1 else 0) /\ SpS n tb base w0 T e out A' W' /\ Todo n T.data.toList e out R E k) (fun j A' W' ⟨T, e, out, k, hj, hI, hR⟩ => ?_) (if e = 0 then k + 1 else 0) A W ⟨T, e, out, k, rfl, hI, hR⟩
 refine round_sp hC hI hR (fun A1 W1 T1 e1 out1 h1 h2 => hX A1 W1 T1 e1 out1 h1 h2) fun A1 W1 T1 e1 out1 k1 h1 h2 he hk => ⟨(if e1 = 0 then k1 + 1 else 0), ?_, T1, e1, out1, k1, rfl, h1, h2⟩
 rw [hj, if_pos he]
 split
 ·
  rename_i h0
  have := hk h0
  omega
 ·
  omega
end Go.Proofs
namespace Go.Proofs
open Go.RowKit Go.Ev Go.Lib
attribute [local go_sem] Oper.semAt_some
def sprE (p : List UInt8) (most : Nat) : Int := match takS p 1048576 with
 | none => numE p
 | some (n, t) => if most < n then 3 else spreadE n (n + 1) t []
def SprP (p : List UInt8) (most : Nat) (r : Ending) : Prop := match spreadL p most with
 | some x => r = .returned (.tuple #[.string ⟨⟨x⟩⟩, .int .i64 0])
 | none => r = .returned (.tuple #[.string ⟨#[]⟩, .int .i64 (sprE p most)])
theorem spr_none {p : List UInt8} {most : Nat} {c : Int} (h : spreadL p most = none) (hc : sprE p most = c) : SprP p most (.returned (.tuple #[.string ⟨#[]⟩, .int .i64 c])) := by
 unfold SprP; rw [h, hc]
theorem spr_some {p x : List UInt8} {most : Nat} (h : spreadL p most = some x) : SprP p most (.returned (.tuple #[.string ⟨⟨x⟩⟩, .int .i64 0])) := by
 unfold SprP; rw [h]
theorem but_alloc {w w' : World} {o : Obj} (h : ButB (w.alloc o).heap.size w.heap.size (w.alloc o) w') : Below w.heap.size w w' :=
 ⟨h.os, h.tape, h.output, Nat.le_trans (by simp) h.size, fun k hk => (h.block k (by simp; omega) (by omega)).trans (heap_alloc_old w o hk)⟩
set_option maxHeartbeats 4000000 in
set_option maxRecDepth 1000000 in
theorem spread_calls {p : ByteArray} {most : Nat} (hp : p.size <= 1000000) (w : World) :
  Calls Tryz.prog 38 #[.string p, .int .i64 (most : Int)] w fun r w' => SprP p.data.toList most r /\ Below w.heap.size w w' := by
 have hbody : Tryz.f38.body = some (Tryz.f38.body.getD .skip) := by kernel_rfl
 refine calls_of_wp Tryz.func38 hbody (wpL_codes ?_)
 obtain ⟨hsz, hd, hsl⟩ := fr_enter (args := [.string p, .int .i64 (most : Int)]) (l := [(0, .string p), (1, .int .i64 (most : Int))]) Tryz.ntmps38 (by simp) (fun q hq => by
  simp only [List.mem_cons, List.not_mem_nil, or_false] at hq
  rcases hq with rfl | rfl <;> rfl)
 generalize hA : (⟨(⟨[.string p, .int .i64 (most : Int)]⟩ : Array Value) ++ Array.replicate (Tryz.f38.ntmps - (⟨[.string p, .int .i64 (most : Int)]⟩ : Array Value).size) undef, []⟩ : Act) = A at *
 clear hA
 have h0 := hsl (0, .string p) (by simp)
 have h1 := hsl (1, .int .i64 (most : Int)) (by simp)
 clear hsl
 obtain ⟨f, rfl⟩ := lit123 hsz hd
 replace h0 : f 0 = .string p := h0
 replace h1 : f 1 = .int .i64 (most : Int) := h1
 rw [h0, h1]
 clear h0 h1 hsz hd
 have hT0 : TakAt (w.alloc (.cells #[.string p, .int .i64 0] 114)) w.heap.size p 0 := heap_alloc_new w _
 have hnum := Lib.hid (num_tak (most := 1048576) hT0 (Nat.le_trans hp (by decide)) (by decide))
 clear hT0
 refine wpL_lit (L' := [_, _, _, _, _, itemN L38 5, _, _, _]) (by rfl) ?_
 simp only [wpL]
 go_wp2_with (fail)
 refine hnum.out.mono ?_
 rintro r w1 ⟨n, T1, e1, rfl, hT1, hb1, hR1⟩
 have hT1s := hR1.1
 obtain ⟨c0, c1, f0, f1⟩ := tak_cells hT1
 have hbel1 := but_alloc hb1
 rcases hR1.2.2 rfl with ⟨rfl, ht⟩ | ⟨hne, rfl, ht⟩
 ·
  have hn := takS_le ht
  by_cases hmn : most < n
  ·
   have hmn' : (most : Int) < (n : Int) := by omega
   have hS : Hid (spreadL p.data.toList most = none) := Lib.hid (by unfold spreadL; rw [ht]; exact if_pos hmn)
   have hSE : Hid (sprE p.data.toList most = 3) := Lib.hid (by unfold sprE; rw [ht]; exact if_pos hmn)
   have hb' := Lib.hid hbel1
   clear ht hT1 hb1 hR1 hbel1 hnum
   go_wp2
   go_ret2
   exact ⟨spr_none hS.out hSE.out, hb'.out⟩
  ·
   have hmn' : ¬ (most : Int) < (n : Int) := by omega
   have hS : Hid (spreadL p.data.toList most = spreadR n (n + 1) T1.data.toList []) := Lib.hid (by unfold spreadL; rw [ht]; exact if_neg hmn)
   have hSE : Hid (sprE p.data.toList most = spreadE n (n + 1) T1.data.toList []) := Lib.hid (by unfold sprE; rw [ht]; exact if_neg hmn)
   have hb' := Lib.hid (And.intro hbel1 (And.intro hT1 hb1.size))
   have hT1s' := Lib.hid hT1s
   clear ht hT1 hb1 hR1 hbel1 hnum hT1s
   go_wp2
   rw [loop_eq id38]
   refine wp_block ?_
   obtain ⟨hbel1, hT1, hsz1⟩ := hb'.out
   have hTs := hT1s'.out
   have hsz2 : w.heap.size + 1 <= w1.heap.size := by simpa using hsz1
   refine loop_sp (n := n) (tb := w.heap.size) (base := w.heap.size + 1) (w0 := w) (T := T1) (e := 0) (out := []) (R := spreadR n (n + 1) T1.data.toList []) (E := spreadE n (n + 1) T1.data.toList []) (k := n + 1) ⟨by omega, Nat.le_refl _, hn⟩ ⟨⟨.slice none 0 0, ⟨rfl, rfl, fun q hq => ?_⟩, .inl ⟨rfl, rfl⟩⟩, hT1, hbel1, hsz2, Nat.le_trans hTs hp, Nat.zero_le _⟩ (.inr ⟨rfl, n + 1, by simp, rfl, rfl, rfl⟩) fun A2 W2 T2 e2 out2 hI2 hD2 => ?_
   ·
    simp only [List.mem_cons, List.not_mem_nil, or_false] at hq
    rcases hq with rfl | rfl | rfl <;> rfl
   ·
    rw [<- hS.out, <- hSE.out] at hD2
    obtain ⟨⟨v2, hF2, hB2⟩, hT2, hbut2, hle2, _, _⟩ := hI2
    obtain ⟨f2, rfl⟩ := fr678 hF2
    obtain ⟨d0, d1, _, _⟩ := tak_cells hT2
    have hcv := convF_back hB2
    have hbut2' := Lib.hid hbut2
    clear hF2 hB2 hT2 hbut2 hle2 c0 c1 f0 f1 hbel1 hT1 hsz1 hsz2 hTs
    rcases hD2 with ⟨he2, hRn, hEn⟩ | ⟨rfl, hR2, hE2⟩
    ·
     have hRn' := Lib.hid hRn
     have hEn' := Lib.hid hEn
     clear hRn hEn
     dsimp only
     go_wp2
     refine wp_mono (Q := Nrm fun A' w' => Fr 123 A' [(4, .string ⟨#[]⟩), (5, .int .i64 e2)] /\ Sb W2 w') ?_ ?_
     ·
      go_region_law (go_simp)
      all_goals
       refine ⟨⟨rfl, rfl, fun q hq => ?_⟩, by repeat (first | exact Sb.refl _ | apply Sb.drew)⟩
       simp only [List.mem_cons, List.not_mem_nil, or_false] at hq
       rcases hq with rfl | rfl <;> rfl
     ·
      intro ex A3 W3 h
      cases ex with
      | normal =>
       obtain ⟨⟨hsz3, hd3, hsl3⟩, hb3⟩ := h
       have h4 := hsl3 (4, .string ⟨#[]⟩) (by simp)
       have h5 := hsl3 (5, .int .i64 e2) (by simp)
       clear hsl3
       obtain ⟨f3, rfl⟩ := lit123 hsz3 hd3
       replace h4 : f3 4 = .string ⟨#[]⟩ := h4
       replace h5 : f3 5 = .int .i64 e2 := h5
       rw [h4, h5]
       clear h4 h5 hsz3 hd3
       dsimp only
       go_wp2
       go_ret2
       exact ⟨spr_none hRn'.out hEn'.out.symm, hbut2'.out.trans (Below.mono hb3 (hbut2'.out.size))⟩
      | _ => exact h.elim
    ·
     have hE2' := Lib.hid hE2
     clear hE2
     by_cases hT : T2.data.toList = []
     ·
      rw [if_pos hT] at hR2
      have hTe : T2 = ⟨#[]⟩ := by
       apply ByteArray.ext
       apply Array.ext'
       exact hT
      subst hTe
      have hR2' := Lib.hid hR2
      clear hR2 hT
      dsimp only
      go_wp2
      go_ret2
      exact ⟨spr_some hR2'.out, hbut2'.out⟩
     ·
      rw [if_neg hT] at hR2
      have hTe : T2.toList.isEmpty = false := by
       rw [ByteArray.toList_eq]
       cases hl : T2.data.toList with
       | nil => exact absurd hl hT
       | cons _ _ => rfl
      have hR2' := Lib.hid hR2
      clear hR2 hT
      dsimp only
      go_wp2
      go_ret2
      exact ⟨spr_none hR2'.out hE2'.out, hbut2'.out⟩
 ·
  have hS : Hid (spreadL p.data.toList most = none) := Lib.hid (by unfold spreadL; rw [ht])
  have hSE : Hid (sprE p.data.toList most = e1) := Lib.hid (by unfold sprE; rw [ht]; exact hne.symm)
  have hne' : ¬ e1 = 0 := hne ▸ numE_ne _
  clear hne
  have hb' := Lib.hid hbel1
  clear ht hT1 hb1 hR1 hbel1 hnum
  go_wp2
  refine wp_mono (Q := Nrm fun A' w' => Fr 123 A' [(4, .string ⟨#[]⟩), (5, .int .i64 e1)] /\ Sb w1 w') ?_ ?_
  ·
   go_region_law (go_simp)
   all_goals
    refine ⟨⟨rfl, rfl, fun q hq => ?_⟩, by repeat (first | exact Sb.refl _ | apply Sb.drew)⟩
    simp only [List.mem_cons, List.not_mem_nil, or_false] at hq
    rcases hq with rfl | rfl <;> rfl
  ·
   intro ex A3 W3 h
   cases ex with
   | normal =>
    obtain ⟨⟨hsz3, hd3, hsl3⟩, hb3⟩ := h
    have h4 := hsl3 (4, .string ⟨#[]⟩) (by simp)
    have h5 := hsl3 (5, .int .i64 e1) (by simp)
    clear hsl3
    obtain ⟨f3, rfl⟩ := lit123 hsz3 hd3
    replace h4 : f3 4 = .string ⟨#[]⟩ := h4
    replace h5 : f3 5 = .int .i64 e1 := h5
    rw [h4, h5]
    clear h4 h5 hsz3 hd3
    dsimp only
    go_wp2
    go_ret2
    exact ⟨spr_none hS.out hSE.out, hb'.out.trans (Below.mono hb3 (hb'.out.size))⟩
   | _ => exact h.elim
end Go.Proofs
