/- name: something is done to names, which is not sure. -/
import Derived.Test.YthnojgpobfpgeaaGreatDoorTFsE
import Derived.Deep.AppendLies
set_option linter.unusedVariables false
set_option linter.unusedSimpArgs false
namespace Go.Proofs
open Go.RowKit Go.Ev Go.Lib Go.Shelf
attribute [local go_sem] Oper.semAt_some
attribute [local go_sem ↓] Go.wp_at_zero Go.wp_at_succ
theorem info67 : (Tryz.prog.info? 67).map (fun i => (i.zero, i.size, i.bytes)) = some (some (.agg #[.int .i64 0, .string ⟨#[]⟩, .string ⟨#[]⟩, .int .i64 0]), 4, 48) := by kernel_rfl
theorem info62 : (Tryz.prog.info? 62).map (fun i => (i.zero, i.size, i.bytes)) = some (some (.agg #[.bool false, .string ⟨#[]⟩, .string ⟨#[]⟩]), 3, 40) := by kernel_rfl
def DoOk (s : St) (M : Nm) (a : Ac) (M' : Nm) : Prop := ∀ (W : World) (fb : Nat) (L : Lay) (bm n : Nat), FsAt W fb L s -> MapF W bm n M -> n <= 1000000 -> Calls Tryz.prog 48 #[.map (some bm), a.val, dirV fb] W fun e w' => (∃ v, e = .returned v) /\ MapTo W bm (n + 1) M' w'
theorem MapF.mono {w : World} {b n m : Nat} {M : Nm} (h : MapF w b n M) (hm : n <= m) : MapF w b m M := by
  obtain ⟨D, h1, h2⟩ := h
  exact ⟨D, h1.mono hm, h2⟩
theorem hao {W : World} {X : Obj} {r : Nat} (h : r < W.heap.size) : (W.alloc X).heap[r]? = W.heap[r]? := by
  show (W.heap.push X)[r]? = _
  rw [Array.getElem?_push, if_neg (by omega)]
section
variable {W : World} {fb : Nat} {L : Lay} {s : St} {M : Nm}
theorem DoOk.there {p : ByteArray} (hp : p.size <= 1000) {j k : Nat} (hj : M p = some k) : DoOk s M (.comes p j) M := fun W fb L bm n h hM hn =>
  (do_there hM hp hj).mono fun e w' ⟨h1, h2⟩ => ⟨h1, (hM.kept (h2.block bm hM.lt)).mono (Nat.le_succ n), ⟨h2.os, h2.tape, h2.output, h2.size, fun k hk _ => h2.block k hk⟩⟩
theorem DoOk.comes {p : ByteArray} (hp : p.size <= 1000) {j : Nat} (hj : M p = none) (hjj : j <= 1000000) (hh : HomeOk s M p) : DoOk s M (.comes p j) (putF' M p j) := fun W fb L bm n h hM hn => do_comes h hM hn hp hj hjj hh
theorem DoOk.goes {p : ByteArray} (hp : p.size <= 1000) {j : Nat} (hj : M p = some j) (hk : NoKids M p) : DoOk s M (.goes p) (delF M p) := fun W fb L bm n h hM hn =>
  (do_goes hM hp hj hk).mono fun e w' ⟨h1, h2, h3⟩ => ⟨h1, h2.mono (Nat.le_succ n), h3⟩
def movF (M : Nm) (p q : ByteArray) (j : Nat) : Nm := putF' (if M p = some j then delF M p else M) q j
theorem DoOk.moves {p q : ByteArray} (hp : p.size <= 1000) (hq : q.size <= 1000) {j : Nat} (hjj : j <= 1000000) (hk : NoKids M q) (hh : HomeOk s M q) : DoOk s M (.moves p q j) (movF M p q j) := fun W fb L bm n h hM hn => by
  unfold movF
  cases hj : M p with
  | none =>
    rw [if_neg (by simp)]
    exact do_moves_no h hM hn hp hq hj hjj hk hh
  | some k =>
    by_cases e : k = j
    . subst e
      rw [if_pos rfl]
      exact do_moves_own h hM hn hp hq hj hjj hk hh
    . rw [if_neg (fun he => e (by injection he))]
      exact do_moves_other h hM hn hp hq hj (fun he => e (Int.ofNat.inj he)) hjj hk hh
set_option maxRecDepth 1000000 in
set_option maxHeartbeats 4000000 in
theorem name_calls (h : FsAt W fb L s) (hs : s.k <= 1000000) {k : Int} {p q : ByteArray} {j : Nat} {a : Ac} (ha : a.cells = [.int .i64 k, .string p, .string q, ni j]) {M' : Nm} (hdo : DoOk s s.now a M') (hac : s.acts.length <= 1000) :
    Calls Tryz.prog 35 #[pt fb, .agg #[.int .i64 k, .string p, .string q, ni j]] W fun e w' => (∃ v, e = .returned v) /\ FsTo W fb L { s with now := M', k := s.k + 1, acts := s.acts ++ [a] } w' := by
  obtain ⟨i0, hi0, hz0, hz1, hz2⟩ := info_parts info67
  have hav : a.val = .agg #[.int .i64 k, .string p, .string q, ni j] := by
    unfold Ac.val
    unfold Ac.cells at ha
    rw [<- Array.toArray_toList (xs := #[ni a.kind, Value.string a.path, Value.string a.to, ni a.node])]
    show Value.agg (List.toArray [ni a.kind, Value.string a.path, Value.string a.to, ni a.node]) = _
    rw [ha]
  have hB := below_alloc W (.cells #[.int .i64 k, .string p, .string q, ni j] 67)
  have hdo' : Hid (∀ w', Sb W w' -> Calls Tryz.prog 48 #[.map (some L.bn), .agg #[.int .i64 k, .string p, .string q, ni j], dirV fb] w' fun e w'' => (∃ v, e = .returned v) /\ MapTo w' L.bn (s.k + 1) M' w'') := Lib.hid fun w' hb => by
    have := hdo w' fb L L.bn s.k (h.below hb) (h.mn.kept (hb.block _ h.mn.lt)) hs
    rwa [hav] at this
  obtain ⟨Wb, hWb⟩ : ∃ Wb, Wb = W.alloc (.cells #[.int .i64 k, .string p, .string q, ni j] 67) := ⟨_, rfl⟩
  have hbox : Wb.heap[W.heap.size]? = some (.cells #[.int .i64 k, .string p, .string q, ni j] 67 (0, 0)) := hWb ▸ heap_alloc_new W _
  have hsz : Wb.heap.size = W.heap.size + 1 := by rw [hWb]; simp
  have hF := h.below hB
  rw [<- hWb] at hF hB
  have hbn : L.bn < W.heap.size := h.mn.lt
  have hrow : ∀ g, L.av.ownBlock = some g -> g < W.heap.size := fun g hg => (h.ra.lt g hg).2
  have hkeep1 : Hid (∀ w1 w', Sb Wb w1 -> w1.grownBy w' (some L.bn) -> w'.cell? ⟨fb, 0, none⟩ = some (.map (some L.bn)) /\ w'.cell? ⟨W.heap.size, 0, none⟩ = some (.int .i64 k) /\ w'.cell? ⟨W.heap.size, 1, none⟩ = some (.string p) /\ w'.cell? ⟨W.heap.size, 2, none⟩ = some (.string q) /\ w'.cell? ⟨W.heap.size, 3, none⟩ = some (.int .i64 (j : Int))) := Lib.hid fun w1 w' h1 h2 => by
    have e1 : w'.heap[W.heap.size]? = _ := (h2.block _ (Nat.lt_of_lt_of_le (by omega) h1.size) (fun e => by injection e with e; omega)).trans ((h1.block _ (by omega)).trans hbox)
    have e2 : w'.heap[fb]? = _ := (h2.block _ (Nat.lt_of_lt_of_le (hF.lt (.inl rfl)) h1.size) (fun e => hF.fbn (by injection e))).trans ((h1.block _ (hF.lt (.inl rfl))).trans hF.hp)
    refine ⟨?_, ?_, ?_, ?_, ?_⟩
    . rw [Lib.cell_of_heap e2]; rfl
    . rw [Lib.cell_of_heap e1]; rfl
    . rw [Lib.cell_of_heap e1]; rfl
    . rw [Lib.cell_of_heap e1]; rfl
    . rw [Lib.cell_of_heap e1]; rfl
  have hX := Lib.hid (And.intro hF (And.intro hB (And.intro hbox (And.intro hsz (And.intro hbn (And.intro hrow (And.intro hac ha)))))))
  have hH := Lib.hid h
  clear h hs hdo hB hF hbox hsz hbn hrow hac ha hav
  subst hWb
  go_enter Tryz.func35, Tryz.ntmps35
  go_wp2_with (fail)
  go_region_held3 (fun w' => w'.cell? ⟨fb, 0, none⟩ = some (.map (some L.bn)) /\ w'.cell? ⟨W.heap.size, 0, none⟩ = some (.int .i64 k) /\ w'.cell? ⟨W.heap.size, 1, none⟩ = some (.string p) /\ w'.cell? ⟨W.heap.size, 2, none⟩ = some (.string q) /\ w'.cell? ⟨W.heap.size, 3, none⟩ = some (.int .i64 (j : Int)))
    (first
      | exact hkeep1.out _ _ (Sb.drew (Sb.refl _)) (World.grownBy.refl _ _)
      | exact hkeep1.out _ _ (Sb.drew (Sb.refl _)) (by assumption))
    ((go_at_call 48; refine (hdo'.out _ (Sb.drew (Sb.alloc (Sb.refl _) _))).mono ?_; rintro r w1 ⟨⟨v1, rfl⟩, hM1, hg1⟩))
  rename_i hHeld
  obtain ⟨_, b0, b1, b2, b3⟩ := hHeld
  obtain ⟨hF, hB, hbox, hsz, hbn, hrow, hac, ha⟩ := hX.out
  have hgW : W.grownBy w1 (some L.bn) := ⟨hg1.os.trans hB.os, hg1.tape.trans hB.tape, hg1.output.trans hB.output, Nat.le_trans hB.size hg1.size, fun x hx hn => (hg1.block x (Nat.lt_of_lt_of_le hx hB.size) hn).trans (hB.block x hx)⟩
  have h3 := hH.out.setNow hM1 (Nat.le_succ _) fun x hx hn => hgW.block x hx fun e => hn (by injection e)
  have hbox3 : w1.heap[W.heap.size]? = some (.cells #[.int .i64 k, .string p, .string q, ni j] 67 (0, 0)) := (hg1.block _ (show W.heap.size < (W.alloc (.cells #[.int .i64 k, .string p, .string q, ni j] 67)).heap.size by omega) (fun e => by injection e with e; omega)).trans hbox
  have hkeep2 : Hid (∀ w2 w', Sb w1 w2 -> w2.grownBy w' L.av.ownBlock -> w'.cell? ⟨fb, 2, none⟩ = some L.av /\ w'.cell? ⟨W.heap.size, 0, none⟩ = some (.int .i64 k) /\ w'.cell? ⟨W.heap.size, 1, none⟩ = some (.string p) /\ w'.cell? ⟨W.heap.size, 2, none⟩ = some (.string q) /\ w'.cell? ⟨W.heap.size, 3, none⟩ = some (.int .i64 (j : Int)) /\ w'.frozen? ⟨fb, 2, none⟩ = false) := Lib.hid fun w2 w' h1 h2 => by
    have l1 : W.heap.size < w1.heap.size := (Array.getElem?_eq_some_iff.1 hbox3).1
    have l2 : fb < w1.heap.size := h3.lt (.inl rfl)
    have e1 : w'.heap[W.heap.size]? = _ := (h2.block _ (Nat.lt_of_lt_of_le l1 h1.size) (fun e => by have := hrow _ e.symm; omega)).trans ((h1.block _ l1).trans hbox3)
    have e2 : w'.heap[fb]? = _ := (h2.block _ (Nat.lt_of_lt_of_le l2 h1.size) (fun e => h3.fav e.symm)).trans ((h1.block _ l2).trans h3.hp)
    refine ⟨?_, ?_, ?_, ?_, ?_, Lib.frozen_of_heap e2 2⟩
    . rw [Lib.cell_of_heap e2]; rfl
    . rw [Lib.cell_of_heap e1]; rfl
    . rw [Lib.cell_of_heap e1]; rfl
    . rw [Lib.cell_of_heap e1]; rfl
    . rw [Lib.cell_of_heap e1]; rfl
  have c2 := (hkeep2.out w1 w1 (Sb.refl _) (World.grownBy.refl _ _)).1
  have c2' := (hkeep2.out (w1.alloc (.cells #[.int .i64 k, .string p, .string q, .int .i64 (j : Int)] 67)) _ (Sb.alloc (Sb.refl _) _) (World.grownBy.refl _ _)).1
  obtain ⟨_, q1, q2, q3, q4, q5⟩ := hkeep2.out w1 w1 (Sb.refl _) (World.grownBy.refl _ _)
  obtain ⟨_, r1, r2, r3, r4, r5⟩ := hkeep2.out (w1.alloc (.cells #[.int .i64 k, .string p, .string q, .int .i64 (j : Int)] 67)) _ (Sb.alloc (Sb.refl _) _) (World.grownBy.refl _ _)
  have hfW : ¬ fb = W.heap.size := fun e => absurd (hH.out.lt (.inl rfl)) (by omega)
  have hkeep3 : Hid (∀ (w' : World) (v : Value), (w'.cell? ⟨W.heap.size, 0, none⟩ = some (.int .i64 k) /\ w'.cell? ⟨W.heap.size, 1, none⟩ = some (.string p) /\ w'.cell? ⟨W.heap.size, 2, none⟩ = some (.string q) /\ w'.cell? ⟨W.heap.size, 3, none⟩ = some (.int .i64 (j : Int)) /\ w'.frozen? ⟨fb, 2, none⟩ = false) -> ((w'.setCell ⟨fb, 2, none⟩ v).cell? ⟨W.heap.size, 0, none⟩ = some (.int .i64 k) /\ (w'.setCell ⟨fb, 2, none⟩ v).cell? ⟨W.heap.size, 1, none⟩ = some (.string p) /\ (w'.setCell ⟨fb, 2, none⟩ v).cell? ⟨W.heap.size, 2, none⟩ = some (.string q) /\ (w'.setCell ⟨fb, 2, none⟩ v).cell? ⟨W.heap.size, 3, none⟩ = some (.int .i64 (j : Int)) /\ (w'.setCell ⟨fb, 2, none⟩ v).frozen? ⟨fb, 2, none⟩ = false)) := Lib.hid fun w' v hh => by
    have e := set_other (W := w') (b := fb) (o := 2) v (Ne.symm hfW)
    obtain ⟨h1, h2, h3, h4, h5⟩ := hh
    refine ⟨(World.cell?_of_block e).trans h1, (World.cell?_of_block e).trans h2, (World.cell?_of_block e).trans h3, (World.cell?_of_block e).trans h4, ?_⟩
    simpa using h5
  have hY := Lib.hid (And.intro h3 (And.intro hgW (And.intro hac ha)))
  clear hF hB hbox hsz hbn hrow hac ha hgW h3 hbox3 hM1 hg1 b0 b1 b2 b3
  go_wp2_with (fail)
  go_region_law (first
    | (with_reducible (show (if Region.wanted _ _ = true then Oper.wp _ (Oper.mk _ (Op.call { callee := Callee.builtin Builtin.append, args := _, argTypes := _ }) _ _ _ _) _ _ _ _ else _)); go_loud (refine step_append_lies _ (by rfl) (.tmp 16) (.tmp 18) 55 (by rfl) 0 67 i0 _ 4 48 Tryz.underlying55 hi0 hz0 hz1 hz2 rfl (by omega) L.av s.acts.length (s.acts.flatMap Ac.cells) rfl (row_kept hY.out.1.ra fun g hg => Sb.blk (show Sb w1 _ from by repeat (first | exact Sb.refl _ | apply Sb.drew | apply Sb.alloc)) g (hY.out.1.ra.lt g hg).2) ⟨w1.heap.size, 0, none⟩ 1 1 [.int .i64 k, .string p, .string q, .int .i64 (j : Int)] rfl rfl (World.news_of_block (cs := #[.int .i64 k, .string p, .string q, .int .i64 (j : Int)]) (t := 67) (fr := (0, 0)) (by first | exact heap_alloc_new w1 _ | (rw [heap_drew]; exact heap_alloc_new w1 _))) (by simp [Value.oneCell']) (by omega) (by unfold maxLen; have := hY.out.2.2.1; omega) (by have := hY.out.2.2.1; omega) (Nat.zero_le _) (w1.heap.size + 1) (by simp) ?_); intro gg cap w5 hown5 hgrow hat hlt; obtain ⟨c5, s1, s2, s3, s4, s5⟩ := hkeep2.out _ _ (Sb.drew (Sb.alloc (Sb.refl _) _)) hgrow)
    | (go_simp; go_wp2))
  all_goals
    have hY' := hY.out
    obtain ⟨h3, hgW, hac, ha⟩ := hY'
    have hg3 : w1.grownBy w5 L.av.ownBlock := ⟨hgrow.os, hgrow.tape, hgrow.output, Nat.le_trans (by simp) hgrow.size, fun x hx hn => (hgrow.block x (by simp; omega) hn).trans (hao hx)⟩
    have hF := h3.setAv (acts := s.acts ++ [a]) hg3 (v := .slice (some ⟨gg, 0, none⟩) (s.acts.length + 1) cap) (by
      rw [List.length_append, List.flatMap_append, List.length_singleton, List.flatMap_cons, List.flatMap_nil, List.append_nil, ha]
      exact hown5)
    clear hkeep1 hkeep2 hkeep3
    go_end0
    refine ⟨⟨_, rfl⟩, _, hF, ?_⟩
    refine ((Stp.grown (P := L.own fb) (P' := L.own fb) hgW (fun x hx => .inr (.inl (by injection hx with hx; exact hx.symm))) fun x hx => .inl hx).trans (Stp.grown (P := L.own fb) (P' := Lay.own { L with av := .slice (some ⟨gg, 0, none⟩) (s.acts.length + 1) cap } fb) hg3 (fun x hx => .inr (.inr (.inr (.inl hx)))) fun x hx => ?_)).trans (Stp.set (.inl rfl) _)
    rcases hx with hx | hx | hx | hx | hx
    . exact .inl (.inl hx)
    . exact .inl (.inr (.inl hx))
    . exact .inl (.inr (.inr (.inl hx)))
    . obtain rfl : gg = x := by injection hx
      rcases hat with hat | rfl
      . exact .inl (.inr (.inr (.inr (.inl hat))))
      . exact .inr (by omega)
    . exact .inl (.inr (.inr (.inr (.inr hx))))
end
end Go.Proofs
namespace Go.Proofs
open Go.RowKit Go.Ev Go.Lib Go.Shelf
attribute [local go_sem] Oper.semAt_some
def FolIs (s : St) (M : Nm) (u : ByteArray) : Prop := u.size <= 1000 /\ ((u = ⟨#[]⟩ /\ M u = none) \/ (¬ u = ⟨#[]⟩ /\ ∃ j d, M u = some j /\ s.nodes[j]? = some d /\ d.dir = true))
section
variable {W : World} {fb : Nat} {L : Lay} {s : St} {M : Nm}
theorem fol_ok (h : FsAt W fb L s) {u : ByteArray} (hu : FolIs s s.now u) : Calls Tryz.prog 31 #[pt fb, .string u] W fun e w' => e = .returned (.bool true) /\ w' = W := by
  obtain ⟨hs, ⟨rfl, hn⟩ | ⟨hne, j, d, hj, hd, hdd⟩⟩ := hu
  . exact fol_root h hn
  . have := fol_yes h hs hne hj hd
    rwa [hdd] at this
theorem HomeOk.of {p u : ByteArray} (hu : UpIs p u) (h : FolIs s M u) : HomeOk s M p := by
  obtain ⟨hs, ⟨rfl, _⟩ | h⟩ := h
  . exact ⟨_, hu, hs, .inl rfl⟩
  . exact ⟨_, hu, hs, .inr h⟩
theorem FolIs.mono {s' : St} {u : ByteArray} (h : FolIs s M u) (hn : ∀ (j : Nat) (d : Nd), s.nodes[j]? = some d -> s'.nodes[j]? = some d) : FolIs s' M u := by
  obtain ⟨hs, h | ⟨hne, j, d, hj, hd, hdd⟩⟩ := h
  . exact ⟨hs, .inl h⟩
  . exact ⟨hs, .inr ⟨hne, j, d, hj, hn _ _ hd, hdd⟩⟩
set_option maxRecDepth 1000000 in
set_option maxHeartbeats 2000000 in
theorem mkdir_there (h : FsAt W fb L s) (hoff : s.off = false) {p u : ByteArray} (hp : PathOk p) (hps : p.size <= 1000) (hu : UpIs p u) (hf : FolIs s s.now u) {n : Nat} (hn : s.now p = some n) :
    Calls Tryz.prog 82 #[pt fb, .string p] W fun e w' => e = .returned (.int .i64 32) /\ Below W.heap.size W w' := by
  have hX := Lib.hid (And.intro (may_one h hoff hp) (And.intro h (And.intro hu (And.intro hf (And.intro hps hn)))))
  clear h hoff hp hps hu hf hn
  go_enter Tryz.func82, Tryz.ntmps82
  go_wp2_with (first
    | (go_at_call 30; refine hX.out.1.mono ?_; rintro r w1 ⟨rfl, hb⟩; have hS1 := Lib.hid hb; clear hb)
    | (go_at_call 32; refine (hX.out.2.2.1 _).mono ?_; rintro r w2 ⟨rfl, hb⟩; have hS2 := Lib.hid (Sb.trans hS1.out hb); clear hb; have c0 := (hX.out.2.1.below hS2.out).c0)
    | (go_at_call 31; refine (fol_ok (hX.out.2.1.below hS2.out) hX.out.2.2.2.1).mono ?_; rintro r w3 ⟨rfl, hw⟩; rw [hw]; clear hw)
    | (refine mapF_lookup (hX.out.2.1.below hS2.out).mn rfl _ _ rfl rfl _ hX.out.2.2.2.2.1 rfl ?_; intro c hc; clear hc; rw [hX.out.2.2.2.2.2]))
  go_ret
  exact ⟨rfl, hS2.out⟩
theorem stp_nv {w1 w2 : World} {v : Value} {o : Nat} (hg : w1.grownBy w2 L.nv.ownBlock) (hv : ∀ x, v.ownBlock = some x -> L.nv.ownBlock = some x \/ w1.heap.size <= x) : Stp w1 (L.own fb) (w2.setCell ⟨fb, o, none⟩ v) (Lay.own { L with nv := v } fb) := by
  refine (Stp.grown (P := L.own fb) (P' := Lay.own { L with nv := v } fb) hg (fun x hx => .inr (.inr (.inr (.inr hx)))) fun x hx => ?_).trans (Stp.set (.inl rfl) _)
  rcases hx with hx | hx | hx | hx | hx
  . exact .inl (.inl hx)
  . exact .inl (.inr (.inl hx))
  . exact .inl (.inr (.inr (.inl hx)))
  . exact .inl (.inr (.inr (.inr (.inl hx))))
  . exact (hv x hx).imp (fun h => .inr (.inr (.inr (.inr h)))) id
theorem grown_one {w4 w5 : World} {o : Obj} {row : Option Nat} (h : (w4.alloc o).grownBy w5 row) : w4.grownBy w5 row :=
  ⟨h.os, h.tape, h.output, Nat.le_trans (by simp) h.size, fun x hx hn => (h.block x (by simp; omega) hn).trans (hao hx)⟩
theorem hat_own {row : Option Nat} {gg n a c : Nat} (h : row = some gg \/ gg = n + 1) : ∀ x, (Value.slice (some ⟨gg, 0, none⟩) a c).ownBlock = some x -> row = some x \/ n <= x := fun x hx => by
  obtain rfl : gg = x := by injection hx
  exact h.imp id fun e => by omega
theorem nv_cells {w4 w5 : World} {L1 : Lay} (h4 : FsAt w4 fb L1 s) (hg : w4.grownBy w5 L1.nv.ownBlock) : w5.cell? ⟨fb, 3, none⟩ = some L1.nv /\ w5.frozen? ⟨fb, 3, none⟩ = false := by
  have e : w5.heap[fb]? = _ := (hg.block fb (h4.lt (.inl rfl)) (Ne.symm h4.fnv)).trans h4.hp
  exact ⟨by rw [Lib.cell_of_heap e]; rfl, Lib.frozen_of_heap e 3⟩
theorem setNv_one {w4 w5 : World} {L1 : Lay} {d : Nd} {gg cap : Nat} {cs : List Value} (h4 : FsAt w4 fb L1 s) (hg : w4.grownBy w5 L1.nv.ownBlock) (hr : w5.ownsRow 0 62 3 (.slice (some ⟨gg, 0, none⟩) (s.nodes.length + 1) cap) (s.nodes.length + 1) (s.nodes.flatMap Nd.cells ++ cs)) (hd : d.cells = cs) :
    FsAt (w5.setCell ⟨fb, 3, none⟩ (.slice (some ⟨gg, 0, none⟩) (s.nodes.length + 1) cap)) fb { L1 with nv := .slice (some ⟨gg, 0, none⟩) (s.nodes.length + 1) cap } { s with nodes := s.nodes ++ [d] } := by
  refine h4.setNv (nodes := s.nodes ++ [d]) hg (v := .slice (some ⟨gg, 0, none⟩) (s.nodes.length + 1) cap) ?_
  rw [List.length_append, List.flatMap_append, List.length_singleton, List.flatMap_cons, List.flatMap_nil, List.append_nil, hd]
  exact hr
def newS (s : St) (p : ByteArray) (d : Nd) : St := { s with nodes := s.nodes ++ [d], now := putF' s.now p s.nodes.length, k := s.k + 1, acts := s.acts ++ [.comes p s.nodes.length] }
theorem node_more {d : Nd} {d' : Nd} {j : Nat} (h : s.nodes[j]? = some d) : (s.nodes ++ [d'])[j]? = some d := by
  rw [List.getElem?_append_left (List.getElem?_eq_some_iff.1 h).1]; exact h
set_option maxRecDepth 1000000 in
set_option maxHeartbeats 1000000 in
theorem mkdir_new (h : FsAt W fb L s) (hoff : s.off = false) {p u : ByteArray} (hp : PathOk p) (hps : p.size <= 1000) (hu : UpIs p u) (hf : FolIs s s.now u) (hn : s.now p = none) (hk : s.k <= 1000) (ha : s.acts.length <= 1000) (hl : s.nodes.length <= 1000) :
    Calls Tryz.prog 82 #[pt fb, .string p] W fun e w' => e = .returned (.int .i64 0) /\ FsTo W fb L (newS s p ⟨true, ⟨#[]⟩, ⟨#[]⟩⟩) w' := by
  obtain ⟨i0, hi0, hz0, hz1, hz2⟩ := info_parts info62
  have hX := Lib.hid (And.intro (may_one h hoff hp) (And.intro h (And.intro hu (And.intro hf (And.intro hps hn)))))
  have hD : Hid (DoOk { s with nodes := s.nodes ++ [⟨true, ⟨#[]⟩, ⟨#[]⟩⟩] } s.now (.comes p s.nodes.length) (putF' s.now p s.nodes.length)) := Lib.hid (DoOk.comes hps hn (by omega) (HomeOk.of hu (hf.mono fun j d hd => node_more hd)))
  have hB := Lib.hid (And.intro hk (And.intro ha hl))
  clear h hoff hp hps hu hf hn hk ha
  go_enter Tryz.func82, Tryz.ntmps82
  go_wp2_with (first
    | (go_at_call 30; refine hX.out.1.mono ?_; rintro r w1 ⟨rfl, hb⟩; have hS1 := Lib.hid hb; clear hb)
    | (go_at_call 32; refine (hX.out.2.2.1 _).mono ?_; rintro r w2 ⟨rfl, hb⟩; have hS2 := Lib.hid (Sb.trans hS1.out hb); clear hb; have c0 := (hX.out.2.1.below hS2.out).c0)
    | (go_at_call 31; refine (fol_ok (hX.out.2.1.below hS2.out) hX.out.2.2.2.1).mono ?_; rintro r w3 ⟨rfl, hw⟩; rw [hw]; clear hw)
    | (refine mapF_lookup (hX.out.2.1.below hS2.out).mn rfl _ _ rfl rfl _ hX.out.2.2.2.2.1 rfl ?_; intro c hc; clear hc; rw [hX.out.2.2.2.2.2])
    | (go_at_call 34; refine (step_calls (hX.out.2.1.below hS2.out)).mono ?_; rintro r w4 ⟨rfl, L1, h4, hs4⟩; have c3 := h4.c3; have hS4 := Lib.hid ((Stp.below (L.own fb) hS2.out).trans hs4); have h4H := Lib.hid h4; clear h4 hs4)
    | (at_builtin; go_loud (refine wpList_append_lies _ rfl _ _ _ rfl 0 62 i0 _ 3 40 Tryz.underlying56 hi0 hz0 hz1 hz2 rfl (by omega) L1.nv s.nodes.length (s.nodes.flatMap Nd.cells) rfl (h4H.out.below (below_alloc _ _)).rn ⟨w4.heap.size, 0, none⟩ 1 1 [.bool true, .string ⟨#[]⟩, .string ⟨#[]⟩] rfl rfl (World.news_of_block (cs := #[.bool true, .string ⟨#[]⟩, .string ⟨#[]⟩]) (t := 62) (fr := (0, 0)) (heap_alloc_new w4 _)) (by simp [Value.oneCell']) (by omega) (by unfold maxLen; have := hB.out.2.2; omega) (by have := hB.out.2.2; omega) (Nat.zero_le _) (w4.heap.size + 1) (by simp) ?_; intro gg cap w5 hown5 hgrow hat hlt; have hg3 := grown_one hgrow; obtain ⟨c3, f3⟩ := nv_cells h4H.out hg3; have h6 := setNv_one (d := ⟨true, ⟨#[]⟩, ⟨#[]⟩⟩) h4H.out hg3 hown5 rfl; have hs6 := Lib.hid (hS4.out.trans (stp_nv (fb := fb) (o := 3) hg3 (v := .slice (some ⟨gg, 0, none⟩) (s.nodes.length + 1) cap) (hat_own hat))); have c3' := h6.c3; have h6H := Lib.hid h6; clear hown5 hgrow hat hlt hg3 h6))
    | (go_at_call 35; go_loud (refine (name_calls h6H.out (by have := hB.out.1; show s.k <= 1000000; omega) (a := .comes p s.nodes.length) rfl hD.out hB.out.2.1).mono ?_; rintro r w7 ⟨⟨v7, rfl⟩, L7, h7, hs7⟩; have h7H := Lib.hid h7; have hs7H := Lib.hid (hs6.out.trans hs7); clear h7 hs7)))
  go_ret
  exact ⟨rfl, _, h7H.out, hs7H.out⟩
end
end Go.Proofs
namespace Go.Proofs
open Go.RowKit Go.Ev Go.Lib Go.Shelf
attribute [local go_sem] Oper.semAt_some
theorem flat_set {α : Type} (f : α -> List Value) {m : Nat} (hf : ∀ a, (f a).length = m) (a' : α) (x : Value) : ∀ (l : List α) (n i : Nat) (a : α) (_hn : l[n]? = some a), i < m -> f a' = (f a).set i x -> (l.flatMap f).set (n * m + i) x = (l.set n a').flatMap f
  | [], _, _, _, h, _, _ => by cases h
  | b :: l, 0, i, a, h, hi, he => by
    obtain rfl : b = a := by simpa using h
    rw [Nat.zero_mul, Nat.zero_add, List.flatMap_cons, List.set_append_left _ _ (by rw [hf]; exact hi), <- he]
    rfl
  | b :: l, n + 1, i, a, h, hi, he => by
    have ih := flat_set f hf a' x l n i a (by simpa using h) hi he
    rw [List.flatMap_cons, List.set_append_right _ _ (by rw [hf, Nat.succ_mul]; omega), hf, show (n + 1) * m + i - m = n * m + i by rw [Nat.succ_mul]; omega, ih]
    rfl
section
variable {W : World} {fb : Nat} {L : Lay} {s : St}
theorem FsAt.setNode (h : FsAt W fb L s) {n : Nat} {d d' : Nd} (hd : s.nodes[n]? = some d) {g m cap : Nat} (hv : L.nv = .slice (some ⟨g, 0, none⟩) m cap) {i : Nat} (hi : i < 3) (x : Value) (hc : d'.cells = d.cells.set i x) :
    FsAt (W.setCell ⟨g, n * 3 + i, none⟩ x) fb L { s with nodes := s.nodes.set n d' } /\ Stp W (L.own fb) (W.setCell ⟨g, n * 3 + i, none⟩ x) (L.own fb) := by
  have hg : L.nv.ownBlock = some g := by rw [hv]; rfl
  have hr := h.rn
  have hlt := (List.getElem?_eq_some_iff.1 hd).1
  obtain ⟨c, hv2⟩ : ∃ c, L.nv = .slice (some ⟨g, 0, none⟩) s.nodes.length c := by
    rcases hr.2 with ⟨_, h0⟩ | ⟨g', cap', _, hv', _⟩
    . omega
    . rw [hv] at hv'
      injection hv' with h1 h2 h3
      injection h1 with h1
      injection h1 with h1
      subst h1
      exact ⟨cap, by rw [hv, h2]⟩
  rw [hv2] at hr
  obtain ⟨hs, _⟩ := hr.stored (n * 3 + i) x
  rw [flat_set Nd.cells (fun _ => rfl) d' x s.nodes n i d hd hi hc] at hs
  have e : ∀ k, k ≠ g -> (W.setCell ⟨g, n * 3 + i, none⟩ x).heap[k]? = W.heap[k]? := fun k hk => set_other x hk
  refine ⟨⟨(e fb fun e' => h.fnv (by rw [hg, e'])).trans h.hp, h.mn.kept (e _ fun e' => h.nbn (by rw [hg, e'])), h.ms.kept (e _ fun e' => h.nbs (by rw [hg, e'])), row_kept h.ra fun k hk => e k fun e' => h.anv hk (by rw [hg, e']), ?_, h.ne⟩, Stp.set (.inr (.inr (.inr (.inr hg)))) x⟩
  show (W.setCell ⟨g, n * 3 + i, none⟩ x).ownsRow 0 62 3 L.nv (s.nodes.set n d').length ((s.nodes.set n d').flatMap Nd.cells)
  rw [List.length_set, hv2]
  exact hs
theorem used_fs (h : FsAt W fb L s) (hpos : 0 < s.nodes.length) (hnod : ∀ p j, s.now p = some j -> j < s.nodes.length) (hsz : ∀ d ∈ s.nodes, d.now.size <= 2000) (hk : s.k <= 500) :
    ∃ u : Nat, u <= 1000000 /\ ∀ w, Sb W w -> Calls Tryz.prog 33 #[pt fb] w fun e w' => e = .returned (.int .i64 (u : Int)) /\ Below w.heap.size w w' := by
  obtain ⟨es, clock, hb, hst, hes, hval, _⟩ := h.mn.raw
  obtain ⟨nb, cap, hv⟩ : ∃ nb cap, L.nv = .slice (some ⟨nb, 0, none⟩) s.nodes.length cap := by
    rcases h.rn.2 with ⟨_, h0⟩ | ⟨g, cap, _, hv, _⟩
    . omega
    . exact ⟨g, cap, hv⟩
  have hgs : ∀ k : Nat, ((s.nodes[k]?.map Nd.now).getD ⟨#[]⟩).size <= 2000 := by
    intro k
    cases hk : s.nodes[k]? with
    | none => exact Nat.zero_le _
    | some d => exact hsz d (List.mem_of_getElem? hk)
  have hsum : ∀ l : List MapEntry, (∀ x ∈ l, ∃ j : Nat, x.val = .int .i64 (j : Int)) -> ∃ u : Nat, ((lens (fun k => (s.nodes[k]?.map Nd.now).getD ⟨#[]⟩) l).map fun e => valOf e.val).sum = (u : Int) /\ u <= 2000 * l.length := by
    intro l
    induction l with
    | nil => intro _; exact ⟨0, rfl, by simp⟩
    | cons x l ih =>
      intro hx
      obtain ⟨u, hu, hle⟩ := ih fun y hy => hx y (List.mem_cons_of_mem _ hy)
      obtain ⟨j, hj⟩ := hx x (List.mem_cons_self ..)
      refine ⟨((s.nodes[j]?.map Nd.now).getD ⟨#[]⟩).size + u, ?_, ?_⟩
      . show valOf (Value.int .i64 (lenOfNode _ x.val)) + ((lens (fun k => (s.nodes[k]?.map Nd.now).getD ⟨#[]⟩) l).map fun e => valOf e.val).sum = _
        rw [hu, hj]
        show ((((s.nodes[(j : Int).toNat]?.map Nd.now).getD ⟨#[]⟩).size : Nat) : Int) + (u : Int) = _
        rw [Int.toNat_natCast]
        push_cast
        rfl
      . have := hgs j
        rw [List.length_cons]
        omega
  obtain ⟨u, hu, hle⟩ := hsum es.toList fun x hx => by
    obtain ⟨_, j, _, h2, _⟩ := hval x hx
    exact ⟨j, h2⟩
  have hul : u <= 1000000 := by
    have : es.toList.length <= 500 := by rw [Array.length_toList]; omega
    omega
  refine ⟨u, hul, fun w hw => ?_⟩
  have h' := h.below hw
  have hb' := (hw.block _ h.mn.lt).trans hb
  have c3 := h'.c3
  rw [hv] at c3
  refine (used_walk L.bn es clock fb 0 nb 0 s.nodes.length cap (fun k => (s.nodes[k]?.map Nd.now).getD ⟨#[]⟩) w hb' hst h'.c0 c3 (fun x hx => ?_) (fun k ⟨x, hx, hxv⟩ => ?_)).mono ?_
  . obtain ⟨p, j, _, h2, h3⟩ := hval x hx
    exact ⟨j, hnod p j h3, h2⟩
  . obtain ⟨p, j, _, h2, h3⟩ := hval x hx
    have hjk : j = k := by
      rw [hxv] at h2
      injection h2 with _ h2
      exact (Int.ofNat.inj h2).symm
    subst hjk
    have hj := hnod p j h3
    obtain ⟨g', m', cap', hv', _, _, d1, _⟩ := h'.node (List.getElem?_eq_getElem hj)
    rw [hv] at hv'
    injection hv' with h1 _ _
    injection h1 with h1
    injection h1 with h1
    subst h1
    rw [Nat.zero_add, d1, List.getElem?_eq_getElem hj]
    rfl
  . rintro e w' ⟨rfl, w1, seen, ⟨hal, htp⟩, rfl⟩
    have hB : Below w.heap.size w w1 := ⟨hal.2.1, htp, hal.2.2, by rw [hal.1]; exact Nat.le_refl _, fun k _ => by rw [hal.1]⟩
    exact ⟨by rw [hu, wr64_small (by omega)], hB.alloc (by rw [hal.1]; exact Nat.le_refl _) _⟩
end
end Go.Proofs
