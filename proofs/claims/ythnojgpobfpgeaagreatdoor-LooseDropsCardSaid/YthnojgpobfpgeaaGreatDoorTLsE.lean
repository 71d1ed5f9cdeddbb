/- loose.List. -/
import Derived.Test.YthnojgpobfpgeaaGreatDoorTLsC
set_option linter.unusedVariables false
set_option linter.unusedSimpArgs false
namespace Go.Proofs
open Go.RowKit Go.Ev Go.Lib Go.Shelf
attribute [local go_sem] Oper.semAt_some
abbrev bt1 (x : List UInt8) : ByteArray := ⟨⟨x⟩⟩
def LiAt (W W1 : World) (od : Option Addr) (o : List (List UInt8)) (vo : Value) (wr : World) : Prop := Sb W wr /\ W1.heap.size <= wr.heap.size /\ (∀ a, od = some a -> wr.heap[a.block]? = W1.heap[a.block]?) /\ StrRow wr W1.heap.size vo (o.map bt1)
def InRow (w3 : World) (ol : Option Addr) (vo : Value) (wr : World) : Prop := ∀ a, ol = some a -> wr.heap[a.block]? = w3.heap[a.block]? /\ vo.ownBlock ≠ some a.block /\ a.block < wr.heap.size
section
variable {W W1 wr w' w1 w3 : World} {od ol : Option Addr} {o : List (List UInt8)} {vo v' : Value}
theorem LiAt.on (h : LiAt W W1 od o vo wr) (hod : ∀ a, od = some a -> a.block < W1.heap.size) (hs : Sb wr w') : LiAt W W1 od o vo w' := by
  obtain ⟨h1, h2, h3, h4⟩ := h
  exact ⟨Sb.trans h1 hs, Nat.le_trans h2 hs.siz, fun a ha => (Sb.blk hs _ (Nat.lt_of_lt_of_le (hod a ha) h2)).trans (h3 a ha), h4.kept fun g hg => Sb.blk hs g (World.ownsRow.lt h4 g hg).2⟩
theorem LiAt.add (h : LiAt W W1 od o vo wr) (hod : ∀ a, od = some a -> a.block < W1.heap.size) (hs : Sb wr w1) (hWB : W.heap.size <= W1.heap.size) (hg : w1.grownBy w' vo.ownBlock) {x : List UInt8} (hrow : w'.ownsRow W1.heap.size 9 1 v' ((o.map bt1).length + 1) (strs (o.map bt1) ++ [.string (bt1 x)])) : LiAt W W1 od (o ++ [x]) v' w' := by
  obtain ⟨h1, h2, h3, h4⟩ := h.on hod hs
  have hl := World.ownsRow.lt h4
  refine ⟨Below.grown h1 hg (Nat.le_trans hWB h2) (fun x hx => Nat.le_trans hWB (hl x hx).1), Nat.le_trans h2 hg.size, fun a ha => (hg.block _ (Nat.lt_of_lt_of_le (hod a ha) h2) fun e => ?_).trans (h3 a ha), ?_⟩
  . have := (hl _ e.symm).1
    have := hod a ha
    omega
  . unfold StrRow
    rw [List.map_append, List.length_append]
    unfold strs at hrow ⊢
    rw [List.map_append]
    exact hrow
theorem StrRow.len_le {base : Nat} {l : List ByteArray} (h : StrRow wr base vo l) : l.length <= 9223372036854775807 := by
  rcases h.2 with ⟨_, h0⟩ | ⟨g, cap, cur, hv, hb, hg, h1, h2, _⟩
  . omega
  . unfold maxLen at h2
    omega
theorem hex_split2 (id : List UInt8) : hexL id = h0L id ++ h1L id := by
  unfold h0L h1L
  rw [<- hexL_append, List.take_append_drop]
theorem nodup_len {α : Type} [BEq α] [LawfulBEq α] : ∀ {l A : List α}, l.Nodup -> (∀ x ∈ l, x ∈ A) -> l.length <= A.length
  | [], _, _, _ => Nat.zero_le _
  | x :: l, A, hn, h => by
    obtain ⟨h1, h2⟩ := List.nodup_cons.1 hn
    have hx := h x (List.mem_cons_self ..)
    have := nodup_len (A := A.erase x) h2 fun y hy => (List.mem_erase_of_ne (fun e : y = x => h1 (e ▸ hy))).2 (h y (List.mem_cons_of_mem _ hy))
    rw [List.length_erase_of_mem hx] at this
    have hp : 0 < A.length := List.length_pos_of_mem hx
    rw [List.length_cons]
    omega
theorem take_next {α : Type} {l : List α} {k : Nat} (hk : k < l.length) : l.take (k + 1) = l.take k ++ [l[k]] := List.take_succ_eq_append_getElem hk
theorem InRow.on (h : InRow w3 ol vo wr) (hs : Sb wr w') : InRow w3 ol vo w' := fun a ha => by
  obtain ⟨h1, h2, h3⟩ := h a ha
  exact ⟨(Sb.blk hs _ h3).trans h1, h2, Nat.lt_of_lt_of_le h3 hs.siz⟩
theorem InRow.add (h : InRow w3 ol vo wr) (hs : Sb wr w1) (hg : w1.grownBy w' vo.ownBlock) (hv : ∀ x, v'.ownBlock = some x -> vo.ownBlock = some x \/ w1.heap.size <= x) : InRow w3 ol v' w' := fun a ha => by
  obtain ⟨h1, h2, h3⟩ := h.on hs a ha
  refine ⟨(hg.block _ h3 (Ne.symm h2)).trans h1, fun e => ?_, Nat.lt_of_lt_of_le h3 hg.size⟩
  rcases hv _ e with e | e
  . exact h2 e
  . omega
end
section
variable {W : World} {fb : Nat} {L : Lay} {s : St} {Fs A : List (List UInt8)} {i : Bool}
set_option maxRecDepth 1000000 in
set_option maxHeartbeats 4000000 in
theorem loose_list (h : FsAt W fb L s) (hg : Good s.now s.nodes Fs A i) (hoff : s.off = false) (hk : s.k <= 1000) (hA : A.length <= 1000) :
    Calls Tryz.prog 19 #[pt fb] W fun e w' => ∃ v ids, e = .returned v /\ List.Nodup ids /\ (∀ x : List UInt8, x ∈ ids ↔ x ∈ A) /\ StrRow w' W.heap.size v (ids.map bt1) /\ Below W.heap.size W w' := by
  obtain ⟨i0, hi0, hz0, hz1, hz2⟩ := info_parts info9p
  have hho := Lib.hid (list_home h hg hoff hk)
  have hlj : Hid (∀ js, JsOk s.now s.nodes Fs js -> ∀ j ∈ js, ∀ w, Sb W w -> Calls Tryz.prog 51 #[pt fb, .string (pth j)] w fun e w' => ∃ v is ec, e = .returned (.tuple #[v, .int .i64 ec]) /\ IsOk A j is /\ StrRow w' w.heap.size v (is.map fun x => (⟨⟨h1L x⟩⟩ : ByteArray)) /\ Below w.heap.size w w') := Lib.hid fun js hjs j hj w hb => list_j (h.below hb) hg hoff hk hjs hj
  have hlF := Lib.hid hg.len
  have hlA := Lib.hid (fun x hx => hg.lenA (id := x) hx)
  have hkL := Lib.hid (h.mn.lt)
  have hlen : Hid (∀ js, JsOk s.now s.nodes Fs js -> js.length <= 100000000 \/ True) := Lib.hid fun _ _ => .inr trivial
  have hcov := Lib.hid (fun x hx => hg.sub x hx)
  have hAl := Lib.hid hA
  clear h hg hoff hA
  go_enter Tryz.func19, Tryz.ntmps19
  go_wp2_with (go_at_call 51; refine hho.out.mono ?_; rintro r1 w1 ⟨v, js, rfl, hjs, hrow, hb⟩; obtain ⟨od, cd, rfl⟩ := StrRow.form hrow; have hjsH := Lib.hid hjs; have hrowH := Lib.hid hrow; have hS1 : Hid (Sb W w1) := Lib.hid hb; clear hjs hrow hb)
  have hjl : Hid (js.length <= 9223372036854775807) := Lib.hid (by have := hrowH.out.len_le; rwa [List.length_map] at this)
  go_loopw [21, 3, 7, 8, 9, 11, 12, 13] (fun vi vo _ _ _ _ _ _ wr => ∃ (k : Nat) (o : List (List UInt8)), k <= js.length /\ vi = .int .i64 (k : Int) /\ LiAt W w1 od o vo wr /\ o.Nodup /\ ∀ x, x ∈ o ↔ x ∈ A /\ ∃ a, some a ∈ js.take k /\ FB a = FB x) (fun vi _ _ _ _ _ _ _ _ => js.length - (RowKit.intOf vi).toNat)
  case atStart => exact ⟨0, [], Nat.zero_le _, rfl, ⟨hS1.out, Nat.le_refl _, fun _ _ => rfl, World.ownsRow_nil _ _ _ _⟩, List.nodup_nil, fun x => ⟨fun hx => (by cases hx), fun ⟨_, a, ha, _⟩ => by cases ha⟩⟩
  case round =>
    obtain ⟨k, o, hk1, rfl, hli, hnd, hmem⟩ := hrel
    by_cases hlt : k < js.length
    . have hlt' : (k : Int) < (js.length : Int) := by omega
      have hkm : k + 1 <= 9223372036854775807 := Nat.le_trans hlt hjl.out
      obtain ⟨j, hje⟩ : ∃ j, j = js[k] := ⟨_, rfl⟩
      have hjm : j ∈ js := by rw [hje]; exact List.getElem_mem hlt
      have hj32 : ∀ a, j = some a -> a.length = 32 := fun a ha => hlF.out a (hjsH.out.2.1 a (ha ▸ hjm))
      obtain ⟨gk, rfl, hgb, hgl, hcell⟩ := StrRow.at hrowH.out (k := k) (by rw [List.length_map]; exact hlt)
      rw [List.getElem_map, <- hje] at hcell
      have hck := (World.cell?_of_block (a := ⟨gk, k, none⟩) (hli.2.2.1 ⟨gk, 0, none⟩ rfl)).trans hcell
      have hod : Hid (∀ a, some (⟨gk, 0, none⟩ : Addr) = some a -> a.block < w1.heap.size) := Lib.hid (fun a ha => by injection ha with ha; rw [<- ha]; exact hgl)
      have hWB : Hid (W.heap.size <= w1.heap.size) := Lib.hid hS1.out.siz
      have htr := Lib.hid (trim_j j hj32)
      have hcat := cat_tnm j
      have htz := tnm_size j hj32
      have hls := Lib.hid (hlj.out js hjsH.out j hjm)
      have hh0 : Hid (∀ a, j = some a -> tnm j = ⟨⟨h0L a⟩⟩) := Lib.hid (fun a ha => by rw [ha]; rfl)
      have htk : Hid (js.take (k + 1) = js.take k ++ [j]) := Lib.hid (by rw [take_next hlt, <- hje])
      have hnew : Hid (∀ a b, some a ∈ js.take k -> j = some b -> FB a ≠ FB b) := Lib.hid (fun a b ha hb e => by
        have hnd2 := hjsH.out.1
        have hsp : js.take (k + 1) = js.take k ++ [j] := by rw [take_next hlt, <- hje]
        have h3 : ((js.take (k + 1)).map dnm).Nodup := List.Sublist.nodup ((List.take_sublist _ _).map _) hnd2
        rw [hsp, List.map_append, List.nodup_append] at h3
        refine h3.2.2 (dnm (some a)) (List.mem_map.2 ⟨_, ha, rfl⟩) (dnm j) (by simp) ?_
        rw [hb]
        have : h0L a = h0L b := FB_inj e
        show (⟨⟨h0L a ++ [47]⟩⟩ : ByteArray) = ⟨⟨h0L b ++ [47]⟩⟩
        rw [this])
      have hliH := Lib.hid (And.intro hli (And.intro hnd hmem))
      generalize hDe : dnm j = D at htr hck
      generalize hTe : tnm j = T at htr hcat htz hh0
      generalize hPe : pth j = P at hls hcat
      have hq1 : 8 + T.size <= 9223372036854775807 := by omega
      have hq2 : (9223372036854775807 < 8 + T.size) = False := eq_false (by omega)
      have hq3 : HB.size + T.size <= 9223372036854775807 := by show 8 + T.size <= _; omega
      clear hli hnd hmem hje hjm hj32 hcell hgb hgl hDe hTe hPe
      go_wp2_with (first
        | (go_at_call 52; refine (htr.out _).mono ?_; rintro r1 w2 ⟨rfl, hb⟩; have hS2 : Hid (Sb wr w2) := Lib.hid hb; clear hb)
        | (go_at_call 51; refine (hls.out _ (Sb.trans hliH.out.1.1 hS2.out)).mono ?_; rintro r1 w3 ⟨v3, is, ec, rfl, his, hrow3, hb⟩; obtain ⟨ol, cl, rfl⟩ := StrRow.form hrow3; have hisH := Lib.hid his; have hrow3H := Lib.hid hrow3; have hS3 := Lib.hid (Sb.trans hS2.out hb); clear his hrow3 hb))
      have hil : Hid (is.length <= 9223372036854775807) := Lib.hid (by have := hrow3H.out.len_le; rwa [List.length_map] at this)
      go_loopw [35, 3, 11, 12, 13] (fun vi vo _ _ _ wr => ∃ m : Nat, m <= is.length /\ vi = .int .i64 (m : Int) /\ LiAt W w1 (some ⟨gk, 0, none⟩) (o ++ is.take m) vo wr /\ InRow w3 ol vo wr) (fun vi _ _ _ _ _ => is.length - (RowKit.intOf vi).toNat)
      case atStart =>
        refine ⟨0, Nat.zero_le _, rfl, ?_, ?_⟩
        . rw [List.take_zero, List.append_nil]
          exact hliH.out.1.on hod.out hS3.out
        . intro a ha
          have hl := World.ownsRow.lt hrow3H.out a.block (by rw [ha]; rfl)
          refine ⟨rfl, fun e => ?_, hl.2⟩
          have := (World.ownsRow.lt hliH.out.1.2.2.2 _ e).2
          have := hS2.out.siz
          omega
      case round =>
        obtain ⟨m, hm, rfl, hli, hir⟩ := hrel
        by_cases hlm : m < is.length
        . have hlm' : (m : Int) < (is.length : Int) := by omega
          have hmm : m + 1 <= 9223372036854775807 := Nat.le_trans hlm hil.out
          obtain ⟨x, hxe⟩ : ∃ x, x = is[m] := ⟨_, rfl⟩
          have hxm : x ∈ is := by rw [hxe]; exact List.getElem_mem hlm
          obtain ⟨hxA, a, hja, hfa⟩ := (hisH.out.2 x).1 hxm
          have hx32 := hlA.out x hxA
          obtain ⟨gl, rfl, hgb2, hgl2, hcell⟩ := StrRow.at hrow3H.out (k := m) (by rw [List.length_map]; exact hlm)
          rw [List.getElem_map, <- hxe] at hcell
          have hcx := (World.cell?_of_block (a := ⟨gl, m, none⟩) (hir ⟨gl, 0, none⟩ rfl).1).trans hcell
          have hTx := hh0.out a hja
          have hcat2 : T ++ ⟨⟨h1L x⟩⟩ = ⟨⟨hexL x⟩⟩ := by
            rw [hTx, FB_inj hfa, hex_split2 x]
            exact app_ofL (h0L x) (h1L x)
          have hq4 : (⟨⟨h1L x⟩⟩ : ByteArray).size = 62 := h1L_len hx32
          have hux := Lib.hid (fun w => unhex_calls (s := ⟨⟨hexL x⟩⟩) hx32 rfl w)
          have hY0 : (⟨⟨x⟩⟩ : ByteArray).size = 32 := hx32
          have htk2 : Hid (o ++ is.take (m + 1) = o ++ is.take m ++ [x]) := Lib.hid (by rw [take_next hlm, <- hxe, List.append_assoc])
          have hliH2 := Lib.hid (And.intro hli hir)
          generalize hbt : (⟨⟨x⟩⟩ : ByteArray) = Y at hY0 hux
          have hbtH : Hid (bt1 x = Y) := Lib.hid hbt
          generalize (⟨⟨h1L x⟩⟩ : ByteArray) = N at hcx hcat2 hq4
          generalize (⟨⟨hexL x⟩⟩ : ByteArray) = X at hcat2 hux
          have hq5 : T.size + N.size <= 9223372036854775807 := by omega
          have hq6 : (9223372036854775807 < T.size + N.size) = False := eq_false (by omega)
          have hY1 : (Y.size : Int) = 32 := by omega
          have hol : ((o ++ is.take m).map bt1).length <= 100000000 := by
            rw [List.length_map, List.length_append, List.length_take]
            have h1 := nodup_len hliH.out.2.1 (fun y hy => ((hliH.out.2.2 y).1 hy).1)
            have h2 := nodup_len hisH.out.1 (fun y hy => ((hisH.out.2 y).1 hy).1)
            have := hAl.out
            omega
          clear hli hir hxe hxm hxA hja hfa hx32 hcell hgb2 hgl2 hTx hbt
          go_wp2_with (first
            | (go_at_call 52; refine (htr.out _).mono ?_; rintro r1 w4 ⟨rfl, hb⟩; have hS4 : Hid (Sb wr w4) := Lib.hid hb; clear hb)
            | (go_at_call 53; refine (hux.out _).mono ?_; rintro r1 w5 ⟨rfl, hb⟩; have hS5 := Lib.hid (Sb.trans hS4.out hb); clear hb)
            | (at_builtin; go_loud (refine wpList_append_lies _ rfl _ _ _ rfl w1.heap.size 9 i0 _ 1 16 Tryz.underlying39 hi0 hz0 hz1 hz2 rfl (by omega) u3 ((o ++ is.take m).map bt1).length (strs ((o ++ is.take m).map bt1)) rfl (StrRow.kept (hliH2.out.1.2.2.2) fun g hg => Sb.blk (Sb.alloc hS5.out _) g (World.ownsRow.lt hliH2.out.1.2.2.2 g hg).2) ⟨w5.heap.size, 0, none⟩ 1 1 [.string Y] rfl rfl (World.news_of_block (cs := #[.string Y]) (t := 9) (fr := (0, 0)) (heap_alloc_new w5 _)) (by intro u hu; simp at hu; subst hu; rfl) (by omega) (by unfold maxLen; omega) (by omega) (Nat.le_trans hliH2.out.1.2.1 (Nat.le_trans hS5.out.siz (by simp))) (w5.heap.size + 1) (by simp) ?_; intro gg cap6 w8 hown8 hgrow hat hlt8; have hfin : Hid (LiAt W w1 (some ⟨gk, 0, none⟩) (o ++ is.take (m + 1)) _ w8) := Lib.hid (by rw [htk2.out]; exact LiAt.add hliH2.out.1 hod.out (Sb.alloc hS5.out _) hWB.out hgrow (by rw [hbtH.out]; exact hown8)); have hfir : Hid (InRow w3 _ _ w8) := Lib.hid (InRow.add hliH2.out.2 (Sb.alloc hS5.out _) hgrow (v' := .slice (some ⟨gg, 0, none⟩) (((o ++ is.take m).map bt1).length + 1) cap6) (fun y hy => by injection hy with hy; subst hy; exact hat.imp id (fun e => by rw [e]; simp))); clear hown8 hgrow hat hlt8)))
          clear hol hq5 hq6 hcat2
          go_roundw
          case rel => exact ⟨m + 1, hlm, by go_num, by have := hfin.out; rw [List.length_map, List.length_append, List.length_take, Nat.min_eq_left hm] at this; exact this, by have := hfir.out; rw [List.length_map, List.length_append, List.length_take, Nat.min_eq_left hm] at this; exact this⟩
          case measure => simp [RowKit.intOf]; omega
        . have hlm' : ¬ (m : Int) < (is.length : Int) := by omega
          obtain rfl : m = is.length := by omega
          rw [List.take_length] at hli
          have hliH2 := Lib.hid hli
          clear hli hir
          go_wp2
          refine ⟨⟨k + 1, o ++ is, hlt, by go_num, hliH2.out, ?_, fun x => ?_⟩, ?_⟩
          . rw [List.nodup_append]
            refine ⟨hliH.out.2.1, hisH.out.1, fun x hx y hy e => ?_⟩
            subst e
            obtain ⟨_, a, ha, hf⟩ := (hliH.out.2.2 x).1 hx
            obtain ⟨_, b, hb, hf'⟩ := (hisH.out.2 x).1 hy
            exact hnew.out a b ha hb (hf.trans hf'.symm)
          . rw [List.mem_append, hliH.out.2.2 x, hisH.out.2 x, htk.out]
            constructor
            . rintro (⟨h1, a, ha, hf⟩ | ⟨h1, a, ha, hf⟩)
              . exact ⟨h1, a, List.mem_append_left _ ha, hf⟩
              . exact ⟨h1, a, by rw [ha]; simp, hf⟩
            . rintro ⟨h1, a, ha, hf⟩
              rcases List.mem_append.1 ha with ha | ha
              . exact .inl ⟨h1, a, ha, hf⟩
              . rw [List.mem_singleton] at ha
                exact .inr ⟨h1, a, ha.symm, hf⟩
          . simp [RowKit.intOf]; omega
    . have hlt' : ¬ (k : Int) < (js.length : Int) := by omega
      obtain rfl : k = js.length := by omega
      obtain ⟨ov, cv, rfl⟩ := StrRow.form hli.2.2.2
      have hfin : Hid (∀ x, x ∈ o ↔ x ∈ A) := Lib.hid (fun x => by
        rw [hmem x, List.take_length]
        refine ⟨fun hx => hx.1, fun hx => ⟨hx, ?_⟩⟩
        obtain ⟨b, hb1, hb2⟩ := hjsH.out.2.2.2 x (hcov.out x hx)
        exact ⟨b, hb1, hb2⟩)
      have hliH := Lib.hid (And.intro hli hnd)
      clear hli hnd hmem
      go_wp2
      go_ret
      refine ⟨_, rfl, o, hliH.out.2, hfin.out, ?_, hliH.out.1.1⟩
      have := hliH.out.1.2.2.2
      rw [List.length_map] at this
      exact World.ownsRow.mono this hS1.out.siz
end
end Go.Proofs
namespace Go.Proofs
open Go.RowKit Go.Ev Go.Lib Go.Shelf
attribute [local go_sem] Oper.semAt_some
noncomputable def stP (s : St) (id : List UInt8) (kk : Nat) (b : Bool) : St :=
  { s with now := delF s.now (PB id), sure := if b then delF s.sure (PB id) else s.sure, acts := if b then s.acts else s.acts ++ [.goes (PB id)], k := kk }
section
variable {W : World} {fb : Nat} {L : Lay} {s : St} {Fs A : List (List UInt8)} {i : Bool} {na nn nk : Nat} {id : List UInt8}
theorem settle_run (hl : LS s Fs A false na nn nk) (hid : id ∈ A) {a : List UInt8} (ha : a ∈ Fs) (kk : Nat) (b : Bool) :
    ∃ b', SRun s.nodes UB (FB a) (stP s id kk b).acts (stP s id kk b).sure (stP s id kk b').acts (stP s id kk b').sure /\ (b = true -> b' = true) /\ (FB a = FB id -> b' = true) := by
  have hal := hl.now.len a ha
  have hidl := hl.now.lenA hid
  have hz := PB_size hidl
  cases b with
  | true => exact ⟨true, miss_inc hl.acts (FB_neO hal) _, fun _ => rfl, fun _ => rfl⟩
  | false =>
    by_cases he : FB a = FB id
    . obtain ⟨j, hj, _⟩ := hl.sure.fil id hid
      refine ⟨true, ?_, fun _ => rfl, fun _ => rfl⟩
      have h1 := (miss_inc hl.acts (FB_neO hal) s.sure).append (.hit (a := .goes (PB id)) (l := []) (r := []) (.inl ((UB_P hidl).trans he.symm)) (fun s' hs' => DoOk.goes (by omega) hj (hl.sure.noKids hz)) (.nil _))
      rw [List.append_nil] at h1
      exact h1
    . refine ⟨false, ?_, (fun h => by cases h), fun h => absurd h he⟩
      exact (miss_inc hl.acts (FB_neO hal) s.sure).append (.miss (a := .goes (PB id)) (fun hh => hh.elim (fun hh => he ((UB_P hidl).symm.trans hh).symm) (fun hh => by cases hh.1)) (.nil _))
theorem stP_acts (hl : LS s Fs A false na nn nk) (hid : id ∈ A) (kk : Nat) (b : Bool) : ∀ a ∈ (stP s id kk b).acts, UpIs a.path (UB a.path) /\ (a.kind = 2 -> UpIs a.to (UB a.to)) := fun a ha => by
  have hidl := hl.now.lenA hid
  have hinc : ∀ a ∈ s.acts, UpIs a.path (UB a.path) /\ (a.kind = 2 -> UpIs a.to (UB a.to)) := fun a ha => by
    obtain ⟨j, rfl, _⟩ := hl.acts a ha
    exact ⟨IB_up, fun hk => by cases hk⟩
  cases b with
  | true => exact hinc a ha
  | false =>
    rcases List.mem_append.1 (show a ∈ s.acts ++ [.goes (PB id)] from ha) with ha | ha
    . exact hinc a ha
    . rw [List.mem_singleton.1 ha]
      exact ⟨(UB_P hidl).symm ▸ PB_up hidl, fun hk => by cases hk⟩
theorem stP_len (s : St) (id : List UInt8) (kk : Nat) (b : Bool) : (stP s id kk b).acts.length <= s.acts.length + 1 := by
  cases b with
  | true => exact Nat.le_succ _
  | false => show (s.acts ++ [_]).length <= _; simp
theorem js_len {M : Nm} {nodes : List Nd} {js : List (Option (List UInt8))} (hjs : JsOk M nodes Fs js) : js.length <= Fs.length + 1 := by
  have h1 : js.Nodup := nodup_of_map hjs.1
  have := nodup_len (A := none :: Fs.map some) h1 fun x hx => by
    cases x with
    | none => exact List.mem_cons_self ..
    | some a => exact List.mem_cons_of_mem _ (List.mem_map.2 ⟨a, hjs.2.1 a hx, rfl⟩)
  simpa using this
def SeAt (W W1 : World) (fb : Nat) (L : Lay) (s : St) (id : List UInt8) (na : Nat) (od : Option Addr) (js : List (Option (List UInt8))) (k : Nat) (wr : World) : Prop :=
  ∃ b kk L', FsAt wr fb L' (stP s id kk b) /\ Stp W (L.own fb) wr (L'.own fb) /\ kk <= s.k + 1 + k * (na + 1) /\ (b = false -> ∀ a, some a ∈ js.take k -> FB a ≠ FB id) /\ (∀ x, L'.own fb x -> x < W.heap.size \/ W1.heap.size <= x) /\ W1.heap.size <= wr.heap.size /\ ∀ a, od = some a -> wr.heap[a.block]? = W1.heap[a.block]?
theorem SeAt.on {W1 wr w' : World} {od : Option Addr} {js : List (Option (List UInt8))} {k : Nat} (h : SeAt W W1 fb L s id na od js k wr) (hod : ∀ a, od = some a -> a.block < W1.heap.size) (hs : Sb wr w') : SeAt W W1 fb L s id na od js k w' := by
  obtain ⟨b, kk, L', h1, h2, h3, h4, h5, h6, h7⟩ := h
  exact ⟨b, kk, L', h1.below hs, h2.trans (Stp.below _ hs), h3, h4, h5, Nat.le_trans h6 hs.siz, fun a ha => (Sb.blk hs _ (Nat.lt_of_lt_of_le (hod a ha) h6)).trans (h7 a ha)⟩
theorem SeAt.skip {W1 wr : World} {od : Option Addr} {js : List (Option (List UInt8))} {k : Nat} (h : SeAt W W1 fb L s id na od js k wr) (hk : k < js.length) (hj : js[k] = none) : SeAt W W1 fb L s id na od js (k + 1) wr := by
  obtain ⟨b, kk, L', h1, h2, h3, h4, h5, h6, h7⟩ := h
  refine ⟨b, kk, L', h1, h2, Nat.le_trans h3 (by rw [Nat.succ_mul]; omega), fun hb a ha => ?_, h5, h6, h7⟩
  rw [take_next hk, hj] at ha
  rcases List.mem_append.1 ha with ha | ha
  . exact h4 hb a ha
  . simp at ha
theorem SeAt.step {W1 wr : World} {od : Option Addr} {js : List (Option (List UInt8))} {k : Nat} (h : SeAt W W1 fb L s id na od js k wr) (hl : LS s Fs A false na nn nk) (hid : id ∈ A) (hjs : JsOk (delF s.now (PB id)) s.nodes Fs js) (hk : k < js.length) {a : List UInt8} (hj : js[k] = some a)
    (hod : ∀ a, od = some a -> a.block < W1.heap.size /\ W.heap.size <= a.block) (hbk : s.k + 1 + js.length * (na + 1) <= 1000) (hna : na <= 100) : Calls Tryz.prog 43 #[pt fb, .string (FB a)] wr fun e w' => e = .returned (.int .i64 0) /\ SeAt W W1 fb L s id na od js (k + 1) w' := by
  obtain ⟨b, kk, L', h1, h2, h3, h4, h5, h6, h7⟩ := h
  have ha : a ∈ Fs := hjs.2.1 a (by rw [<- hj]; exact List.getElem_mem hk)
  have hal := hl.now.len a ha
  have hgd := hl.now.del (hl.now.lenA hid)
  obtain ⟨b', hrun, hb1, hb2⟩ := settle_run hl hid ha kk b
  have hkl : k * (na + 1) + (na + 1) <= js.length * (na + 1) := by
    rw [<- Nat.succ_mul]; exact Nat.mul_le_mul_right _ hk
  have hsl := stP_len s id kk b
  have hba := hl.ba
  refine (sync_dir h1 hl.off (FB_ok hal) (FB_neN hal) (Good.folF (s := stP s id kk b) hgd ha) (stP_acts hl hid kk b) hrun (by show kk <= 1000; omega) (by omega)).mono ?_
  rintro e w' ⟨rfl, L2, g1, g2⟩
  refine ⟨rfl, b', kk + (stP s id kk b).acts.length, L2, g1, h2.trans g2, ?_, fun hb x hx => ?_, fun x hx => ?_, Nat.le_trans h6 g2.size, fun y hy => ?_⟩
  . rw [Nat.succ_mul]; omega
  . rw [take_next hk, hj] at hx
    rcases List.mem_append.1 hx with hx | hx
    . refine h4 ?_ x hx
      cases b with
      | false => rfl
      | true => rw [hb1 rfl] at hb; cases hb
    . have : x = a := by simpa using hx
      subst this
      intro e
      rw [hb2 e] at hb; cases hb
  . rcases g2.own x hx with hx | hx
    . exact h5 x hx
    . exact .inr (Nat.le_trans h6 hx)
  . refine (g2.blk _ (Nat.lt_of_lt_of_le (hod y hy).1 h6) fun ho => ?_).trans (h7 y hy)
    have := hod y hy
    rcases h5 _ ho with h | h <;> omega
set_option maxRecDepth 1000000 in
set_option maxHeartbeats 4000000 in
theorem settle_calls {kk0 : Nat} (h : FsAt W fb L (stP s id kk0 false)) (hkk : kk0 <= s.k + 1) (hl : LS s Fs A false na nn nk) (hid : id ∈ A) (hna : na <= 10) (hnn : nn <= 30) (hnk : nk <= 300) :
    Calls Tryz.prog 23 #[pt fb] W fun e w' => e = .returned (.int .i64 0) /\ ∃ kk, kk <= 1000 /\ FsTo W fb L (stP s id kk true) w' := by
  have hbk := hl.bk
  have hgd := hl.now.del (hl.now.lenA hid)
  have hho := Lib.hid (list_home (s := stP s id kk0 false) h hgd hl.off (by show kk0 <= 1000; omega))
  have hH := Lib.hid (And.intro h (And.intro hl (And.intro hid hgd)))
  have hst0 : Hid (∀ w1 od js, Sb W w1 -> SeAt W w1 fb L s id na od js 0 w1) := Lib.hid fun w1 od js hb => ⟨false, kk0, L, h.below hb, Stp.below _ hb, by omega, (fun _ a ha => by cases ha), fun x hx => .inl (h.lt hx), Nat.le_refl _, fun _ _ => rfl⟩
  have hcov := Lib.hid (hl.now.sub id hid)
  have hB := Lib.hid (And.intro hna (And.intro hnn (And.intro hnk hbk)))
  clear h hl hid hna hnn hnk hbk hgd hkk
  go_enter Tryz.func23, Tryz.ntmps23
  go_wp2_with (go_at_call 51; refine hho.out.mono ?_; rintro r1 w1 ⟨v, js, rfl, hjs, hrow, hb⟩; obtain ⟨od, cd, rfl⟩ := StrRow.form hrow; have hjsH := Lib.hid hjs; have hrowH := Lib.hid hrow; have hS1 : Hid (Sb W w1) := Lib.hid hb; clear hjs hrow hb)
  have hjl : Hid (js.length <= 31) := Lib.hid (by have := js_len hjsH.out; have := hH.out.2.1.bF; have := hB.out; omega)
  have hmul : Hid (s.k + 1 + js.length * (na + 1) <= 1000) := Lib.hid (by
    have h1 : js.length * (na + 1) <= 31 * 11 := Nat.mul_le_mul hjl.out (by have := hB.out; omega)
    have := hB.out
    omega)
  go_loopw [14, 4, 6] (fun vi ve _ wr => ∃ k : Nat, k <= js.length /\ vi = .int .i64 (k : Int) /\ ve = .int .i64 0 /\ SeAt W w1 fb L s id na od js k wr) (fun vi _ _ _ => js.length - (RowKit.intOf vi).toNat)
  case atStart => exact ⟨0, Nat.zero_le _, rfl, rfl, hst0.out _ _ _ hS1.out⟩
  case round =>
    obtain ⟨k, hk1, rfl, rfl, hst⟩ := hrel
    by_cases hlt : k < js.length
    . have hlt' : (k : Int) < (js.length : Int) := by omega
      have hkm : k <= 1000 := by have := hjl.out; omega
      obtain ⟨j, hje⟩ : ∃ j, j = js[k] := ⟨_, rfl⟩
      have hjm : j ∈ js := by rw [hje]; exact List.getElem_mem hlt
      have hj32 : ∀ a, j = some a -> a.length = 32 := fun a ha => hH.out.2.1.now.len a (hjsH.out.2.1 a (ha ▸ hjm))
      obtain ⟨gk, rfl, hgb, hgl, hcell⟩ := StrRow.at hrowH.out (k := k) (by rw [List.length_map]; exact hlt)
      rw [List.getElem_map, <- hje] at hcell
      have hck0 : wr.heap[gk]? = w1.heap[gk]? := by obtain ⟨_, _, _, _, _, _, _, _, _, h9⟩ := hst; exact h9 ⟨gk, 0, none⟩ rfl
      have hck := (World.cell?_of_block (a := ⟨gk, k, none⟩) hck0).trans hcell
      have hod : Hid (∀ a, some (⟨gk, 0, none⟩ : Addr) = some a -> a.block < w1.heap.size /\ W.heap.size <= a.block) := Lib.hid (fun a ha => by injection ha with ha; rw [<- ha]; exact ⟨hgl, hgb⟩)
      have htr := Lib.hid (trim_j j hj32)
      have hsf := Lib.hid (suf_j j hj32)
      have hcat := cat_tnm j
      have htz := tnm_size j hj32
      have hstH := Lib.hid hst
      have hjeH := Lib.hid hje
      have hlpk := Lib.hid hlt
      clear hst hjm hj32 hcell hgb hgl hck0 hje
      cases j with
      | none =>
        clear hcat htz htr
        generalize dnm none = D at hsf hck
        replace hsf : Hid (∀ w, Calls Tryz.prog 56 #[.string D, .string ⟨#[47]⟩] w fun e w' => e = .returned (.bool false) /\ Below w.heap.size w w') := hsf
        go_wp2_with (go_at_call 56; refine (hsf.out _).mono ?_; rintro r1 w2 ⟨rfl, hb⟩; have hS2 : Hid (Sb wr w2) := Lib.hid hb; clear hb)
        go_roundw
        case rel => exact ⟨k + 1, hlt, by go_num, rfl, (hstH.out.on (fun a ha => (hod.out a ha).1) hS2.out).skip hlt hjeH.out.symm⟩
        case measure => simp [RowKit.intOf]; omega
      | some a =>
        have hsy : Hid (∀ w, Sb wr w -> Calls Tryz.prog 43 #[pt fb, .string (pth (some a))] w fun e w' => e = .returned (.int .i64 0) /\ SeAt W w1 fb L s id na (some ⟨gk, 0, none⟩) js (k + 1) w') := Lib.hid fun w hs => (hstH.out.on (fun a ha => (hod.out a ha).1) hs).step hH.out.2.1 hH.out.2.2.1 hjsH.out hlpk.out hjeH.out.symm hod.out hmul.out (by have := hB.out; omega)
        generalize dnm (some a) = D at hsf htr hck
        generalize tnm (some a) = T at htr hcat htz
        generalize pth (some a) = P at hsy hcat
        replace hsf : Hid (∀ w, Calls Tryz.prog 56 #[.string D, .string ⟨#[47]⟩] w fun e w' => e = .returned (.bool true) /\ Below w.heap.size w w') := hsf
        have hq1 : 8 + T.size <= 9223372036854775807 := by omega
        have hq2 : (9223372036854775807 < 8 + T.size) = False := eq_false (by omega)
        have hq3 : HB.size + T.size <= 9223372036854775807 := by show 8 + T.size <= _; omega
        go_wp2_with (first
          | (go_at_call 56; refine (hsf.out _).mono ?_; rintro r1 w2 ⟨rfl, hb⟩; have hS2 : Hid (Sb wr w2) := Lib.hid hb; clear hb)
          | (go_at_call 52; refine (htr.out _).mono ?_; rintro r1 w3 ⟨rfl, hb⟩; have hS3 := Lib.hid (Sb.trans hS2.out hb); clear hb)
          | (go_at_call 43; refine (hsy.out _ hS3.out).mono ?_; rintro r1 w4 ⟨rfl, hf⟩; have hfin := Lib.hid hf; clear hf))
        go_roundw
        case rel => exact ⟨k + 1, hlt, by go_num, rfl, hfin.out⟩
        case measure => simp [RowKit.intOf]; omega
    . have hlt' : ¬ (k : Int) < (js.length : Int) := by omega
      obtain rfl : k = js.length := by omega
      have hfin : Hid (∃ kk, kk <= 1000 /\ FsTo W fb L (stP s id kk true) wr) := Lib.hid (by
        obtain ⟨b, kk, L', h1, h2, h3, h4, _⟩ := hst
        cases b with
        | true => exact ⟨kk, Nat.le_trans h3 hmul.out, L', h1, h2⟩
        | false =>
          obtain ⟨x, hx, he⟩ := hjsH.out.2.2.2 id hcov.out
          rw [List.take_length] at h4
          exact absurd he (h4 rfl x hx))
      clear hst
      go_wp2
      go_ret
      exact ⟨rfl, hfin.out⟩
end
end Go.Proofs
