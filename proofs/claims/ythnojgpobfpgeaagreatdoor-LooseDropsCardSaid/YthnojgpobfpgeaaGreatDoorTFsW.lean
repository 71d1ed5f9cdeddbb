/- Write: a file that was not there; Sync; Read. -/
import Derived.Test.YthnojgpobfpgeaaGreatDoorTFsP
set_option linter.unusedVariables false
set_option linter.unusedSimpArgs false
namespace Go.Proofs
open Go.RowKit Go.Ev Go.Lib Go.Shelf
attribute [local go_sem] Oper.semAt_some
attribute [local go_sem ↓] Go.wp_at_zero Go.wp_at_succ
section
variable {W : World} {fb : Nat} {L : Lay} {s : St}
theorem Stp.sb {P P' : Nat -> Prop} {W w1 w2 : World} (h : Stp W P w1 P') (g : Sb w1 w2) : Stp W P w2 P' := h.trans (Stp.below _ g)
theorem FsAt.nvf (h : FsAt W fb L s) (hpos : 0 < s.nodes.length) : ∃ g cap, L.nv = .slice (some ⟨g, 0, none⟩) s.nodes.length cap := by
  rcases h.rn.2 with ⟨_, h0⟩ | ⟨g, cap, _, hv, _⟩
  . omega
  . exact ⟨g, cap, hv⟩
theorem node_last {d : Nd} : (s.nodes ++ [d])[s.nodes.length]? = some d := by simp
set_option maxRecDepth 1000000 in
set_option maxHeartbeats 2000000 in
theorem write_new (h : FsAt W fb L s) (hoff : s.off = false) {p u x : ByteArray} (hp : PathOk p) (hps : p.size <= 1000) (hu : UpIs p u) (hf : FolIs s s.now u) (hn : s.now p = none) (hk : s.k <= 500) (ha : s.acts.length <= 1000) (hl : s.nodes.length <= 1000)
    (hpos : 0 < s.nodes.length) (hnod : ∀ p j, s.now p = some j -> j < s.nodes.length) (hsz : ∀ d ∈ s.nodes, d.now.size <= 2000) (hroom : s.room = 1048576) (hx0 : 0 < x.size) (hx1 : x.size <= 2000) :
    Calls Tryz.prog 9 #[pt fb, .string p, .string x] W fun e w' => e = .returned (.int .i64 0) /\ FsTo W fb L (newS s p ⟨false, x, ⟨#[]⟩⟩) w' := by
  obtain ⟨i0, hi0, hz0, hz1, hz2⟩ := info_parts info62
  obtain ⟨us, hus, hused⟩ := used_fs h hpos hnod hsz hk
  have hX := Lib.hid (And.intro (may_one h hoff hp) (And.intro h (And.intro hu (And.intro hf (And.intro hps hn)))))
  have hU := Lib.hid hused
  have hD : Hid (DoOk { s with nodes := s.nodes ++ [⟨false, ⟨#[]⟩, ⟨#[]⟩⟩] } s.now (.comes p s.nodes.length) (putF' s.now p s.nodes.length)) := Lib.hid (DoOk.comes hps hn (by omega) (HomeOk.of hu (hf.mono fun j d hd => node_more hd)))
  have hB := Lib.hid (And.intro hk (And.intro ha hl))
  have hR : Hid (s.room = 1048576) := Lib.hid hroom
  have e1 : (x.size : Int) - 0 = (x.size : Int) := Int.sub_zero _
  have e2 : IntKind.i64.wrap (x.size : Int) = (x.size : Int) := wrapI64 _ (by omega)
  have e3 : (0 : Int) < (x.size : Int) := by omega
  obtain ⟨q, hq⟩ : ∃ q : Nat, q = 1048576 - us := ⟨_, rfl⟩
  have e4 : (1048576 : Int) - (us : Int) = (q : Int) := by omega
  have e5 : IntKind.i64.wrap (q : Int) = (q : Int) := wrapI64 _ (by omega)
  have e6 : ¬ (q : Int) < (x.size : Int) := by omega
  have e7 : x.size <= q := by omega
  have e8 : decide (0 < x.size) = true := decide_eq_true hx0
  have e9 : decide ((0 : Int) < (x.size : Int)) = true := decide_eq_true e3
  have hlt0 : (s.nodes.length : Int) < ((s.nodes.length + 1 : Nat) : Int) := by omega
  clear h hoff hp hps hu hf hn hk ha hused hq hus hx1 hsz hnod hroom
  go_enter Tryz.func9, Tryz.ntmps9
  go_wp2_with (first
    | (go_at_call 30; refine hX.out.1.mono ?_; rintro r w1 ⟨rfl, hb⟩; have hS1 := Lib.hid hb; have c0 := (hX.out.2.1.below hb).c0; clear hb)
    | (go_at_call 32; refine (hX.out.2.2.1 _).mono ?_; rintro r w2 ⟨rfl, hb⟩; have hS2 := Lib.hid (Sb.trans hS1.out hb); clear hb)
    | (go_at_call 31; refine (fol_ok (hX.out.2.1.below hS2.out) hX.out.2.2.2.1).mono ?_; rintro r w3 ⟨rfl, hw⟩; rw [hw]; clear hw; have c4 := (hX.out.2.1.below hS2.out).c4; rw [hR.out] at c4; replace c4 : w2.cell? ⟨fb, 4, none⟩ = some (.int .i64 1048576) := c4; have hkeep : Hid (∀ w', Sb w2 w' -> Sb W w' /\ w'.cell? ⟨fb, 4, none⟩ = some (.int .i64 (1048576 : Int))) := Lib.hid (fun w' hb => by
        have hb' := Sb.trans hS2.out hb
        have := (hX.out.2.1.below hb').c4
        rw [hR.out] at this
        exact ⟨hb', this⟩))
    | (refine mapF_lookup (hX.out.2.1.below hS1.out).mn rfl _ _ rfl rfl _ hX.out.2.2.2.2.1 rfl ?_; intro c hc; clear hc; rw [hX.out.2.2.2.2.2]))
  go_region_held3 (fun w' => Sb W w' /\ w'.cell? ⟨fb, 4, none⟩ = some (.int .i64 (1048576 : Int)))
    (exact hkeep.out _ (by repeat (first | exact Sb.refl _ | apply Sb.drew | (refine Sb.trans ?_ (by assumption)))))
    ((go_at_call 33; refine (hU.out _ (Sb.trans hS2.out (by repeat (first | exact Sb.refl _ | apply Sb.drew)))).mono ?_; rintro r w4 ⟨rfl, hb⟩))
  rename_i hH
  have hS3 := Lib.hid hH.1
  clear hH
  go_wp2_with (first
    | (go_at_call 34; refine (step_calls (hX.out.2.1.below hS3.out)).mono ?_; rintro r w4 ⟨rfl, L1, h4, hs4⟩; have c3 := h4.c3; obtain ⟨gn, capn, hvn⟩ := h4.nvf hpos; rw [hvn] at c3; have hvnH := Lib.hid hvn; clear hvn; have hS4 := Lib.hid ((Stp.below (L.own fb) hS3.out).trans hs4); have h4H := Lib.hid h4; clear h4 hs4)
    | (at_builtin; go_loud (refine wpList_append_lies _ rfl _ _ _ rfl 0 62 i0 _ 3 40 Tryz.underlying56 hi0 hz0 hz1 hz2 rfl (by omega) (.slice (some ⟨gn, 0, none⟩) s.nodes.length capn) s.nodes.length (s.nodes.flatMap Nd.cells) rfl (hvnH.out ▸ (h4H.out.below (below_alloc _ _)).rn) ⟨w4.heap.size, 0, none⟩ 1 1 [.bool false, .string ⟨#[]⟩, .string ⟨#[]⟩] rfl rfl (World.news_of_block (cs := #[.bool false, .string ⟨#[]⟩, .string ⟨#[]⟩]) (t := 62) (fr := (0, 0)) (heap_alloc_new w4 _)) (by simp [Value.oneCell']) (by omega) (by unfold maxLen; have := hB.out.2.2; omega) (by have := hB.out.2.2; omega) (Nat.zero_le _) (w4.heap.size + 1) (by simp) ?_; intro gg cap w5 hown5 hgrow hat hlt; rw [<- hvnH.out] at hgrow hat; have hg3 := grown_one hgrow; obtain ⟨c3, f3⟩ := nv_cells h4H.out hg3; rw [hvnH.out] at c3; have h6 := setNv_one (d := ⟨false, ⟨#[]⟩, ⟨#[]⟩⟩) h4H.out hg3 hown5 rfl; have hs6 := Lib.hid (hS4.out.trans (stp_nv (fb := fb) (o := 3) hg3 (v := .slice (some ⟨gg, 0, none⟩) (s.nodes.length + 1) cap) (hat_own hat))); have c3' := h6.c3; have h6H := Lib.hid h6; clear hown5 hgrow hat hlt hg3 h6))
    | (go_at_call 35; go_loud (refine (name_calls h6H.out (by have := hB.out.1; show s.k <= 1000000; omega) (a := .comes p s.nodes.length) rfl hD.out hB.out.2.1).mono ?_; rintro r w7 ⟨⟨v7, rfl⟩, L7, h7, hs7⟩; have hn7 := node_last (s := s) (d := ⟨false, ⟨#[]⟩, ⟨#[]⟩⟩); obtain ⟨g7, m7, cap7, hv7, hlt7, d0, d1, _, f7⟩ := h7.node hn7; have c7 := h7.c3; rw [hv7] at c7; have f7' := f7 (s.nodes.length * 3 + 1); have h7H := Lib.hid h7; have hs7H := Lib.hid (hs6.out.trans hs7); have hv7H := Lib.hid hv7; have hn7H := Lib.hid hn7; clear h7 hs7 hv7 f7 hn7)))
  go_ret
  obtain ⟨h8, hs8⟩ := h7H.out.setNode hn7H.out hv7H.out (d' := ⟨false, x, ⟨#[]⟩⟩) (i := 1) (by decide) (.string x) rfl
  refine ⟨rfl, _, ?_, hs7H.out.trans hs8⟩
  have e9 : (s.nodes ++ [(⟨false, ⟨#[]⟩, ⟨#[]⟩⟩ : Nd)]).set s.nodes.length ⟨false, x, ⟨#[]⟩⟩ = s.nodes ++ [⟨false, x, ⟨#[]⟩⟩] := by simp
  have h8' := h8
  rw [e9] at h8'
  exact h8'
end
end Go.Proofs
namespace Go.Proofs
open Go.RowKit Go.Ev Go.Lib Go.Shelf
attribute [local go_sem] Oper.semAt_some
attribute [local go_sem ↓] Go.wp_at_zero Go.wp_at_succ
section
variable {W : World} {fb : Nat} {L : Lay} {s : St}
theorem str_ne {p q : ByteArray} (h : ¬ p = q) : (p.toList == q.toList) = false := by
  have e1 : p.toList = p.data.toList := ByteArray.toList_eq p
  have e2 : q.toList = q.data.toList := ByteArray.toList_eq q
  rw [e1, e2]
  cases hb : (p.data.toList == q.data.toList) with
  | false => rfl
  | true => exact absurd (ba_inj (eq_of_beq hb)) h
set_option maxRecDepth 1000000 in
theorem read_yes (h : FsAt W fb L s) (hoff : s.off = false) {p : ByteArray} (hp : PathOk p) (hps : p.size <= 1000) {n : Nat} {d : Nd} (hn : s.now p = some n) (hd : s.nodes[n]? = some d) (hf : d.dir = false) :
    Calls Tryz.prog 37 #[pt fb, .string p] W fun e w' => e = .returned (.tuple #[.string d.now, .int .i64 0]) /\ Below W.heap.size W w' := by
  have hm := Lib.hid (file_yes h hoff hp hps hn hd hf)
  have hX := Lib.hid (And.intro h hd)
  clear h hoff hp hps hn hd hf
  go_enter Tryz.func37, Tryz.ntmps37
  go_wp2_with (go_at_call 75; refine hm.out.mono ?_; rintro r w1 ⟨rfl, hb⟩; have h1 := hX.out.1.below hb; obtain ⟨g, m, cap, hv, hlt, _, d1, _, _⟩ := h1.node hX.out.2; have c3 := h1.c3; rw [hv] at c3; have hbH := Lib.hid hb; clear h1 hb hv)
  go_ret2
  exact ⟨rfl, hbH.out⟩
set_option maxRecDepth 1000000 in
theorem read_no (h : FsAt W fb L s) (hoff : s.off = false) {p : ByteArray} (hp : PathOk p) (hps : p.size <= 1000) (hn : s.now p = none) :
    Calls Tryz.prog 37 #[pt fb, .string p] W fun e w' => e = .returned (.tuple #[.string ⟨#[]⟩, .int .i64 2]) /\ Below W.heap.size W w' := by
  have hm := Lib.hid (file_no h hoff hp hps hn)
  clear h hoff hp hps hn
  go_enter Tryz.func37, Tryz.ntmps37
  go_wp2_with (go_at_call 75; refine hm.out.mono ?_; rintro r w1 ⟨rfl, hb⟩; have hbH := Lib.hid hb; clear hb)
  go_ret2
  exact ⟨rfl, hbH.out⟩
set_option maxRecDepth 1000000 in
set_option maxHeartbeats 1000000 in
theorem sync_file (h : FsAt W fb L s) (hoff : s.off = false) {p : ByteArray} (hp : PathOk p) (hps : p.size <= 1000) {n : Nat} {d : Nd} (hn : s.now p = some n) (hd : s.nodes[n]? = some d) (hf : d.dir = false) :
    Calls Tryz.prog 67 #[pt fb, .string p] W fun e w' => e = .returned (.int .i64 0) /\ FsTo W fb L { s with nodes := s.nodes.set n { d with sure := d.now } } w' := by
  have hm := Lib.hid (file_yes h hoff hp hps hn hd hf)
  have hX := Lib.hid (And.intro h hd)
  clear h hoff hp hps hn hd hf
  go_enter Tryz.func67, Tryz.ntmps67
  go_wp2_with (first
    | (go_at_call 75; refine hm.out.mono ?_; rintro r w1 ⟨rfl, hb⟩; have hbH := Lib.hid hb; clear hb)
    | (go_at_call 34; refine (step_calls (hX.out.1.below hbH.out)).mono ?_; rintro r w4 ⟨rfl, L1, h4, hs4⟩; have c3 := h4.c3; obtain ⟨g, m, cap, hv, hlt, _, d1, _, f1⟩ := h4.node hX.out.2; rw [hv] at c3; have hS4 := Lib.hid ((Stp.below (L.own fb) hbH.out).trans hs4); have h4H := Lib.hid h4; have hvH := Lib.hid hv; have f2 := f1 (n * 3 + 2); clear h4 hs4 hv f1))
  have hkeep : Hid (∀ w' : World, Sb w4 w' -> w'.cell? ⟨fb, 3, none⟩ = some (.slice (some ⟨g, 0, none⟩) m cap) /\ w'.cell? ⟨g, n * 3 + 1, none⟩ = some (.string d.now) /\ w'.frozen? ⟨g, n * 3 + 2, none⟩ = false) := Lib.hid fun w' hb => by
    have h5 := h4H.out.below hb
    obtain ⟨g', m', cap', hv', _, _, d1', _, f1'⟩ := h5.node hX.out.2
    have e := hvH.out
    rw [e] at hv'
    injection hv' with e1 e2 e3
    injection e1 with e1
    injection e1 with e1
    subst e1
    have := h5.c3
    rw [e] at this
    exact ⟨this, d1', f1' _⟩
  have hne : Hid (∀ (w' : World) (v : Value), (w'.cell? ⟨fb, 3, none⟩ = some (.slice (some ⟨g, 0, none⟩) m cap) /\ w'.cell? ⟨g, n * 3 + 1, none⟩ = some (.string d.now) /\ w'.frozen? ⟨g, n * 3 + 2, none⟩ = false) ->
      (w'.setCell ⟨g, n * 3 + 2, none⟩ v).cell? ⟨fb, 3, none⟩ = some (.slice (some ⟨g, 0, none⟩) m cap) /\ (w'.setCell ⟨g, n * 3 + 2, none⟩ v).cell? ⟨g, n * 3 + 1, none⟩ = some (.string d.now) /\ (w'.setCell ⟨g, n * 3 + 2, none⟩ v).frozen? ⟨g, n * 3 + 2, none⟩ = false) := Lib.hid fun w' v ⟨k1, k2, k3⟩ => by
    have hg : fb ≠ g := fun e => h4H.out.fnv (by rw [hvH.out, e]; rfl)
    refine ⟨(World.cell?_of_block (set_other v hg)).trans k1, ?_, by simpa using k3⟩
    rw [<- k2]
    simp [World.setCell, World.cell?, Array.getElem?_modify]
    cases w'.heap[g]? with
    | none => rfl
    | some o => cases o <;> simp
  go_region_held3 (fun w' => w'.cell? ⟨fb, 3, none⟩ = some (.slice (some ⟨g, 0, none⟩) m cap) /\ w'.cell? ⟨g, n * 3 + 1, none⟩ = some (.string d.now) /\ w'.frozen? ⟨g, n * 3 + 2, none⟩ = false)
    (first | exact hkeep.out _ (Sb.drew (Sb.refl _)) | exact hne.out _ _ (hkeep.out _ (Sb.refl _)))
    (fail)
  obtain ⟨h8, hs8⟩ := h4H.out.setNode hX.out.2 hvH.out (d' := { d with sure := d.now }) (i := 2) (by decide) (.string d.now) rfl
  have h9 := Lib.hid (h8.below (w' := (w4.setCell ⟨g, n * 3 + 2, none⟩ (.string d.now)).drew) (Sb.drew (Sb.refl _)))
  have hs9 := Lib.hid (hS4.out.trans (hs8.sb (w2 := (w4.setCell ⟨g, n * 3 + 2, none⟩ (.string d.now)).drew) (Sb.drew (Sb.refl _))))
  clear h8 hs8 hkeep hne
  go_wp2
  go_ret
  exact ⟨rfl, _, h9.out, hs9.out⟩
set_option maxRecDepth 1000000 in
set_option maxHeartbeats 1000000 in
theorem remove_no (h : FsAt W fb L s) (hoff : s.off = false) {p : ByteArray} (hp : PathOk p) (hps : p.size <= 1000) (hn : s.now p = none) :
    Calls Tryz.prog 42 #[pt fb, .string p] W fun e w' => e = .returned (.int .i64 2) /\ Below W.heap.size W w' := by
  have hX := Lib.hid (And.intro (may_one h hoff hp) (And.intro h (And.intro hps hn)))
  clear h hoff hp hps hn
  go_enter Tryz.func42, Tryz.ntmps42
  go_wp2_with (first
    | (go_at_call 30; refine hX.out.1.mono ?_; rintro r w1 ⟨rfl, hb⟩; have hS1 := Lib.hid hb; have c0 := (hX.out.2.1.below hb).c0; clear hb)
    | (refine mapF_lookup (hX.out.2.1.below hS1.out).mn rfl _ _ rfl rfl _ hX.out.2.2.1 rfl ?_; intro c hc; clear hc; rw [hX.out.2.2.2]))
  go_ret
  exact ⟨rfl, hS1.out⟩
set_option maxRecDepth 1000000 in
set_option maxHeartbeats 1000000 in
theorem remove_yes (h : FsAt W fb L s) (hoff : s.off = false) {p : ByteArray} (hp : PathOk p) (hps : p.size <= 1000) {n : Nat} (hn : s.now p = some n) (hno : NoKids s.now p) (hk : s.k <= 1000) (ha : s.acts.length <= 1000) :
    Calls Tryz.prog 42 #[pt fb, .string p] W fun e w' => e = .returned (.int .i64 0) /\ FsTo W fb L { s with now := delF s.now p, k := s.k + 1, acts := s.acts ++ [.goes p] } w' := by
  have hX := Lib.hid (And.intro (may_one h hoff hp) (And.intro h (And.intro hps (And.intro hn hno))))
  have hD : Hid (DoOk s s.now (.goes p) (delF s.now p)) := Lib.hid (DoOk.goes hps hn hno)
  have hB := Lib.hid (And.intro hk ha)
  clear h hoff hp hps hn hno hk ha
  go_enter Tryz.func42, Tryz.ntmps42
  go_wp2_with (first
    | (go_at_call 30; refine hX.out.1.mono ?_; rintro r w1 ⟨rfl, hb⟩; have hS1 := Lib.hid hb; have c0 := (hX.out.2.1.below hb).c0; clear hb)
    | (refine mapF_lookup (hX.out.2.1.below hS1.out).mn rfl _ _ rfl rfl _ hX.out.2.2.1 rfl ?_; intro c hc; clear hc; rw [hX.out.2.2.2.1])
    | (go_at_call 83; refine (kids_none (hX.out.2.1.below hS1.out).mn hX.out.2.2.1 hX.out.2.2.2.2).mono ?_; rintro r w2 ⟨rfl, hb⟩; have hS2 := Lib.hid (Sb.trans hS1.out hb); clear hb)
    | (go_at_call 34; refine (step_calls (hX.out.2.1.below hS2.out)).mono ?_; rintro r w4 ⟨rfl, L1, h4, hs4⟩; have hS4 := Lib.hid ((Stp.below (L.own fb) hS2.out).trans hs4); have h4H := Lib.hid h4; clear h4 hs4)
    | (go_at_call 35; go_loud (refine (name_calls h4H.out (by have := hB.out.1; show s.k <= 1000000; omega) (a := .goes p) rfl hD.out hB.out.2).mono ?_; rintro r w7 ⟨⟨v7, rfl⟩, L7, h7, hs7⟩; have h7H := Lib.hid h7; have hs7H := Lib.hid (hS4.out.trans hs7); clear h7 hs7)))
  go_ret
  exact ⟨rfl, _, h7H.out, hs7H.out⟩
set_option maxRecDepth 1000000 in
set_option maxHeartbeats 1000000 in
theorem rename_calls (h : FsAt W fb L s) (hoff : s.off = false) {p q u : ByteArray} (hp : PathOk p) (hq : PathOk q) (hps : p.size <= 1000) (hqs : q.size <= 1000) (hpq : ¬ p = q) {n : Nat} {d : Nd} (hn : s.now p = some n) (hd : s.nodes[n]? = some d) (hf : d.dir = false)
    (hto : ∀ j, s.now q = some j -> ∃ d, s.nodes[j]? = some d /\ d.dir = false) (hu : UpIs q u) (hfo : FolIs s s.now u) (hno : NoKids s.now q) (hk : s.k <= 1000) (ha : s.acts.length <= 1000) (hn1 : n <= 1000000) :
    Calls Tryz.prog 68 #[pt fb, .string p, .string q] W fun e w' => e = .returned (.int .i64 0) /\ FsTo W fb L { s with now := movF s.now p q n, k := s.k + 1, acts := s.acts ++ [.moves p q n] } w' := by
  have hX := Lib.hid (And.intro (may_two h hoff hp hq) (And.intro h (And.intro hqs (And.intro hu hfo))))
  have hF : Hid (∀ w, Sb W w -> Calls Tryz.prog 75 #[pt fb, .string p] w fun e w' => e = .returned (.tuple #[ni n, .int .i64 0]) /\ Below w.heap.size w w') := Lib.hid fun w hb => file_yes (h.below hb) hoff hp hps hn hd hf
  have hD : Hid (DoOk s s.now (.moves p q n) (movF s.now p q n)) := Lib.hid (DoOk.moves hps hqs hn1 hno (HomeOk.of hu hfo))
  have hB := Lib.hid (And.intro hk ha)
  have hne1 := str_ne hpq
  have hto' := Lib.hid hto
  clear h hoff hp hq hps hqs hn hd hf hto hu hfo hno hk ha hn1
  cases hc : s.now q with
  | none =>
    go_enter Tryz.func68, Tryz.ntmps68
    go_wp2_with (first
      | (go_at_call 30; refine hX.out.1.mono ?_; rintro r w1 ⟨rfl, hb⟩; have hS1 := Lib.hid hb; clear hb)
      | (go_at_call 75; refine (hF.out _ hS1.out).mono ?_; rintro r w2 ⟨rfl, hb⟩; have hS2 := Lib.hid (Sb.trans hS1.out hb); have c0 := (hX.out.2.1.below hS2.out).c0; clear hb)
      | (refine mapF_lookup (hX.out.2.1.below hS2.out).mn rfl _ _ rfl rfl _ hX.out.2.2.1 rfl ?_; intro c hc'; clear hc'; rw [hc])
      | (go_at_call 32; refine (hX.out.2.2.2.1 _).mono ?_; rintro r w3 ⟨rfl, hb⟩; have hS3 := Lib.hid (Sb.trans hS2.out hb); clear hb)
      | (go_at_call 31; refine (fol_ok (hX.out.2.1.below hS3.out) hX.out.2.2.2.2).mono ?_; rintro r w3 ⟨rfl, hw⟩; rw [hw]; clear hw)
      | (go_at_call 34; refine (step_calls (hX.out.2.1.below hS3.out)).mono ?_; rintro r w4 ⟨rfl, L1, h4, hs4⟩; have hS4 := Lib.hid ((Stp.below (L.own fb) hS3.out).trans hs4); have h4H := Lib.hid h4; clear h4 hs4)
      | (go_at_call 35; go_loud (refine (name_calls h4H.out (by have := hB.out.1; show s.k <= 1000000; omega) (a := .moves p q n) rfl hD.out hB.out.2).mono ?_; rintro r w7 ⟨⟨v7, rfl⟩, L7, h7, hs7⟩; have h7H := Lib.hid h7; have hs7H := Lib.hid (hS4.out.trans hs7); clear h7 hs7)))
    go_ret
    exact ⟨rfl, _, h7H.out, hs7H.out⟩
  | some j =>
    obtain ⟨dj, hdj, hdf⟩ := hto'.out j hc
    have hdjH := Lib.hid (And.intro hdj hdf)
    clear hdj hdf
    go_enter Tryz.func68, Tryz.ntmps68
    go_wp2_with (first
      | (go_at_call 30; refine hX.out.1.mono ?_; rintro r w1 ⟨rfl, hb⟩; have hS1 := Lib.hid hb; clear hb)
      | (go_at_call 75; refine (hF.out _ hS1.out).mono ?_; rintro r w2 ⟨rfl, hb⟩; have hS2 := Lib.hid (Sb.trans hS1.out hb); have c0 := (hX.out.2.1.below hS2.out).c0; clear hb)
      | (refine mapF_lookup (hX.out.2.1.below hS2.out).mn rfl _ _ rfl rfl _ hX.out.2.2.1 rfl ?_; intro c hc'; have e := hc' j hc; subst e; clear hc'; rw [hc])
      | (go_at_call 32; refine (hX.out.2.2.2.1 _).mono ?_; rintro r w3 ⟨rfl, hb⟩; have hS3 := Lib.hid (Sb.trans hS2.out hb); clear hb)
      | (go_at_call 31; refine (fol_ok (hX.out.2.1.below hS3.out) hX.out.2.2.2.2).mono ?_; rintro r w3 ⟨rfl, hw⟩; rw [hw]; clear hw; obtain ⟨g, m, cap, hv, hlt, d0, _, _, _⟩ := (hX.out.2.1.below hS3.out).node hdjH.out.1; rw [hdjH.out.2] at d0; have c3 := (hX.out.2.1.below hS3.out).c3; rw [hv] at c3; clear hv)
      | (go_at_call 34; refine (step_calls (hX.out.2.1.below hS3.out)).mono ?_; rintro r w4 ⟨rfl, L1, h4, hs4⟩; have hS4 := Lib.hid ((Stp.below (L.own fb) hS3.out).trans hs4); have h4H := Lib.hid h4; clear h4 hs4)
      | (go_at_call 35; go_loud (refine (name_calls h4H.out (by have := hB.out.1; show s.k <= 1000000; omega) (a := .moves p q n) rfl hD.out hB.out.2).mono ?_; rintro r w7 ⟨⟨v7, rfl⟩, L7, h7, hs7⟩; have h7H := Lib.hid h7; have hs7H := Lib.hid (hS4.out.trans hs7); clear h7 hs7)))
    go_ret
    exact ⟨rfl, _, h7H.out, hs7H.out⟩
end
end Go.Proofs
