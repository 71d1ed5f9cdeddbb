/- SyncDir. -/
import Derived.Test.YthnojgpobfpgeaaGreatDoorTFsW
set_option linter.unusedVariables false
set_option linter.unusedSimpArgs false
namespace Go.Proofs
open Go.RowKit Go.Ev Go.Lib Go.Shelf
attribute [local go_sem] Oper.semAt_some
attribute [local go_sem ↓] Go.wp_at_zero Go.wp_at_succ
def DoAll (nodes : List Nd) (M : Nm) (a : Ac) (M' : Nm) : Prop := ∀ s : St, s.nodes = nodes -> DoOk s M a M'
def Hit (U : ByteArray -> ByteArray) (p : ByteArray) (a : Ac) : Prop := U a.path = p \/ (a.kind = 2 /\ U a.to = p)
inductive SRun (nodes : List Nd) (U : ByteArray -> ByteArray) (p : ByteArray) : List Ac -> Nm -> List Ac -> Nm -> Prop
  | nil (M : Nm) : SRun nodes U p [] M [] M
  | hit {a : Ac} {l r : List Ac} {M M1 M2 : Nm} (h : Hit U p a) (d : DoAll nodes M a M1) (n : SRun nodes U p l M1 r M2) : SRun nodes U p (a :: l) M r M2
  | miss {a : Ac} {l r : List Ac} {M M2 : Nm} (h : ¬ Hit U p a) (n : SRun nodes U p l M r M2) : SRun nodes U p (a :: l) M (a :: r) M2
theorem ac_cells2 {a : Ac} (h : (a.kind : Int) = 2) : a.cells = [.int .i64 2, .string a.path, .string a.to, .int .i64 (a.node : Int)] := by
  unfold Ac.cells ni; rw [h]
theorem ac_val2 {a : Ac} (h : (a.kind : Int) = 2) : a.val = .agg #[.int .i64 2, .string a.path, .string a.to, .int .i64 (a.node : Int)] := by
  unfold Ac.val ni; rw [h]
theorem row_form {w : World} {base n size : Nat} {e : TypeId} {v : Value} {xs : List Value} (h : w.ownsRow base e size v n xs) : ∃ o c, v = .slice o n c := by
  rcases h.2 with ⟨rfl, rfl⟩ | ⟨g, cap, _, hv, _⟩
  . exact ⟨none, 0, rfl⟩
  . exact ⟨_, cap, hv⟩
section
variable {W : World} {fb : Nat} {L : Lay} {s : St}
theorem FsAt.avf (h : FsAt W fb L s) : ∃ o cap, L.av = .slice o s.acts.length cap := by
  rcases h.ra.2 with ⟨hv, h0⟩ | ⟨g, cap, _, hv, _⟩
  . exact ⟨none, 0, by rw [hv, h0]⟩
  . exact ⟨some ⟨g, 0, none⟩, cap, hv⟩
theorem FsAt.act (h : FsAt W fb L s) {o : Option Addr} {n cap : Nat} (hv : L.av = .slice o n cap) {k : Nat} {a : Ac} (ha : s.acts[k]? = some a) :
    ∃ g, o = some ⟨g, 0, none⟩ /\ W.cell? ⟨g, k * 4, none⟩ = some (.int .i64 (a.kind : Int)) /\ W.cell? ⟨g, k * 4 + 1, none⟩ = some (.string a.path) /\ W.cell? ⟨g, k * 4 + 2, none⟩ = some (.string a.to) /\ W.cell? ⟨g, k * 4 + 3, none⟩ = some (.int .i64 (a.node : Int)) := by
  have hr := h.ra
  obtain ⟨hn, rfl⟩ := List.getElem?_eq_some_iff.1 ha
  rcases h.ra.2 with ⟨_, h0⟩ | ⟨g, cap', cur, hv', _, hg, _⟩
  . omega
  . rw [hv] at hv'
    injection hv' with e _ _
    refine ⟨g, e, ?_, ?_, ?_, ?_⟩
    . have := hr.cells (g := g) (by rw [hv, e]; rfl) (k * 4 + 0) _ ((flat_get Ac.cells (fun _ => rfl) s.acts k 0 hn (by decide)).trans rfl)
      rwa [add_none] at this
    . have := hr.cells (g := g) (by rw [hv, e]; rfl) (k * 4 + 1) _ ((flat_get Ac.cells (fun _ => rfl) s.acts k 1 hn (by decide)).trans rfl)
      rwa [add_none] at this
    . have := hr.cells (g := g) (by rw [hv, e]; rfl) (k * 4 + 2) _ ((flat_get Ac.cells (fun _ => rfl) s.acts k 2 hn (by decide)).trans rfl)
      rwa [add_none] at this
    . have := hr.cells (g := g) (by rw [hv, e]; rfl) (k * 4 + 3) _ ((flat_get Ac.cells (fun _ => rfl) s.acts k 3 hn (by decide)).trans rfl)
      rwa [add_none] at this
theorem box4 {W w1 : World} {c0 c1 c2 c3 : Value} (hb : Sb (W.alloc (.cells #[c0, c1, c2, c3] 67)) w1) :
    w1.cell? ⟨W.heap.size, 0, none⟩ = some c0 /\ w1.cell? ⟨W.heap.size, 1, none⟩ = some c1 /\ w1.cell? ⟨W.heap.size, 2, none⟩ = some c2 /\ w1.cell? ⟨W.heap.size, 3, none⟩ = some c3 := by
  have k1 := (Sb.blk hb W.heap.size (by simp)).trans (heap_alloc_new W (.cells #[c0, c1, c2, c3] 67))
  refine ⟨?_, ?_, ?_, ?_⟩ <;> (rw [Lib.cell_of_heap k1]; rfl)
theorem box4g {W w1 w2 : World} {b : Nat} {c0 c1 c2 c3 : Value} (hb : Sb (W.alloc (.cells #[c0, c1, c2, c3] 67)) w1) (hg : w1.grownBy w2 (some b)) (hbn : b < W.heap.size) :
    w2.cell? ⟨W.heap.size, 0, none⟩ = some c0 /\ w2.cell? ⟨W.heap.size, 1, none⟩ = some c1 /\ w2.cell? ⟨W.heap.size, 2, none⟩ = some c2 /\ w2.cell? ⟨W.heap.size, 3, none⟩ = some c3 := by
  have hs : W.heap.size < w1.heap.size := Nat.lt_of_lt_of_le (by simp) (Sb.siz hb)
  have k1 := (hg.block W.heap.size hs (fun e => by injection e with e; omega)).trans ((Sb.blk hb W.heap.size (by simp)).trans (heap_alloc_new W (.cells #[c0, c1, c2, c3] 67)))
  refine ⟨?_, ?_, ?_, ?_⟩ <;> (rw [Lib.cell_of_heap k1]; rfl)
def SyIn (W : World) (fb : Nat) (L L1 : Lay) (s : St) (B : Nat) (U : ByteArray -> ByteArray) (p : ByteArray) (r : List Ac) (M : Nm) (k : Nat) (v : Value) (w' : World) : Prop :=
  ∃ Mi ri rr, FsAt w' fb L1 { s with sure := Mi, k := s.k + k } /\ Stp W (L.own fb) w' (L1.own fb) /\ B <= w'.heap.size /\ w'.ownsRow B 67 4 v (List.length ri) (List.flatMap Ac.cells ri) /\ r = ri ++ rr /\ ri.length <= k /\ SRun s.nodes U p (s.acts.drop k) Mi rr M
theorem Stp.trans' {W w' : World} {P P1 P2 : Nat -> Prop} (h : Stp W P w' P1) (ho : ∀ k, P2 k -> P1 k \/ W.heap.size <= k) : Stp W P w' P2 := ⟨h.os, h.tape, h.output, h.size, h.blk, fun k hk => (ho k hk).elim (h.own k) .inr⟩
theorem drop_get {α : Type} {l : List α} {k : Nat} (h : k < l.length) : l.drop k = l[k] :: l.drop (k + 1) := List.drop_eq_getElem_cons h
theorem SyIn.next_hit {W : World} {fb : Nat} {L L1 : Lay} {s : St} {B : Nat} {U : ByteArray -> ByteArray} {p : ByteArray} {r rr ri : List Ac} {M Mi M1 : Nm} {k : Nat} {v : Value} {w w1 w' : World} (hF : FsAt w fb L1 { s with sure := Mi, k := s.k + k }) (hS : Stp W (L.own fb) w (L1.own fb)) (hB : B <= w.heap.size)
    (hrow : w.ownsRow B 67 4 v ri.length (ri.flatMap Ac.cells)) (hr : r = ri ++ rr) (hl : ri.length <= k) (hrun : SRun s.nodes U p (s.acts.drop (k + 1)) M1 rr M) (hbs : L1.bs < B) (hsb : Sb w w1) (hm : MapTo w1 L1.bs (s.k + k + 1) M1 w') : SyIn W fb L L1 s B U p r M (k + 1) v w' := by
  obtain ⟨hM, hg⟩ := hm
  have hgw : w.grownBy w' (some L1.bs) := ⟨hg.os.trans hsb.os, hg.tape.trans hsb.tape, hg.output.trans hsb.output, Nat.le_trans hsb.size hg.size, fun x hx hn => (hg.block x (Nat.lt_of_lt_of_le hx hsb.size) hn).trans (hsb.block x hx)⟩
  refine ⟨M1, ri, rr, hF.setSure hM (Nat.le_succ _) (fun x hx hn => hgw.block x hx fun e => hn (by injection e)), hS.trans (Stp.grown hgw (fun x hx => by injection hx with hx; exact .inr (.inr (.inl hx.symm))) fun x hx => .inl hx), Nat.le_trans hB hgw.size, row_kept hrow fun g hg2 => hgw.block g (hrow.lt g hg2).2 fun e => ?_, hr, Nat.le_succ_of_le hl, hrun⟩
  injection e with e
  have := (hrow.lt g hg2).1
  omega
theorem SyIn.next_miss {W : World} {fb : Nat} {L L1 : Lay} {s : St} {B : Nat} {U : ByteArray -> ByteArray} {p : ByteArray} {r rr ri : List Ac} {M Mi : Nm} {k : Nat} {v v' : Value} {w w1 w' : World} {a : Ac} (hF : FsAt w fb L1 { s with sure := Mi, k := s.k + k }) (hS : Stp W (L.own fb) w (L1.own fb)) (hB : B <= w.heap.size)
    (hrow0 : w.ownsRow B 67 4 v ri.length (ri.flatMap Ac.cells)) (hr : r = ri ++ a :: rr) (hl : ri.length <= k) (hrun : SRun s.nodes U p (s.acts.drop (k + 1)) Mi rr M) (hown : ∀ x, L1.own fb x -> x < B) (hWB : W.heap.size <= B) (hsb : Sb w w1) (hrow : w'.ownsRow B 67 4 v' (ri.length + 1) (ri.flatMap Ac.cells ++ a.cells)) (hg : w1.grownBy w' v.ownBlock) : SyIn W fb L L1 s B U p r M (k + 1) v' w' := by
  have hgw : w.grownBy w' v.ownBlock := ⟨hg.os.trans hsb.os, hg.tape.trans hsb.tape, hg.output.trans hsb.output, Nat.le_trans hsb.size hg.size, fun x hx hn => (hg.block x (Nat.lt_of_lt_of_le hx hsb.size) hn).trans (hsb.block x hx)⟩
  have hk : ∀ x, L1.own fb x -> w'.heap[x]? = w.heap[x]? := fun x hx => hgw.block x (hF.lt hx) fun e => by
    have := (hrow0.lt x e.symm).1
    have := hown x hx
    omega
  have hF' := hF.kept hk
  refine ⟨Mi, ri ++ [a], rr, ?_, ⟨hgw.os.trans hS.os, hgw.tape.trans hS.tape, hgw.output.trans hS.output, Nat.le_trans hS.size hgw.size, fun x hx hn => ?_, hS.own⟩, Nat.le_trans hB hgw.size, ?_, by rw [hr, List.append_assoc]; rfl, by rw [List.length_append]; exact Nat.succ_le_succ hl, hrun⟩
  . exact ⟨hF'.hp, hF'.mn.mono (Nat.le_succ _), hF'.ms.mono (Nat.le_succ _), hF'.ra, hF'.rn, hF'.ne⟩
  . refine (hgw.block x (Nat.lt_of_lt_of_le hx hS.size) fun e => ?_).trans (hS.blk x hx hn)
    have := (hrow0.lt x e.symm).1
    omega
  . rw [List.length_append, List.flatMap_append]
    simpa using hrow
set_option maxRecDepth 1000000 in
set_option maxHeartbeats 4000000 in
theorem sync_dir (h : FsAt W fb L s) (hoff : s.off = false) {p : ByteArray} (hp : PathOk p) (hpne : ¬ p = ⟨#[]⟩) (hf : FolIs s s.now p) {U : ByteArray -> ByteArray} (hU : ∀ a ∈ s.acts, UpIs a.path (U a.path) /\ (a.kind = 2 -> UpIs a.to (U a.to))) {r : List Ac} {M : Nm} (hr : SRun s.nodes U p s.acts s.sure r M) (hk : s.k <= 1000) (ha : s.acts.length <= 1000) :
    Calls Tryz.prog 43 #[pt fb, .string p] W fun e w' => e = .returned (.int .i64 0) /\ FsTo W fb L { s with sure := M, acts := r, k := s.k + s.acts.length } w' := by
  obtain ⟨i0, hi0, hz0, hz1, hz2⟩ := info_parts info67
  have hde := dead_calls h
  rw [hoff] at hde
  have hX := Lib.hid (And.intro hde (And.intro h (And.intro hf hp)))
  have hB := Lib.hid (And.intro hk ha)
  have hUH := Lib.hid hU
  have hr0 := Lib.hid hr
  obtain ⟨hne1, hne2⟩ := ne_str hpne
  clear hpne hp
  clear hde h hoff hf hU hr hk ha
  go_enter Tryz.func43, Tryz.ntmps43
  go_wp2_with (first
    | (go_at_call 46; refine hX.out.1.mono ?_; rintro r1 w1 ⟨rfl, hw⟩; rw [hw]; clear hw)
    | (go_at_call 69; refine (hX.out.2.2.2 _).mono ?_; rintro r1 w1 ⟨rfl, hb⟩; have hS1 := Lib.hid hb; clear hb)
    | (go_at_call 31; refine (fol_ok (hX.out.2.1.below hS1.out) hX.out.2.2.1).mono ?_; rintro r1 w3 ⟨rfl, hw⟩; rw [hw]; clear hw)
    | (go_at_call 34; refine (step_calls (hX.out.2.1.below hS1.out)).mono ?_; rintro r1 w4 ⟨rfl, L1, h4, hs4⟩; have c2 := h4.c2; obtain ⟨oa, capa, hva⟩ := h4.avf; rw [hva] at c2; have hvH := Lib.hid hva; have hS4 := Lib.hid ((Stp.below (L.own fb) hS1.out).trans hs4); have h4H := Lib.hid h4; clear h4 hs4 hva))
  go_loopw [32, 6, 8] (fun i v _ wr => ∃ k : Nat, k <= s.acts.length /\ i = .int .i64 (k : Int) /\ SyIn W fb L L1 s w4.heap.size U p r M k v wr) (fun i _ _ _ => s.acts.length - (RowKit.intOf i).toNat)
  case atStart =>
    exact ⟨0, Nat.zero_le _, rfl, s.sure, [], r, h4H.out, hS4.out, Nat.le_refl _, World.ownsRow_nil _ _ _ _, rfl, Nat.le_refl _, hr0.out⟩
  case round =>
    obtain ⟨k, hk, rfl, Mi, ri, rr, hF, hSt, hBr, hrow, hrr, hl, hrun⟩ := hrel
    replace hF := Lib.hid hF
    replace hSt := Lib.hid hSt
    replace hBr := Lib.hid hBr
    replace hrow := Lib.hid hrow
    replace hrr := Lib.hid hrr
    replace hl := Lib.hid hl
    have hk1000 : k <= 1000 := Nat.le_trans hk hB.out.2
    by_cases hlt : k < s.acts.length
    . have hlt' : (k : Int) < (s.acts.length : Int) := by omega
      obtain ⟨a, hae⟩ : ∃ a, a = s.acts[k] := ⟨_, rfl⟩
      have hak : s.acts[k]? = some a := by rw [hae]; exact List.getElem?_eq_getElem hlt
      have ham : a ∈ s.acts := List.mem_of_getElem? hak
      rw [drop_get hlt, <- hae] at hrun
      obtain ⟨g, rfl, a0, a1, a2, a3⟩ := hF.out.act hvH.out (k := k) hak
      have hu12 := hUH.out a ham
      clear hae hak ham
      by_cases hp1 : U a.path = p
      . rw [hp1] at hu12
        have hu1 := Lib.hid hu12.1
        obtain ⟨M1, hdd, hn⟩ : ∃ M1, DoAll s.nodes Mi a M1 /\ SRun s.nodes U p (s.acts.drop (k + 1)) M1 rr M := by
          cases hrun with
          | hit hh d n => exact ⟨_, d, n⟩
          | miss hh n => exact absurd (Or.inl hp1) hh
        replace hdd := Lib.hid hdd
        replace hn := Lib.hid hn
        clear hrun hu12 hp1
        go_wp2_with (go_at_call 32; refine (hu1.out _).mono ?_; rintro r1 w5 ⟨rfl, hb⟩; obtain ⟨b0, b1, b2, b3⟩ := box4 hb; have hS5 := Lib.hid hb; clear hb)
        have hdo : Hid (∀ w', Sb wr w' -> Calls Tryz.prog 48 #[.map (some L1.bs), .agg #[.int .i64 (a.kind : Int), .string a.path, .string a.to, .int .i64 (a.node : Int)], dirV fb] w' fun e w'' => (∃ v, e = .returned v) /\ MapTo w' L1.bs (s.k + k + 1) M1 w'') := Lib.hid fun w' hb =>
          hdd.out { s with sure := Mi, k := s.k + k } rfl w' fb L1 L1.bs (s.k + k) (hF.out.below hb) (hF.out.ms.kept (Sb.blk hb _ hF.out.ms.lt)) (by have := hB.out; omega)
        have hbs : Hid (L1.bs < w4.heap.size) := Lib.hid (h4H.out.lt (.inr (.inr (.inl rfl))))
        have hk15 : Hid (∀ w', Sb w5 w' -> w'.cell? ⟨fb, 1, none⟩ = some (.map (some L1.bs)) /\ w'.cell? ⟨wr.heap.size, 0, none⟩ = some (.int .i64 (a.kind : Int)) /\ w'.cell? ⟨wr.heap.size, 1, none⟩ = some (.string a.path) /\ w'.cell? ⟨wr.heap.size, 2, none⟩ = some (.string a.to) /\ w'.cell? ⟨wr.heap.size, 3, none⟩ = some (.int .i64 (a.node : Int))) := Lib.hid fun w' hb =>
          ⟨(hF.out.below (Sb.trans (Sb.trans (Sb.alloc (Sb.refl wr) _) hS5.out) hb)).c1, box4 (Sb.trans hS5.out hb)⟩
        have hk15g : Hid (∀ w1 w', Sb w5 w1 -> w1.grownBy w' (some L1.bs) -> w'.cell? ⟨fb, 1, none⟩ = some (.map (some L1.bs)) /\ w'.cell? ⟨wr.heap.size, 0, none⟩ = some (.int .i64 (a.kind : Int)) /\ w'.cell? ⟨wr.heap.size, 1, none⟩ = some (.string a.path) /\ w'.cell? ⟨wr.heap.size, 2, none⟩ = some (.string a.to) /\ w'.cell? ⟨wr.heap.size, 3, none⟩ = some (.int .i64 (a.node : Int))) := Lib.hid fun w1 w' hb hg => by
          have hb1 := Sb.trans (Sb.trans (Sb.alloc (Sb.refl wr) (.cells #[.int .i64 (a.kind : Int), .string a.path, .string a.to, .int .i64 (a.node : Int)] 67)) hS5.out) hb
          refine ⟨?_, box4g (Sb.trans hS5.out hb) hg (by have := hBr.out; have := hbs.out; omega)⟩
          have e2 : w'.heap[fb]? = _ := (hg.block _ (Nat.lt_of_lt_of_le (hF.out.lt (.inl rfl)) hb1.siz) (fun e => hF.out.fbs (by injection e))).trans ((hF.out.below hb1).hp)
          rw [Lib.cell_of_heap e2]; rfl
        go_region_held3 (fun w' => w'.cell? ⟨fb, 1, none⟩ = some (.map (some L1.bs)) /\ w'.cell? ⟨wr.heap.size, 0, none⟩ = some (.int .i64 (a.kind : Int)) /\ w'.cell? ⟨wr.heap.size, 1, none⟩ = some (.string a.path) /\ w'.cell? ⟨wr.heap.size, 2, none⟩ = some (.string a.to) /\ w'.cell? ⟨wr.heap.size, 3, none⟩ = some (.int .i64 (a.node : Int)))
          (first
            | exact hk15.out _ (Sb.drew (Sb.refl _))
            | exact hk15g.out _ _ (Sb.drew (Sb.refl _)) (by assumption))
          ((go_at_call 48; refine (hdo.out _ (Sb.drew (Sb.trans (Sb.alloc (Sb.refl wr) _) hS5.out))).mono ?_; rintro r1 w6 ⟨⟨v6, rfl⟩, hM6⟩; have hg6 := hM6.2))
        rename_i hHeld
        have hM6' := Lib.hid hM6
        clear hHeld hg6 hM6
        go_wp2
        go_roundw
        case rel => exact ⟨k + 1, hlt, by go_num, SyIn.next_hit hF.out hSt.out hBr.out hrow.out hrr.out hl.out hn.out hbs.out (Sb.drew (Sb.trans (Sb.alloc (Sb.refl wr) _) hS5.out)) hM6'.out⟩
        case measure => simp [RowKit.intOf]; omega
      . have hs1 := str_ne hp1
        have hu1 := Lib.hid hu12.1
        by_cases hk2 : a.kind = 2
        . have hk2' : (a.kind : Int) = 2 := by omega
          have hu2 := Lib.hid (hu12.2 hk2)
          by_cases hp2 : U a.to = p
          . rw [hp2] at hu2
            obtain ⟨M1, hdd, hn⟩ : ∃ M1, DoAll s.nodes Mi a M1 /\ SRun s.nodes U p (s.acts.drop (k + 1)) M1 rr M := by
              cases hrun with
              | hit hh d n => exact ⟨_, d, n⟩
              | miss hh n => exact absurd (Or.inr ⟨hk2, hp2⟩) hh
            replace hdd := Lib.hid hdd
            replace hn := Lib.hid hn
            clear hrun hu12 hp1 hp2 hk2
            rw [hk2'] at a0
            go_wp2_with (first
              | (go_at_call 32; refine (hu1.out _).mono ?_; rintro r1 w5 ⟨rfl, hb⟩; obtain ⟨b0, b1, b2, b3⟩ := box4 hb; have hS5 := Lib.hid hb; clear hb)
              | (go_at_call 32; refine (hu2.out _).mono ?_; rintro r1 w55 ⟨rfl, hb⟩; obtain ⟨b0, b1, b2, b3⟩ := box4 (Sb.trans hS5.out hb); have hS55 := Lib.hid (Sb.trans hS5.out hb); clear hb))
            have hdo : Hid (∀ w', Sb wr w' -> Calls Tryz.prog 48 #[.map (some L1.bs), .agg #[.int .i64 2, .string a.path, .string a.to, .int .i64 (a.node : Int)], dirV fb] w' fun e w'' => (∃ v, e = .returned v) /\ MapTo w' L1.bs (s.k + k + 1) M1 w'') := Lib.hid fun w' hb =>
              (by have := hdd.out { s with sure := Mi, k := s.k + k } rfl w' fb L1 L1.bs (s.k + k) (hF.out.below hb) (hF.out.ms.kept (Sb.blk hb _ hF.out.ms.lt)) (by have := hB.out; omega); rw [ac_val2 hk2'] at this; exact this)
            have hbs : Hid (L1.bs < w4.heap.size) := Lib.hid (h4H.out.lt (.inr (.inr (.inl rfl))))
            have hk15 : Hid (∀ w', Sb w55 w' -> w'.cell? ⟨fb, 1, none⟩ = some (.map (some L1.bs)) /\ w'.cell? ⟨wr.heap.size, 0, none⟩ = some (.int .i64 2) /\ w'.cell? ⟨wr.heap.size, 1, none⟩ = some (.string a.path) /\ w'.cell? ⟨wr.heap.size, 2, none⟩ = some (.string a.to) /\ w'.cell? ⟨wr.heap.size, 3, none⟩ = some (.int .i64 (a.node : Int))) := Lib.hid fun w' hb =>
              ⟨(hF.out.below (Sb.trans (Sb.trans (Sb.alloc (Sb.refl wr) _) hS55.out) hb)).c1, box4 (Sb.trans hS55.out hb)⟩
            have hk15g : Hid (∀ w1 w', Sb w55 w1 -> w1.grownBy w' (some L1.bs) -> w'.cell? ⟨fb, 1, none⟩ = some (.map (some L1.bs)) /\ w'.cell? ⟨wr.heap.size, 0, none⟩ = some (.int .i64 2) /\ w'.cell? ⟨wr.heap.size, 1, none⟩ = some (.string a.path) /\ w'.cell? ⟨wr.heap.size, 2, none⟩ = some (.string a.to) /\ w'.cell? ⟨wr.heap.size, 3, none⟩ = some (.int .i64 (a.node : Int))) := Lib.hid fun w1 w' hb hg => by
              have hb1 := Sb.trans (Sb.trans (Sb.alloc (Sb.refl wr) (.cells #[.int .i64 2, .string a.path, .string a.to, .int .i64 (a.node : Int)] 67)) hS55.out) hb
              refine ⟨?_, box4g (Sb.trans hS55.out hb) hg (by have := hBr.out; have := hbs.out; omega)⟩
              have e2 : w'.heap[fb]? = _ := (hg.block _ (Nat.lt_of_lt_of_le (hF.out.lt (.inl rfl)) hb1.siz) (fun e => hF.out.fbs (by injection e))).trans ((hF.out.below hb1).hp)
              rw [Lib.cell_of_heap e2]; rfl
            go_region_held3 (fun w' => w'.cell? ⟨fb, 1, none⟩ = some (.map (some L1.bs)) /\ w'.cell? ⟨wr.heap.size, 0, none⟩ = some (.int .i64 2) /\ w'.cell? ⟨wr.heap.size, 1, none⟩ = some (.string a.path) /\ w'.cell? ⟨wr.heap.size, 2, none⟩ = some (.string a.to) /\ w'.cell? ⟨wr.heap.size, 3, none⟩ = some (.int .i64 (a.node : Int)))
              (first
                | exact hk15.out _ (Sb.drew (Sb.refl _))
                | exact hk15g.out _ _ (Sb.drew (Sb.refl _)) (by assumption))
              ((go_at_call 48; refine (hdo.out _ (Sb.drew (Sb.trans (Sb.alloc (Sb.refl wr) _) hS55.out))).mono ?_; rintro r1 w6 ⟨⟨v6, rfl⟩, hM6⟩; have hg6 := hM6.2))
            rename_i hHeld
            have hM6' := Lib.hid hM6
            clear hHeld hg6 hM6
            go_wp2
            go_roundw
            case rel => exact ⟨k + 1, hlt, by go_num, SyIn.next_hit hF.out hSt.out hBr.out hrow.out hrr.out hl.out hn.out hbs.out (Sb.drew (Sb.trans (Sb.alloc (Sb.refl wr) _) hS55.out)) hM6'.out⟩
            case measure => simp [RowKit.intOf]; omega
          . have hs2 := str_ne hp2
            obtain ⟨rs, hrs, hn⟩ : ∃ rs, rr = a :: rs /\ SRun s.nodes U p (s.acts.drop (k + 1)) Mi rs M := by
              cases hrun with
              | hit hh d n => exact absurd hh (fun hh => hh.elim hp1 fun hh => hp2 hh.2)
              | miss hh n => exact ⟨_, rfl, n⟩
            subst hrs
            replace hn := Lib.hid hn
            clear hrun hu12 hp1 hp2 hk2
            rw [hk2'] at a0
            go_wp2_with (first
              | (go_at_call 32; refine (hu1.out _).mono ?_; rintro r1 w5 ⟨rfl, hb⟩; obtain ⟨b0, b1, b2, b3⟩ := box4 hb; have hS5 := Lib.hid hb; clear hb)
              | (go_at_call 32; refine (hu2.out _).mono ?_; rintro r1 w55 ⟨rfl, hb⟩; obtain ⟨b0, b1, b2, b3⟩ := box4 (Sb.trans hS5.out hb); have hS55 := Lib.hid (Sb.trans hS5.out hb); clear hb)
              | (at_builtin; go_loud (refine wpList_append_lies _ rfl _ _ _ rfl w4.heap.size 67 i0 _ 4 48 Tryz.underlying55 hi0 hz0 hz1 hz2 rfl (by omega) u6 ri.length (ri.flatMap Ac.cells) rfl (hrow.out.kept ((Sb.alloc (Sb.trans (Sb.alloc (Sb.refl wr) _) hS55.out) _).grown none) (by cases u6.ownBlock <;> simp)) ⟨w55.heap.size, 0, none⟩ 1 1 [.int .i64 2, .string a.path, .string a.to, .int .i64 (a.node : Int)] rfl rfl (World.news_of_block (cs := #[.int .i64 2, .string a.path, .string a.to, .int .i64 (a.node : Int)]) (t := 67) (fr := (0, 0)) (heap_alloc_new w55 _)) (by intro u hu; simp at hu; rcases hu with rfl | rfl | rfl | rfl <;> rfl) (by omega) (by unfold maxLen; have := hB.out; have := hl.out; omega) (by have := hB.out; have := hl.out; omega) (Nat.le_trans hBr.out (Nat.le_trans (Sb.siz (Sb.trans (Sb.alloc (Sb.refl wr) _) hS55.out)) (by simp))) (w55.heap.size + 1) (by simp) ?_; intro gg cap6 w6 hown6 hgrow hat hlt6; rw [<- ac_cells2 hk2'] at hown6; have hfin := Lib.hid (SyIn.next_miss hF.out hSt.out hBr.out hrow.out hrr.out hl.out hn.out (fun x hx => h4H.out.lt hx) (hS4.out.size) (Sb.alloc (Sb.trans (Sb.alloc (Sb.refl wr) _) hS55.out) _) hown6 hgrow); clear hown6 hgrow hat hlt6)))
            go_roundw
            case rel => exact ⟨k + 1, hlt, by go_num, hfin.out⟩
            case measure => simp [RowKit.intOf]; omega
        . have hk2' : ¬ (a.kind : Int) = 2 := by omega
          obtain ⟨rs, hrs, hn⟩ : ∃ rs, rr = a :: rs /\ SRun s.nodes U p (s.acts.drop (k + 1)) Mi rs M := by
            cases hrun with
            | hit hh d n => exact absurd hh (fun hh => hh.elim hp1 fun hh => hk2 hh.1)
            | miss hh n => exact ⟨_, rfl, n⟩
          subst hrs
          replace hn := Lib.hid hn
          clear hrun hu12 hp1 hk2
          go_wp2_with (first
            | (go_at_call 32; refine (hu1.out _).mono ?_; rintro r1 w5 ⟨rfl, hb⟩; obtain ⟨b0, b1, b2, b3⟩ := box4 hb; have hS5 := Lib.hid hb; clear hb)
            | (at_builtin; go_loud (refine wpList_append_lies _ rfl _ _ _ rfl w4.heap.size 67 i0 _ 4 48 Tryz.underlying55 hi0 hz0 hz1 hz2 rfl (by omega) u6 ri.length (ri.flatMap Ac.cells) rfl (hrow.out.kept ((Sb.alloc (Sb.trans (Sb.alloc (Sb.refl wr) _) hS5.out) _).grown none) (by cases u6.ownBlock <;> simp)) ⟨w5.heap.size, 0, none⟩ 1 1 a.cells rfl rfl (World.news_of_block (cs := #[.int .i64 (a.kind : Int), .string a.path, .string a.to, .int .i64 (a.node : Int)]) (t := 67) (fr := (0, 0)) (heap_alloc_new w5 _)) (by intro u hu; simp [Ac.cells] at hu; rcases hu with rfl | rfl | rfl | rfl <;> rfl) (by omega) (by unfold maxLen; have := hB.out; have := hl.out; omega) (by have := hB.out; have := hl.out; omega) (Nat.le_trans hBr.out (Nat.le_trans (Sb.siz (Sb.trans (Sb.alloc (Sb.refl wr) _) hS5.out)) (by simp))) (w5.heap.size + 1) (by simp) ?_; intro gg cap6 w6 hown6 hgrow hat hlt6; have hfin := Lib.hid (SyIn.next_miss hF.out hSt.out hBr.out hrow.out hrr.out hl.out hn.out (fun x hx => h4H.out.lt hx) (hS4.out.size) (Sb.alloc (Sb.trans (Sb.alloc (Sb.refl wr) _) hS5.out) _) hown6 hgrow); clear hown6 hgrow hat hlt6)))
          go_roundw
          case rel => exact ⟨k + 1, hlt, by go_num, hfin.out⟩
          case measure => simp [RowKit.intOf]; omega
    . have hlt' : ¬ (k : Int) < (s.acts.length : Int) := by omega
      obtain rfl : k = s.acts.length := by omega
      have hrr' : r = ri /\ M = Mi := by
        rw [List.drop_length] at hrun
        cases hrun
        exact ⟨by rw [hrr.out, List.append_nil], rfl⟩
      have hrrH := Lib.hid hrr'
      have f2 := hF.out.fz 2
      have c2r := hF.out.c2
      clear hrun hrr'
      obtain ⟨ov, cv, rfl⟩ := row_form hrow.out
      go_wp2
      go_ret
      have hnew := hF.out.setAv (v := .slice ov ri.length cv) (acts := ri) (World.grownBy.refl _ _) (hrow.out.mono (Nat.zero_le _))
      refine ⟨rfl, { L1 with av := .slice ov ri.length cv }, ?_, (hSt.out.trans (Stp.set (P := L1.own fb) (.inl rfl) _)).trans' ?_⟩
      . rw [hrrH.out.1, hrrH.out.2]
        exact hnew
      . intro x hx
        rcases hx with hx | hx | hx | hx | hx
        . exact .inl (.inl hx)
        . exact .inl (.inr (.inl hx))
        . exact .inl (.inr (.inr (.inl hx)))
        . exact .inr (Nat.le_trans hS4.out.size (hrow.out.lt x hx).1)
        . exact .inl (.inr (.inr (.inr (.inr hx))))
end
end Go.Proofs
