/- New, Open; a path that is none. -/
import Derived.Test.YthnojgpobfpgeaaGreatDoorTLsE
import Derived.SliceStrings
import Derived.ChangeSlices
set_option linter.unusedVariables false
set_option linter.unusedSimpArgs false
namespace Go.Proofs
open Go.RowKit Go.Ev Go.Lib Go.Shelf
attribute [local go_sem] Oper.semAt_some
def noS : St := ⟨fun _ => none, fun _ => none, [], [], 1048576, false, 0⟩
def noL (n : Nat) : Lay := ⟨n, n + 1, .slice none 0 0, .slice none 0 0, 0⟩
theorem mapF_made (w : World) {b : Nat} (h : w.heap[b]? = some (.map #[] 0)) : MapF w b 0 (fun _ => none) := by
  have h0 := World.ownsMap_made w Tryz.prog 9 (plainElem (H := Unit) Tryz.prog 3)
  obtain ⟨es, clock, h1, h2, h3, h4⟩ := h0
  rw [heap_alloc_new] at h1
  injection h1 with h1
  injection h1 with h1 h1'
  subst h1 h1'
  exact ⟨.map [], ⟨#[], 0, h, h2, h3, h4⟩, view_empty⟩
set_option maxRecDepth 1000000 in
theorem vnew_calls (W : World) : Calls Tryz.prog 15 #[.int .i64 1048576] W fun e w' => e = .returned (.tuple #[pt (W.heap.size + 2), .int .i64 0]) /\ FsAt w' (W.heap.size + 2) (noL W.heap.size) noS /\ Sb W w' := by
  have hmm := @run_makeMap Tryz.prog
  go_enter Tryz.func15, Tryz.ntmps15
  go_wp2
  go_ret2
  refine ⟨rfl, ?_, Sb.alloc (Sb.alloc (Sb.alloc (Sb.refl _) _) _) _⟩
  have g0 : ((W.alloc (.map #[] 0)).alloc (.map #[] 0)).heap.size = W.heap.size + 2 := by simp
  have k0 : ((W.alloc (.map #[] 0)).alloc (.map #[] 0)).heap[W.heap.size]? = some (.map #[] 0) := (hao (by simp)).trans (heap_alloc_new W _)
  have k1 : ((W.alloc (.map #[] 0)).alloc (.map #[] 0)).heap[W.heap.size + 1]? = some (.map #[] 0) := by
    have := heap_alloc_new (W.alloc (.map #[] 0)) (.map #[] 0)
    rwa [show (W.alloc (.map #[] 0)).heap.size = W.heap.size + 1 by simp] at this
  refine ⟨?_, mapF_made _ ((hao (by rw [g0]; show W.heap.size < _; omega)).trans k0), mapF_made _ ((hao (by rw [g0]; show W.heap.size + 1 < _; omega)).trans k1), World.ownsRow_nil _ _ _ _, World.ownsRow_nil _ _ _ _, by show W.heap.size ≠ W.heap.size + 1; omega⟩
  have := heap_alloc_new ((W.alloc (.map #[] 0)).alloc (.map #[] 0)) (.cells #[.map (some W.heap.size), .map (some (W.heap.size + 1)), .slice none 0 0, .slice none 0 0, .int .i64 1048576, .int .i64 0, .slice none 0 0, .bool false] 59)
  rw [g0] at this
  exact this
theorem open_state : LS { newS noS OB ⟨true, ⟨#[]⟩, ⟨#[]⟩⟩ with sure := putF' (fun _ => none) OB 0, acts := [], k := 2 } [] [] false 0 1 2 := by
  have hg : ∀ i, Good (putF' (fun _ => none) OB 0) [⟨true, ⟨#[]⟩, ⟨#[]⟩⟩] [] [] i := fun i => by
    refine ⟨⟨0, if_pos rfl, _, rfl, rfl⟩, fun id hi => (by cases hi), fun id hi => (by cases hi), fun p j hj => ?_, fun id hi => (by cases hi), fun id hi => (by cases hi)⟩
    unfold putF' at hj
    split at hj
    . rename_i e; exact .inl e
    . cases hj
  exact ⟨hg false, hg true, fun d hd => (by rw [List.mem_singleton.1 hd]), fun d hd => (by rw [List.mem_singleton.1 hd]; exact Nat.zero_le _), fun a ha => (by cases ha), rfl, rfl, Nat.le_refl _, Nat.le_refl _, Nat.le_refl _, Nat.le_refl _, Nat.zero_le _⟩
section
variable {W : World} {fb : Nat} {L : Lay} {s : St} {Fs A : List (List UInt8)} {i : Bool} {na nn nk : Nat}
set_option maxRecDepth 1000000 in
set_option maxHeartbeats 1000000 in
theorem open_ready (h : FsAt W fb L noS) : Calls Tryz.prog 41 #[pt fb, .string OB, .string NB] W fun e w' => e = .returned (.int .i64 0) /\ LsTo W fb L [] [] false 0 1 2 w' := by
  have hfr : FolIs noS noS.now NB := ⟨by decide, .inl ⟨rfl, rfl⟩⟩
  have hm := Lib.hid (mkdir_new h rfl OB_ok (by decide) OB_up hfr rfl (by decide) (by decide) (by decide))
  have hsy : Hid (∀ w1 L1, FsAt w1 fb L1 (newS noS OB ⟨true, ⟨#[]⟩, ⟨#[]⟩⟩) -> Stp W (L.own fb) w1 (L1.own fb) -> Calls Tryz.prog 43 #[pt fb, .string NB] w1 fun e w' => e = .returned (.int .i64 0) /\ LsTo W fb L [] [] false 0 1 2 w') := Lib.hid fun w1 L1 h1 hs1 => by
    have hnb : putF' (fun _ => none) OB 0 NB = none := if_neg (by decide)
    have hrun : SRun (newS noS OB ⟨true, ⟨#[]⟩, ⟨#[]⟩⟩).nodes UB NB (newS noS OB ⟨true, ⟨#[]⟩, ⟨#[]⟩⟩).acts (fun _ => none) [] (putF' (fun _ => none) OB 0) := by
      refine .hit (a := .comes OB 0) (l := []) (r := []) (.inl UB_O) (fun s' hs' => DoOk.comes (p := OB) (by decide) rfl (by decide) ⟨NB, OB_up, by decide, .inl rfl⟩) (.nil _)
    have hac : ∀ a ∈ (newS noS OB ⟨true, ⟨#[]⟩, ⟨#[]⟩⟩).acts, a = .comes OB 0 := fun a ha => List.mem_singleton.1 ha
    refine (sync_root h1 rfl (U := UB) (r := []) (M := putF' (fun _ => none) OB 0) ⟨by decide, .inl ⟨rfl, hnb⟩⟩ (fun a ha => ?_) hrun (by decide) (by decide) (fun a ha => ?_)).mono ?_
    . rw [hac a ha]; exact ⟨OB_up, fun hk => by cases hk⟩
    . rw [hac a ha]; rfl
    . rintro e w' ⟨rfl, L2, h2, hs2⟩
      exact ⟨rfl, _, L2, h2, hs1.trans hs2, open_state⟩
  clear h hfr
  go_enter Tryz.func41, Tryz.ntmps41
  go_wp2_with (first
    | (go_at_call 82; refine hm.out.mono ?_; rintro r w1 ⟨rfl, L1, h1, hs1⟩; have hsy1 := Lib.hid (hsy.out _ _ h1 hs1); clear h1 hs1)
    | (go_at_call 43; refine hsy1.out.mono ?_; rintro r w2 ⟨rfl, hf⟩; have hfH := Lib.hid hf; clear hf))
  go_ret
  exact ⟨rfl, hfH.out⟩
set_option maxRecDepth 1000000 in
theorem open_loose (h : FsAt W fb L noS) : Calls Tryz.prog 16 #[pt fb] W fun e w' => e = .returned (.int .i64 0) /\ LsTo W fb L [] [] false 0 1 2 w' := by
  have hr := Lib.hid (open_ready h)
  have hrm : Hid (∀ w1, LsTo W fb L [] [] false 0 1 2 w1 -> Calls Tryz.prog 42 #[pt fb, .string IB] w1 fun e w' => e = .returned (.int .i64 2) /\ LsTo W fb L [] [] false 0 1 2 w') := Lib.hid fun w1 ⟨s', L', h1, h2, h3⟩ => (remove_no h1 h3.off IB_ok (by decide) h3.now.noInc).mono fun e w' ⟨he, hb⟩ => ⟨he, s', L', h1.below hb, h2.trans (Stp.below _ hb), h3⟩
  clear h
  go_enter Tryz.func16, Tryz.ntmps16
  go_wp2_with (first
    | (go_at_call 41; refine hr.out.mono ?_; rintro r w1 ⟨rfl, hf⟩; have hf1 := Lib.hid hf; clear hf)
    | (go_at_call 42; refine (hrm.out _ hf1.out).mono ?_; rintro r w2 ⟨rfl, hf⟩; have hf2 := Lib.hid hf; clear hf))
  go_ret
  exact ⟨rfl, hf2.out⟩
def LsIn (W : World) (fb : Nat) (Fs A : List (List UInt8)) (i : Bool) (na nn nk : Nat) (w' : World) : Prop := ∃ s' L', FsAt w' fb L' s' /\ Stp W (fun _ => False) w' (L'.own fb) /\ LS s' Fs A i na nn nk
set_option maxRecDepth 1000000 in
theorem open_calls (W : World) : Calls Tryz.prog 6 #[] W fun e w' => e = .returned (.tuple #[pt (W.heap.size + 2), .bool true]) /\ LsIn W (W.heap.size + 2) [] [] false 0 1 2 w' := by
  have hop : Hid (∀ w1, FsAt w1 (W.heap.size + 2) (noL W.heap.size) noS -> Sb W w1 -> Calls Tryz.prog 16 #[pt (W.heap.size + 2)] w1 fun e w' => e = .returned (.int .i64 0) /\ LsIn W (W.heap.size + 2) [] [] false 0 1 2 w') := Lib.hid fun w1 h1 hs => (open_loose h1).mono fun e w' ⟨he, s', L', g1, g2, g3⟩ => ⟨he, s', L', g1, ⟨g2.os.trans hs.os, g2.tape.trans hs.tape, g2.output.trans hs.output, Nat.le_trans hs.siz g2.size, fun k hk _ => (g2.blk k (Nat.lt_of_lt_of_le hk hs.siz) (fun ho => by
      rcases ho with ho | ho | ho | ho | ho
      . omega
      . have : k = W.heap.size := ho; omega
      . have : k = W.heap.size + 1 := ho; omega
      . cases ho
      . cases ho)).trans (hs.block k hk), fun k hk => .inr (by
      rcases g2.own k hk with ho | ho
      . rcases ho with ho | ho | ho | ho | ho
        . omega
        . have : k = W.heap.size := ho; omega
        . have : k = W.heap.size + 1 := ho; omega
        . cases ho
        . cases ho
      . exact Nat.le_trans hs.siz ho)⟩, g3⟩
  go_enter Tryz.func6, Tryz.ntmps6
  go_wp2_with (first
    | (go_at_call 15; refine (vnew_calls _).mono ?_; rintro r w1 ⟨rfl, hf, hs⟩; have hop1 := Lib.hid (hop.out _ hf hs); clear hf hs)
    | (go_at_call 16; refine hop1.out.mono ?_; rintro r w2 ⟨rfl, hf⟩; have hf2 := Lib.hid hf; clear hf))
  go_ret2
  exact ⟨rfl, hf2.out⟩
set_option maxRecDepth 1000000 in
theorem path_none (w : World) : Calls Tryz.prog 69 #[.string NB] w fun e w' => e = .returned (.bool false) /\ w' = w := by
  go_enter Tryz.func69, Tryz.ntmps69
  go_wp2
  go_ret
  exact ⟨rfl, rfl⟩
set_option maxRecDepth 1000000 in
theorem lpath_none {p : ByteArray} (hp : ¬ p.size = 32) (w : World) : Calls Tryz.prog 21 #[.string p] w fun e w' => e = .returned (.string NB) /\ w' = w := by
  have h1 : ¬ (p.size : Int) = 32 := by omega
  go_enter Tryz.func21, Tryz.ntmps21
  go_wp2
  go_ret
  exact ⟨rfl, rfl⟩
set_option maxRecDepth 1000000 in
theorem may_none (h : FsAt W fb L s) (hoff : s.off = false) : Calls Tryz.prog 30 #[pt fb, .slice (some ⟨W.heap.size, 0, none⟩) 1 1] (W.alloc (.cells #[.string NB] 9)) fun e w' => e = .returned (.int .i64 30) /\ Below W.heap.size W w' := by
  have h1 := h.below (below_alloc W (.cells #[.string NB] 9))
  have hd : Hid (Calls Tryz.prog 46 #[pt fb] (W.alloc (.cells #[.string NB] 9)) fun e w' => e = .returned (.bool false) /\ w' = W.alloc (.cells #[.string NB] 9)) := Lib.hid (by have := dead_calls h1; rwa [hoff] at this)
  have hcell : (W.alloc (.cells #[.string NB] 9)).cell? ⟨W.heap.size, 0, none⟩ = some (.string NB) := by rw [Lib.cell_of_heap (heap_alloc_new W _)]; rfl
  have hb := Lib.hid (below_alloc W (.cells #[.string NB] 9))
  clear h h1 hoff
  go_enter Tryz.func30, Tryz.ntmps30
  go_wp2_with (go_at_call 46; refine hd.out.mono ?_; rintro r w1 ⟨rfl, hw⟩; rw [hw]; clear hw)
  go_loopw [11, 6] (fun i _ w' => i = .int .i64 0 /\ w' = W.alloc (.cells #[.string NB] 9)) (fun _ _ _ => 0)
  case atStart => exact ⟨rfl, rfl⟩
  case round =>
    obtain ⟨rfl, rfl⟩ := hrel
    go_wp2_with (go_at_call 69; refine (path_none _).mono ?_; rintro r w1 ⟨rfl, hw⟩; rw [hw]; clear hw)
    go_ret
    exact ⟨rfl, hb.out⟩
set_option maxRecDepth 1000000 in
theorem read_none (h : FsAt W fb L s) (hoff : s.off = false) : Calls Tryz.prog 37 #[pt fb, .string NB] W fun e w' => e = .returned (.tuple #[.string NB, .int .i64 30]) /\ Below W.heap.size W w' := by
  have hm := Lib.hid (may_none h hoff)
  have hfi : Hid (Calls Tryz.prog 75 #[pt fb, .string NB] W fun e w' => e = .returned (.tuple #[.int .i64 0, .int .i64 30]) /\ Below W.heap.size W w') := Lib.hid (by
    clear h hoff
    go_enter Tryz.func75, Tryz.ntmps75
    go_wp2_with (go_at_call 30; refine hm.out.mono ?_; rintro r w1 ⟨rfl, hb⟩; have hbH := Lib.hid hb; clear hb)
    go_ret2
    exact ⟨rfl, hbH.out⟩)
  clear h hoff hm
  go_enter Tryz.func37, Tryz.ntmps37
  go_wp2_with (go_at_call 75; refine hfi.out.mono ?_; rintro r w1 ⟨rfl, hb⟩; have hbH := Lib.hid hb; clear hb)
  go_ret2
  exact ⟨rfl, hbH.out⟩
set_option maxRecDepth 1000000 in
theorem get_none (h : FsAt W fb L s) (hoff : s.off = false) {p : ByteArray} (hp : ¬ p.size = 32) : Calls Tryz.prog 12 #[pt fb, .string p] W fun e w' => e = .returned (.tuple #[.string NB, .int .i64 2]) /\ Below W.heap.size W w' := by
  have hr := Lib.hid (read_none h hoff)
  have hl := Lib.hid (lpath_none hp)
  clear h hoff hp
  go_enter Tryz.func12, Tryz.ntmps12
  go_wp2_with (first
    | (go_at_call 21; refine (hl.out _).mono ?_; rintro r w1 ⟨rfl, hw⟩; rw [hw]; clear hw)
    | (go_at_call 37; refine hr.out.mono ?_; rintro r w1 ⟨rfl, hb⟩; have hbH := Lib.hid hb; clear hb))
  go_ret2
  exact ⟨rfl, hbH.out⟩
set_option maxRecDepth 1000000 in
theorem has_none (h : FsAt W fb L s) (hoff : s.off = false) : Calls Tryz.prog 22 #[pt fb, .string NB] W fun e w' => e = .returned (.bool false) /\ Below W.heap.size W w' := by
  have hr := Lib.hid (read_none h hoff)
  have hl := Lib.hid (lpath_none (p := NB) (by decide))
  clear h hoff
  go_enter Tryz.func22, Tryz.ntmps22
  go_wp2_with (first
    | (go_at_call 21; refine (hl.out _).mono ?_; rintro r w1 ⟨rfl, hw⟩; rw [hw]; clear hw)
    | (go_at_call 37; refine hr.out.mono ?_; rintro r w1 ⟨rfl, hb⟩; have hbH := Lib.hid hb; clear hb))
  go_ret
  exact ⟨rfl, hbH.out⟩
end
end Go.Proofs
namespace Go.Proofs
open Go.RowKit Go.Ev Go.Lib Go.Shelf
attribute [local go_sem] Oper.semAt_some
def ArgRow (W : World) (a : Option Addr) (n : Nat) (T : List ByteArray) : Prop := T.length = n /\ n <= 9223372036854775807 /\ ∀ j (h : j < T.length), ∃ ad, a = some ad /\ W.cell? (ad.add j) = some (.string T[j])
section
variable {W : World} {fb : Nat} {Fs A : List (List UInt8)} {i : Bool} {na nn nk : Nat}
theorem LsIn.keep {w : World} (h : LsIn W fb Fs A i na nn nk w) {a : Addr} {v : Value} (hc : W.cell? a = some v) : w.cell? a = some v := by
  obtain ⟨s', L', _, h2, _⟩ := h
  exact (World.cell?_of_block (h2.blk _ (World.block_lt_of_cell? W _ hc) fun hf => hf)).trans hc
theorem LsIn.on {w w' : World} (h : LsIn W fb Fs A i na nn nk w) (hs : Sb w w') : LsIn W fb Fs A i na nn nk w' := by
  obtain ⟨s', L', h1, h2, h3⟩ := h
  exact ⟨s', L', h1.below hs, h2.trans (Stp.below _ hs), h3⟩
theorem put_in {w : World} (h : LsIn W fb Fs A false na nn nk w) (hna : na <= 40) (hnn : nn <= 800) (hnk : nk <= 300) {t : List UInt8} (ht : t.length <= 200) :
    Calls Tryz.prog 8 #[pt fb, .string (ofL (blobL t))] w fun e w' => (∃ id : ByteArray, e = .returned (.tuple #[.string id, .int .i64 0])) /\ ∃ Fs' A', LsIn W fb Fs' A' false (na + 1) (nn + 2) (nk + 2 * na + 6) w' := by
  obtain ⟨s', L', h1, h2, h3⟩ := h
  refine (put_calls h1 h3 hna hnn hnk ht).mono ?_
  rintro e w' ⟨rfl, Fs', A', s2, L2, g1, g2, g3⟩
  exact ⟨⟨_, rfl⟩, Fs', A', s2, L2, g1, h2.trans g2, g3⟩
structure Story (W : World) (fb : Nat) (L : Lay) (A : List (List UInt8)) (id : List UInt8) (P1 P2 P3 P4 : World -> Prop) : Prop where
  drop : Calls Tryz.prog 20 #[pt fb, .string (bt1 id)] W fun e w' => e = .returned (.int .i64 0) /\ P1 w'
  settle : ∀ w, P1 w -> Calls Tryz.prog 23 #[pt fb] w fun e w' => e = .returned (.int .i64 0) /\ P2 w'
  crash : ∀ w, P2 w -> Calls Tryz.prog 18 #[pt fb, .int .u64 0, .int .i64 0] w fun e w' => (∃ v, e = .returned v) /\ P3 w'
  up : ∀ w, P3 w -> Calls Tryz.prog 24 #[pt fb] w fun e w' => (∃ v, e = .returned v) /\ P4 w'
  get : ∀ w, P4 w -> Calls Tryz.prog 12 #[pt fb, .string (bt1 id)] w fun e w' => e = .returned (.tuple #[.string ⟨#[]⟩, .int .i64 2]) /\ P4 w'
  list : ∀ w, P4 w -> Calls Tryz.prog 19 #[pt fb] w fun e w' => ∃ (v : Value) (ids : List (List UInt8)), e = .returned v /\ ids.Nodup /\ (∀ x, x ∈ ids ↔ x ∈ A /\ x ≠ id) /\ StrRow w' w.heap.size v (ids.map bt1) /\ P4 w'
  again : ∀ w, P4 w -> Calls Tryz.prog 20 #[pt fb, .string (bt1 id)] w fun e w' => e = .returned (.int .i64 2) /\ P4 w'
  f1 : ∀ w, P1 w -> ∃ P', Stp W (L.own fb) w P'
  f2 : ∀ w, P2 w -> ∃ P', Stp W (L.own fb) w P'
  f3 : ∀ w, P3 w -> ∃ P', Stp W (L.own fb) w P'
  f4 : ∀ w, P4 w -> ∃ P', Stp W (L.own fb) w P'
theorem story {L : Lay} {s : St} (h : FsAt W fb L s) (hl : LS s Fs A false na nn nk) {id : List UInt8} (hid : id ∈ A) (hna : na <= 10) (hnn : nn <= 30) (hnk : nk <= 300) : ∃ P1 P2 P3 P4, Story W fb L A id P1 P2 P3 P4 := by
  have hidl := hl.now.lenA hid
  have hba := hl.ba
  have hbn := hl.bn
  have hbA := hl.bA
  have hgd := hl.sure.del hidl
  have hno : delF s.sure (PB id) (PB id) = none := if_pos rfl
  have hfil : ∀ x, x ∈ A.filter (fun x => decide (x ≠ id)) ↔ x ∈ A /\ x ≠ id := fun x => by simp
  have hfl : (A.filter fun x => decide (x ≠ id)).length <= 1000 := Nat.le_trans (List.length_filter_le _ _) (by omega)
  refine ⟨fun w => ∃ L', FsAt w fb L' (stP s id (s.k + 1) false) /\ Stp W (L.own fb) w (L'.own fb), fun w => ∃ kk, kk <= 1000 /\ ∃ L', FsAt w fb L' (stP s id kk true) /\ Stp W (L.own fb) w (L'.own fb),
    fun w => ∃ kk, kk <= 1000 /\ ∃ L', FsAt w fb L' { stP s id kk true with now := delF s.sure (PB id), acts := [], off := true } /\ Stp W (L.own fb) w (L'.own fb),
    fun w => ∃ kk, kk <= 1000 /\ ∃ L', FsAt w fb L' { stP s id kk true with now := delF s.sure (PB id), acts := [], off := false } /\ Stp W (L.own fb) w (L'.own fb), ?_⟩
  refine ⟨?_, ?_, ?_, ?_, ?_, ?_, ?_, ?_, ?_, ?_, ?_⟩
  . refine (drop_yes h hl (by omega) (by omega) hid).mono ?_
    rintro e w' ⟨rfl, L', h1, h2⟩
    exact ⟨rfl, L', h1, h2⟩
  . rintro w ⟨L', h1, h2⟩
    refine (settle_calls h1 (Nat.le_refl _) hl hid hna hnn hnk).mono ?_
    rintro e w' ⟨rfl, kk, hk, L2, g1, g2⟩
    exact ⟨rfl, kk, hk, L2, g1, h2.trans g2⟩
  . rintro w ⟨kk, hk, L', h1, h2⟩
    refine (crash_calls h1 hl.off hl.same (by show s.acts.length <= 1000; omega) (by show s.nodes.length <= 1000; omega)).mono ?_
    rintro e w' ⟨he, L2, g1, g2⟩
    exact ⟨he, kk, hk, L2, g1, h2.trans g2⟩
  . rintro w ⟨kk, hk, L', h1, h2⟩
    refine (up_calls h1 rfl).mono ?_
    rintro e w' ⟨he, L2, g1, g2⟩
    exact ⟨he, kk, hk, L2, g1, h2.trans g2⟩
  . rintro w ⟨kk, hk, L', h1, h2⟩
    refine (get_no h1 rfl hidl hno).mono ?_
    rintro e w' ⟨rfl, hb⟩
    exact ⟨rfl, kk, hk, L', h1.below hb, h2.trans (Stp.below _ hb)⟩
  . rintro w ⟨kk, hk, L', h1, h2⟩
    refine (loose_list h1 hgd rfl hk hfl).mono ?_
    rintro e w' ⟨v, ids, rfl, hnd, hm, hrow, hb⟩
    exact ⟨v, ids, rfl, hnd, fun x => (hm x).trans (hfil x), hrow, kk, hk, L', h1.below hb, h2.trans (Stp.below _ hb)⟩
  . rintro w ⟨kk, hk, L', h1, h2⟩
    refine (drop_no h1 rfl hidl hno).mono ?_
    rintro e w' ⟨rfl, hb⟩
    exact ⟨rfl, kk, hk, L', h1.below hb, h2.trans (Stp.below _ hb)⟩
  . rintro w ⟨L', _, h2⟩
    exact ⟨_, h2⟩
  . rintro w ⟨kk, _, L', _, h2⟩
    exact ⟨_, h2⟩
  . rintro w ⟨kk, _, L', _, h2⟩
    exact ⟨_, h2⟩
  . rintro w ⟨kk, _, L', _, h2⟩
    exact ⟨_, h2⟩
theorem Stp.toB {P' : Nat -> Prop} {w : World} (h : Stp W (fun _ => False) w P') : Below W.heap.size W w := ⟨h.os, h.tape, h.output, h.size, fun k hk => h.blk k hk fun hf => hf⟩
theorem fewer {ids ids2 : List (List UInt8)} {id : List UInt8} (h1 : ids.Nodup) (h2 : ids2.Nodup) (hm : ∀ x, x ∈ ids ↔ x ∈ A) (hm2 : ∀ x, x ∈ ids2 ↔ x ∈ A /\ x ≠ id) (hid : id ∈ A) : ids.length = ids2.length + 1 := by
  have hn : (id :: ids2).Nodup := List.nodup_cons.2 ⟨fun h => ((hm2 id).1 h).2 rfl, h2⟩
  have a1 := nodup_len hn (A := ids) fun x hx => (hm x).2 (by
    rcases List.mem_cons.1 hx with rfl | hx
    . exact hid
    . exact ((hm2 x).1 hx).1)
  have a2 := nodup_len h1 (A := id :: ids2) fun x hx => by
    by_cases e : x = id
    . rw [e]; exact List.mem_cons_self ..
    . exact List.mem_cons_of_mem _ ((hm2 x).2 ⟨(hm x).1 hx, e⟩)
  rw [List.length_cons] at a1 a2
  omega
theorem idx_ok (a : Int) {n : Nat} (h : 0 < n) (h8 : n <= 1000) : ∃ (r : Int) (q K : Nat), Int.tmod a (n : Int) = r /\ wrap64 r = r /\ r + (n : Int) = (q : Int) /\ wrap64 (q : Int) = (q : Int) /\ Int.tmod (q : Int) (n : Int) = (K : Int) /\ wrap64 (K : Int) = (K : Int) /\ K < n := by
  have h1 : Int.tmod a (n : Int) < (n : Int) := Int.tmod_lt_of_pos a (by omega)
  have h2 : -(n : Int) < Int.tmod a (n : Int) := by
    have h3 := Int.tmod_lt_of_pos (-a) (show (0 : Int) < (n : Int) by omega)
    rw [Int.neg_tmod] at h3
    omega
  obtain ⟨r, hr⟩ : ∃ r, r = Int.tmod a (n : Int) := ⟨_, rfl⟩
  rw [<- hr] at h1 h2
  refine ⟨r, (r + n).toNat, (r + n).toNat % n, hr.symm, wrapI (by omega) (by omega), by omega, wrapI (by omega) (by omega), rfl, wrapI (by omega) (by have := Nat.mod_lt (r + n).toNat h; omega), Nat.mod_lt _ h⟩
set_option maxRecDepth 1000000 in
set_option maxHeartbeats 4000000 in
theorem drops_calls {a : Option Addr} {n c : Nat} {T : List ByteArray} (hT : ArgRow W a n T) (at0 : Int) :
    Calls Tryz.prog 5 #[.slice a n c, .int .i64 at0] W fun e w' => e = .returned (.bool true) /\ Below W.heap.size W w' := by
  have hop := Lib.hid (open_calls W)
  have haw := Lib.hid (fun w => awake_calls w)
  have hbl := Lib.hid (fun s w => blob_calls s w)
  have hTH := Lib.hid hT
  obtain ⟨hTl, hTm, hTc⟩ := hT
  subst hTl
  generalize hfb : W.heap.size + 2 = fb at hop
  clear hTc hfb
  go_enter Tryz.func5, Tryz.ntmps5
  go_wp2_with (first
    | (go_at_call 6; refine hop.out.mono ?_; rintro r w1 ⟨rfl, hf⟩; have hf1 := Lib.hid hf; clear hf)
    | (go_at_call 11; refine (haw.out _).mono ?_; rintro r w2 ⟨rfl, hb⟩; have hf2 := Lib.hid (hf1.out.on (show Sb w1 w2 from hb)); clear hb))
  go_loopw [7, 8, 9] (fun vi _ _ wr => ∃ (k : Nat) (Fs A : List (List UInt8)), k <= T.length /\ k <= 8 /\ vi = .int .i64 (k : Int) /\ LsIn W fb Fs A false k (2 + 2 * k) (10 + 22 * k) wr) (fun vi _ _ _ => 8 - (RowKit.intOf vi).toNat)
  case atStart =>
    obtain ⟨s', L', h1, h2, h3⟩ := hf2.out
    exact ⟨0, [], [], Nat.zero_le _, Nat.zero_le _, rfl, s', L', h1, h2, h3.wide (Nat.le_refl _) (by omega) (by omega)⟩
  case round =>
    obtain ⟨k, Fs, A, hkT, hk8, rfl, hin⟩ := hrel
    by_cases hlt : k < T.length
    . have hlt' : (k : Int) < (T.length : Int) := by omega
      by_cases hl8 : k < 8
      . have hl8' : (k : Int) < 8 := by omega
        obtain ⟨ad, rfl, hc⟩ := hTH.out.2.2 k hlt
        have hck := hin.keep hc
        obtain ⟨t, ht⟩ : ∃ t : ByteArray, t = T[k] := ⟨_, rfl⟩
        rw [<- ht] at hck
        have hbt := Lib.hid (hbl.out t)
        have hpu : Hid (∀ w, Sb wr w -> Calls Tryz.prog 8 #[pt fb, .string (ofL (blobL (t.data.toList.take 200)))] w fun e w' => (∃ id : ByteArray, e = .returned (.tuple #[.string id, .int .i64 0])) /\ ∃ Fs' A', LsIn W fb Fs' A' false (k + 1) (2 + 2 * k + 2) (10 + 22 * k + 2 * k + 6) w') := Lib.hid fun w hs => put_in (hin.on hs) (by omega) (by omega) (by omega) (by rw [List.length_take]; omega)
        generalize ofL (blobL (t.data.toList.take 200)) = B at hbt hpu
        clear hin hc ht
        go_wp2_with (first
          | (go_at_call 7; go_loud (refine (hbt.out _).mono ?_); rintro r w4 ⟨rfl, hb⟩; have hS4 : Hid (Sb wr w4) := Lib.hid hb; clear hb)
          | (go_at_call 8; go_loud (refine (hpu.out _ hS4.out).mono ?_); rintro r w5 ⟨⟨id5, rfl⟩, Fs5, A5, hf⟩; have hf5 := Lib.hid hf; clear hf))
        go_roundw
        case rel =>
          obtain ⟨s', L', g1, g2, g3⟩ := hf5.out
          exact ⟨k + 1, Fs5, A5, hlt, hl8, by go_num, s', L', g1, g2, g3.wide (Nat.le_refl _) (by omega) (by omega)⟩
        case measure => simp [RowKit.intOf]; omega
      . have hl8' : ¬ (k : Int) < 8 := by omega
        obtain ⟨s, L1, h, st, hl⟩ := hin
        have hA8 : A.length <= 8 := Nat.le_trans hl.bA hk8
        have hbk := hl.bk
        have hbn := hl.bn
        have hli := Lib.hid (loose_list h hl.now hl.off (by omega) (by omega))
        have hH := Lib.hid (And.intro h (And.intro st hl))
        have hNo : Hid (A = [] -> ∀ w, Sb wr w -> (Calls Tryz.prog 12 #[pt fb, .string ⟨#[110, 111, 32, 105, 100]⟩] w fun e w' => e = .returned (.tuple #[.string NB, .int .i64 2]) /\ Below w.heap.size w w') /\ (Calls Tryz.prog 20 #[pt fb, .string (bt1 (shaF []))] w fun e w' => e = .returned (.int .i64 2) /\ Below w.heap.size w w') /\ (Calls Tryz.prog 22 #[pt fb, .string NB] w fun e w' => e = .returned (.bool false) /\ Below w.heap.size w w')) := Lib.hid fun hA0 w hs =>
          ⟨get_none (h.below hs) hl.off (by decide), drop_no (h.below hs) hl.off (shaF_len _) (hl.now.noFil (shaF_len _) (by rw [hA0]; simp)), has_none (h.below hs) hl.off⟩
        have hrid : Hid (∀ w, Calls Tryz.prog 14 #[.string NB] w fun e w' => e = .returned (.string (bt1 (shaF []))) /\ Below w.heap.size w w') := Lib.hid fun w => rid_any rid_n w
        have hlp : Hid (∀ w, Calls Tryz.prog 21 #[.string ⟨#[110, 111, 32, 105, 100]⟩] w fun e w' => e = .returned (.string NB) /\ w' = w) := Lib.hid fun w => lpath_none (by decide) w
        have hk28 : Hid (k <= 8) := Lib.hid hk8
        clear h st hl hbk hbn
        go_wp2_with (fail)
        refine hli.out.mono ?_
        rintro r w6 ⟨v6, ids, rfl, hnd, hmem, hrow, hb⟩
        obtain ⟨oi, ci, rfl⟩ := StrRow.form hrow
        rw [List.length_map] at hrow ⊢
        have hS6 : Hid (Sb wr w6) := Lib.hid hb
        have hidH := Lib.hid (And.intro hnd (And.intro hmem hrow))
        clear hnd hmem hrow hb
        by_cases h0 : ids.length = 0
        . have h0i : (ids.length : Int) = 0 := by omega
          have hA0 : A = [] := by
            rcases List.eq_nil_or_concat A with e | ⟨l, x, e⟩
            . exact e
            . have hx : x ∈ ids := (hidH.out.2.1 x).2 (by rw [e]; simp)
              rw [List.length_eq_zero_iff.1 h0] at hx
              cases hx
          have hN := Lib.hid (hNo.out hA0)
          clear hA0
          rw [h0]
          go_wp2_with (first
            | (go_at_call 12; refine (hN.out _ hS6.out).1.mono ?_; rintro r w7 ⟨rfl, hb⟩; have hS7 := Lib.hid (Sb.trans hS6.out hb); clear hb)
            | (go_at_call 14; refine (hrid.out _).mono ?_; rintro r w8 ⟨rfl, hb⟩; have hS8 := Lib.hid (Sb.trans hS7.out hb); clear hb)
            | (go_at_call 20; refine (hN.out _ hS8.out).2.1.mono ?_; rintro r w9 ⟨rfl, hb⟩; have hS9 := Lib.hid (Sb.trans hS8.out hb); clear hb)
            | (go_at_call 21; refine (hlp.out _).mono ?_; rintro r w10 ⟨rfl, hw⟩; rw [hw]; clear hw)
            | (go_at_call 22; refine (hN.out _ hS9.out).2.2.mono ?_; rintro r w11 ⟨rfl, hb⟩; have hS11 := Lib.hid (Sb.trans hS9.out hb); clear hb))
          go_ret
          exact ⟨rfl, ((hH.out.2.1).sb hS11.out).toB⟩
        . have hl8 : ids.length <= 8 := Nat.le_trans (nodup_len hidH.out.1 fun x hx => (hidH.out.2.1 x).1 hx) hA8
          have h0n : ¬ (ids.length : Int) = 0 := by omega
          obtain ⟨rr, q, K, e1, e2, e3, e4, e5, e6, hK⟩ := idx_ok at0 (n := ids.length) (by omega) (by omega)
          have heH := Lib.hid (And.intro e1 (And.intro e2 (And.intro e3 (And.intro e4 (And.intro e5 e6)))))
          clear e1 e2 e3 e4 e5 e6
          obtain ⟨id, hide⟩ : ∃ id, id = ids[K] := ⟨_, rfl⟩
          have hidA : id ∈ A := (hidH.out.2.1 id).1 (by rw [hide]; exact List.getElem_mem hK)
          obtain ⟨gi, rfl, hgb, hgl, hcell⟩ := StrRow.at hidH.out.2.2 (k := K) (by rw [List.length_map]; exact hK)
          rw [List.getElem_map, <- hide] at hcell
          obtain ⟨P1, P2, P3, P4, hst⟩ := story (hH.out.1.below hS6.out) hH.out.2.2 hidA (by have := hk28.out; omega) (by have := hk28.out; omega) (by have := hk28.out; omega)
          have hgo : Hid (¬ L1.own fb gi) := Lib.hid (fun ho => by have := hH.out.1.lt ho; omega)
          have hfr : Hid (∀ w, (∃ P', Stp w6 (L1.own fb) w P') -> w.cell? ⟨gi, K, none⟩ = some (.string (bt1 id))) := Lib.hid fun w ⟨P', hp⟩ => (World.cell?_of_block (a := ⟨gi, K, none⟩) (hp.blk gi hgl hgo.out)).trans hcell
          have hsH := Lib.hid hst
          have hKi : (K : Int) < (ids.length : Int) := by omega
          have hids1 : Hid (∀ ids2 : List (List UInt8), ids2.Nodup -> (∀ x, x ∈ ids2 ↔ x ∈ A /\ x ≠ id) -> (ids2.length : Int) = (ids.length : Int) - 1) := Lib.hid fun ids2 h1 h2 => by
            have := fewer hidH.out.1 h1 hidH.out.2.1 h2 hidA
            omega
          have hn1H : Hid (wrap64 ((ids.length : Int) - 1) = (ids.length : Int) - 1) := Lib.hid (wrapI (by omega) (by omega))
          have hBel : Hid (∀ w, (∃ P', Stp w6 (L1.own fb) w P') -> Below W.heap.size W w) := Lib.hid fun w ⟨P', hp⟩ => ((hH.out.2.1.sb hS6.out).trans hp).toB
          clear hide hidA hgb hst hNo hrid hlp
          have hc6 := hcell
          clear hcell hgl
          have hE : Hid ((wrap64 (at0.tmod (ids.length : Int) + (ids.length : Int))).tmod (ids.length : Int) = (K : Int)) := Lib.hid (by
            obtain ⟨e1, e2, e3, e4, e5, e6⟩ := heH.out
            rw [e1, e3, e4, e5])
          go_wp2_with (first
            | (rw [hE.out])
            | (go_at_call 20; refine hsH.out.drop.mono ?_; rintro r w7 ⟨rfl, hp⟩; have hp1 := Lib.hid hp; have hc7 := hfr.out _ (hsH.out.f1 _ hp); clear hp)
            | (go_at_call 23; refine (hsH.out.settle _ hp1.out).mono ?_; rintro r w8 ⟨rfl, hp⟩; have hp2 := Lib.hid hp; clear hp)
            | (go_at_call 18; refine (hsH.out.crash _ hp2.out).mono ?_; rintro r w9 ⟨⟨v9, rfl⟩, hp⟩; have hp3 := Lib.hid hp; clear hp)
            | (go_at_call 24; refine (hsH.out.up _ hp3.out).mono ?_; rintro r w10 ⟨⟨v10, rfl⟩, hp⟩; have hp4 := Lib.hid hp; have hc10 := hfr.out _ (hsH.out.f4 _ hp); clear hp)
            | (go_at_call 12; refine (hsH.out.get _ hp4.out).mono ?_; rintro r w11 ⟨rfl, hp⟩; have hp5 := Lib.hid hp; clear hp)
            | (go_at_call 19; refine (hsH.out.list _ hp5.out).mono ?_; rintro r w12 ⟨v12, ids2, rfl, hnd2, hm2, hrow2, hp⟩; have hlen2 := hids1.out _ hnd2 hm2; obtain ⟨o12, c12, rfl⟩ := StrRow.form hrow2; have hp6 := Lib.hid hp; have hc12 := hfr.out _ (hsH.out.f4 _ hp); clear hp hnd2 hm2 hrow2)
            | (go_at_call 20; refine (hsH.out.again _ hp6.out).mono ?_; rintro r w13 ⟨rfl, hp⟩; have hp7 := Lib.hid hp; clear hp))
          go_ret
          exact ⟨rfl, hBel.out _ (hsH.out.f4 _ hp7.out)⟩
    . have hlt' : ¬ (k : Int) < (T.length : Int) := by omega
      obtain ⟨s, L1, h, st, hl⟩ := hin
      have hA8 : A.length <= 8 := Nat.le_trans hl.bA hk8
      have hbk := hl.bk
      have hbn := hl.bn
      have hli := Lib.hid (loose_list h hl.now hl.off (by omega) (by omega))
      have hH := Lib.hid (And.intro h (And.intro st hl))
      have hNo : Hid (A = [] -> ∀ w, Sb wr w -> (Calls Tryz.prog 12 #[pt fb, .string ⟨#[110, 111, 32, 105, 100]⟩] w fun e w' => e = .returned (.tuple #[.string NB, .int .i64 2]) /\ Below w.heap.size w w') /\ (Calls Tryz.prog 20 #[pt fb, .string (bt1 (shaF []))] w fun e w' => e = .returned (.int .i64 2) /\ Below w.heap.size w w') /\ (Calls Tryz.prog 22 #[pt fb, .string NB] w fun e w' => e = .returned (.bool false) /\ Below w.heap.size w w')) := Lib.hid fun hA0 w hs =>
        ⟨get_none (h.below hs) hl.off (by decide), drop_no (h.below hs) hl.off (shaF_len _) (hl.now.noFil (shaF_len _) (by rw [hA0]; simp)), has_none (h.below hs) hl.off⟩
      have hrid : Hid (∀ w, Calls Tryz.prog 14 #[.string NB] w fun e w' => e = .returned (.string (bt1 (shaF []))) /\ Below w.heap.size w w') := Lib.hid fun w => rid_any rid_n w
      have hlp : Hid (∀ w, Calls Tryz.prog 21 #[.string ⟨#[110, 111, 32, 105, 100]⟩] w fun e w' => e = .returned (.string NB) /\ w' = w) := Lib.hid fun w => lpath_none (by decide) w
      have hk28 : Hid (k <= 8) := Lib.hid hk8
      clear h st hl hbk hbn
      go_wp2_with (fail)
      refine hli.out.mono ?_
      rintro r w6 ⟨v6, ids, rfl, hnd, hmem, hrow, hb⟩
      obtain ⟨oi, ci, rfl⟩ := StrRow.form hrow
      rw [List.length_map] at hrow ⊢
      have hS6 : Hid (Sb wr w6) := Lib.hid hb
      have hidH := Lib.hid (And.intro hnd (And.intro hmem hrow))
      clear hnd hmem hrow hb
      by_cases h0 : ids.length = 0
      . have h0i : (ids.length : Int) = 0 := by omega
        have hA0 : A = [] := by
          rcases List.eq_nil_or_concat A with e | ⟨l, x, e⟩
          . exact e
          . have hx : x ∈ ids := (hidH.out.2.1 x).2 (by rw [e]; simp)
            rw [List.length_eq_zero_iff.1 h0] at hx
            cases hx
        have hN := Lib.hid (hNo.out hA0)
        clear hA0
        rw [h0]
        go_wp2_with (first
          | (go_at_call 12; refine (hN.out _ hS6.out).1.mono ?_; rintro r w7 ⟨rfl, hb⟩; have hS7 := Lib.hid (Sb.trans hS6.out hb); clear hb)
          | (go_at_call 14; refine (hrid.out _).mono ?_; rintro r w8 ⟨rfl, hb⟩; have hS8 := Lib.hid (Sb.trans hS7.out hb); clear hb)
          | (go_at_call 20; refine (hN.out _ hS8.out).2.1.mono ?_; rintro r w9 ⟨rfl, hb⟩; have hS9 := Lib.hid (Sb.trans hS8.out hb); clear hb)
          | (go_at_call 21; refine (hlp.out _).mono ?_; rintro r w10 ⟨rfl, hw⟩; rw [hw]; clear hw)
          | (go_at_call 22; refine (hN.out _ hS9.out).2.2.mono ?_; rintro r w11 ⟨rfl, hb⟩; have hS11 := Lib.hid (Sb.trans hS9.out hb); clear hb))
        go_ret
        exact ⟨rfl, ((hH.out.2.1).sb hS11.out).toB⟩
      . have hl8 : ids.length <= 8 := Nat.le_trans (nodup_len hidH.out.1 fun x hx => (hidH.out.2.1 x).1 hx) hA8
        have h0n : ¬ (ids.length : Int) = 0 := by omega
        obtain ⟨rr, q, K, e1, e2, e3, e4, e5, e6, hK⟩ := idx_ok at0 (n := ids.length) (by omega) (by omega)
        have heH := Lib.hid (And.intro e1 (And.intro e2 (And.intro e3 (And.intro e4 (And.intro e5 e6)))))
        clear e1 e2 e3 e4 e5 e6
        obtain ⟨id, hide⟩ : ∃ id, id = ids[K] := ⟨_, rfl⟩
        have hidA : id ∈ A := (hidH.out.2.1 id).1 (by rw [hide]; exact List.getElem_mem hK)
        obtain ⟨gi, rfl, hgb, hgl, hcell⟩ := StrRow.at hidH.out.2.2 (k := K) (by rw [List.length_map]; exact hK)
        rw [List.getElem_map, <- hide] at hcell
        obtain ⟨P1, P2, P3, P4, hst⟩ := story (hH.out.1.below hS6.out) hH.out.2.2 hidA (by have := hk28.out; omega) (by have := hk28.out; omega) (by have := hk28.out; omega)
        have hgo : Hid (¬ L1.own fb gi) := Lib.hid (fun ho => by have := hH.out.1.lt ho; omega)
        have hfr : Hid (∀ w, (∃ P', Stp w6 (L1.own fb) w P') -> w.cell? ⟨gi, K, none⟩ = some (.string (bt1 id))) := Lib.hid fun w ⟨P', hp⟩ => (World.cell?_of_block (a := ⟨gi, K, none⟩) (hp.blk gi hgl hgo.out)).trans hcell
        have hsH := Lib.hid hst
        have hKi : (K : Int) < (ids.length : Int) := by omega
        have hids1 : Hid (∀ ids2 : List (List UInt8), ids2.Nodup -> (∀ x, x ∈ ids2 ↔ x ∈ A /\ x ≠ id) -> (ids2.length : Int) = (ids.length : Int) - 1) := Lib.hid fun ids2 h1 h2 => by
          have := fewer hidH.out.1 h1 hidH.out.2.1 h2 hidA
          omega
        have hn1H : Hid (wrap64 ((ids.length : Int) - 1) = (ids.length : Int) - 1) := Lib.hid (wrapI (by omega) (by omega))
        have hBel : Hid (∀ w, (∃ P', Stp w6 (L1.own fb) w P') -> Below W.heap.size W w) := Lib.hid fun w ⟨P', hp⟩ => ((hH.out.2.1.sb hS6.out).trans hp).toB
        clear hide hidA hgb hst hNo hrid hlp
        have hc6 := hcell
        clear hcell hgl
        have hE : Hid ((wrap64 (at0.tmod (ids.length : Int) + (ids.length : Int))).tmod (ids.length : Int) = (K : Int)) := Lib.hid (by
          obtain ⟨e1, e2, e3, e4, e5, e6⟩ := heH.out
          rw [e1, e3, e4, e5])
        go_wp2_with (first
          | (rw [hE.out])
          | (go_at_call 20; refine hsH.out.drop.mono ?_; rintro r w7 ⟨rfl, hp⟩; have hp1 := Lib.hid hp; have hc7 := hfr.out _ (hsH.out.f1 _ hp); clear hp)
          | (go_at_call 23; refine (hsH.out.settle _ hp1.out).mono ?_; rintro r w8 ⟨rfl, hp⟩; have hp2 := Lib.hid hp; clear hp)
          | (go_at_call 18; refine (hsH.out.crash _ hp2.out).mono ?_; rintro r w9 ⟨⟨v9, rfl⟩, hp⟩; have hp3 := Lib.hid hp; clear hp)
          | (go_at_call 24; refine (hsH.out.up _ hp3.out).mono ?_; rintro r w10 ⟨⟨v10, rfl⟩, hp⟩; have hp4 := Lib.hid hp; have hc10 := hfr.out _ (hsH.out.f4 _ hp); clear hp)
          | (go_at_call 12; refine (hsH.out.get _ hp4.out).mono ?_; rintro r w11 ⟨rfl, hp⟩; have hp5 := Lib.hid hp; clear hp)
          | (go_at_call 19; refine (hsH.out.list _ hp5.out).mono ?_; rintro r w12 ⟨v12, ids2, rfl, hnd2, hm2, hrow2, hp⟩; have hlen2 := hids1.out _ hnd2 hm2; obtain ⟨o12, c12, rfl⟩ := StrRow.form hrow2; have hp6 := Lib.hid hp; have hc12 := hfr.out _ (hsH.out.f4 _ hp); clear hp hnd2 hm2 hrow2)
          | (go_at_call 20; refine (hsH.out.again _ hp6.out).mono ?_; rintro r w13 ⟨rfl, hp⟩; have hp7 := Lib.hid hp; clear hp))
        go_ret
        exact ⟨rfl, hBel.out _ (hsH.out.f4 _ hp7.out)⟩
end
end Go.Proofs
namespace Go.Proofs
open Go.RowKit Go.ChangeShapes Go.WideShapes Go.ChangeAt Go.ChangeMaps
theorem args_of {H : Type} {enc : TypeId × Value -> H} {P : Program} {W : World} {fuel : Nat} {t e : TypeId} {a : Option Addr} {len cap : Nat} {x : DataW H × List MemPlace}
    (ht : P.underlying t = some (.slice e)) (he : P.underlying e = some .string) (hc : P.cellsOf e = 1) (h : DataW.trod enc P W 0 (fun _ => true) true fuel t [.slice a len cap] = some x) : ∃ T, ArgRow W a len T := by
  rcases open_strings ht he hc h with ⟨hcs, _⟩ | ⟨a, l, c, ss, hcs, _, hl, hm, hz, _, hcell, _⟩
  . obtain ⟨rfl, rfl, rfl⟩ : a = none /\ len = 0 /\ cap = 0 := by simpa using hcs
    exact ⟨[], rfl, by omega, fun j hj => absurd hj (Nat.not_lt_zero _)⟩
  . obtain ⟨rfl, rfl, rfl⟩ : _ /\ len = l /\ cap = c := by simpa using hcs
    have hz' : ss.length = cap := hz
    unfold maxLen at hm
    refine ⟨ss.take len, by rw [List.length_take]; omega, by omega, fun j hj => ?_⟩
    have hj' : j < len := by rw [List.length_take] at hj; omega
    refine ⟨_, rfl, ?_⟩
    have h3 := hcell j (by omega)
    rw [h3, List.getElem_take, List.getD_eq_getElem?_getD, List.getElem?_eq_getElem (by omega)]
    rfl
end Go.Proofs
