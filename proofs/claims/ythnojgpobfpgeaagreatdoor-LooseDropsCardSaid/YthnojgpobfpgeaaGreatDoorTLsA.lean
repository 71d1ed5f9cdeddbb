/- A store's state; what is made sure. -/
import Derived.Test.YthnojgpobfpgeaaGreatDoorTUnx
import Derived.Test.YthnojgpobfpgeaaGreatDoorTFsZ
set_option linter.unusedVariables false
set_option linter.unusedSimpArgs false
namespace Go.Proofs
open Go.Ev Go.RowKit
def IncAct (nodes : List Nd) (a : Ac) : Prop := ∃ j, a = .comes IB j /\ Filn nodes j
structure LS (s : St) (Fs A : List (List UInt8)) (i : Bool) (na nn nk : Nat) : Prop where
  now : Good s.now s.nodes Fs A i
  sure : Good s.sure s.nodes Fs A true
  same : ∀ d ∈ s.nodes, d.now = d.sure
  small : ∀ d ∈ s.nodes, d.now.size <= 2000
  acts : ∀ a ∈ s.acts, IncAct s.nodes a
  room : s.room = 1048576
  off : s.off = false
  ba : s.acts.length <= na
  bn : s.nodes.length <= nn
  bk : s.k <= nk
  bA : A.length <= na
  bF : Fs.length <= nn
theorem SRun.append {nodes : List Nd} {U : ByteArray -> ByteArray} {p : ByteArray} {l1 l2 r1 r2 : List Ac} {M M1 M2 : Nm} (h1 : SRun nodes U p l1 M r1 M1) (h2 : SRun nodes U p l2 M1 r2 M2) : SRun nodes U p (l1 ++ l2) M (r1 ++ r2) M2 := by
  induction h1 with
  | nil M => exact h2
  | hit h d n ih => exact .hit h d (ih h2)
  | miss h n ih => exact .miss h (ih h2)
section
variable {nodes : List Nd} {Fs A : List (List UInt8)}
theorem srun_inc {l : List Ac} (hl : ∀ a ∈ l, IncAct nodes a) (hn : nodes.length <= 1000) : ∀ {M : Nm}, Good M nodes Fs A true -> ∃ M', SRun nodes UB OB l M [] M' /\ Good M' nodes Fs A true := by
  induction l with
  | nil => intro M h; exact ⟨M, .nil M, h⟩
  | cons a l ih =>
    intro M h
    obtain ⟨j, rfl, hj⟩ := hl a (List.mem_cons_self ..)
    have hjl : j <= 1000000 := by
      obtain ⟨d, hd, _⟩ := hj
      have := (List.getElem?_eq_some_iff.1 hd).1
      omega
    cases hm : M IB with
    | some k =>
      obtain ⟨M', h1, h2⟩ := ih (fun a ha => hl a (List.mem_cons_of_mem _ ha)) h
      exact ⟨M', .hit (.inl UB_I) (fun s _ => DoOk.there (p := IB) (by decide) hm) h1, h2⟩
    | none =>
      obtain ⟨M', h1, h2⟩ := ih (fun a ha => hl a (List.mem_cons_of_mem _ ha)) (h.putInc hj)
      exact ⟨M', .hit (.inl UB_I) (fun s hs => DoOk.comes (p := IB) (by decide) hm hjl (HomeOk.of IB_up (Good.folO (hs ▸ h)))) h1, h2⟩
theorem miss_inc {l : List Ac} (hl : ∀ a ∈ l, IncAct nodes a) {p : ByteArray} (hp : ¬ p = OB) (M : Nm) : SRun nodes UB p l M l M := by
  induction l with
  | nil => exact .nil M
  | cons a l ih =>
    obtain ⟨j, rfl, _⟩ := hl a (List.mem_cons_self ..)
    refine .miss (fun hh => ?_) (ih fun a ha => hl a (List.mem_cons_of_mem _ ha))
    rcases hh with hh | ⟨hh, _⟩
    . exact hp hh.symm
    . cases hh
end
theorem FB_neO {id : List UInt8} (h : id.length = 32) : ¬ FB id = OB := fun e => by have := FB_size h; rw [e] at this; cases this
theorem FB_neN {id : List UInt8} (h : id.length = 32) : ¬ FB id = NB := fun e => by have := FB_size h; rw [e] at this; cases this
theorem PB_neI {id : List UInt8} (h : id.length = 32) : ¬ IB = PB id := fun e => by have := PB_size h; rw [<- e] at this; cases this
theorem last_get {nodes : List Nd} {d : Nd} : (nodes ++ [d])[nodes.length]? = some d := by simp
theorem last_set {nodes : List Nd} {d d' : Nd} : (nodes ++ [d]).set nodes.length d' = nodes ++ [d'] := by simp
theorem more_get {nodes : List Nd} {d d' : Nd} {j : Nat} (h : nodes[j]? = some d) : (nodes ++ [d'])[j]? = some d := by
  rw [List.getElem?_append_left (List.getElem?_eq_some_iff.1 h).1]; exact h
section
variable {s : St} {Fs A : List (List UInt8)} {i : Bool} {na nn nk : Nat}
theorem LS.wide {na' nn' nk' : Nat} (h : LS s Fs A i na nn nk) (h1 : na <= na') (h2 : nn <= nn') (h3 : nk <= nk') : LS s Fs A i na' nn' nk' :=
  ⟨h.now, h.sure, h.same, h.small, h.acts, h.room, h.off, Nat.le_trans h.ba h1, Nat.le_trans h.bn h2, Nat.le_trans h.bk h3, Nat.le_trans h.bA h1, Nat.le_trans h.bF h2⟩
theorem LS.folder (h : LS s Fs A false na nn nk) (hnn : nn <= 900) {id : List UInt8} (hid : id.length = 32) (hno : s.now (FB id) = none) :
    ∃ M, SRun (newS s (FB id) ⟨true, ⟨#[]⟩, ⟨#[]⟩⟩).nodes UB OB (newS s (FB id) ⟨true, ⟨#[]⟩, ⟨#[]⟩⟩).acts s.sure [] M /\
      LS { newS s (FB id) ⟨true, ⟨#[]⟩, ⟨#[]⟩⟩ with sure := M, acts := [], k := s.k + 1 + (s.acts.length + 1) } (id :: Fs) A false na (nn + 1) (nk + na + 2) := by
  have hb := h.bn
  have hmon : ∀ (j : Nat) (d : Nd), s.nodes[j]? = some d -> (s.nodes ++ [⟨true, ⟨#[]⟩, ⟨#[]⟩⟩])[j]? = some d := fun j d hd => more_get hd
  have hd : Dirn (s.nodes ++ [⟨true, ⟨#[]⟩, ⟨#[]⟩⟩]) s.nodes.length := ⟨_, last_get, rfl⟩
  obtain ⟨M1, h1, h2⟩ := srun_inc (nodes := s.nodes ++ [⟨true, ⟨#[]⟩, ⟨#[]⟩⟩]) (l := s.acts) (fun a ha => by
    obtain ⟨j, e, d, h1, h2⟩ := h.acts a ha
    exact ⟨j, e, d, hmon _ _ h1, h2⟩) (by rw [List.length_append]; simp; omega) (h.sure.mono hmon)
  have hno2 : ∀ x ∈ Fs, FB x ≠ FB id := fun x hx e => by
    obtain ⟨j, h3, _⟩ := h.now.fol x hx
    rw [e, hno] at h3
    cases h3
  have hn1 := h2.noFol hid hno2
  have hz := FB_size hid
  refine ⟨putF' M1 (FB id) s.nodes.length, h1.append (.hit (.inl (UB_F hid)) (fun s' hs => DoOk.comes (by omega) hn1 (by omega) (HomeOk.of (FB_up hid) (Good.folO (hs ▸ h2)))) (.nil _)), ?_⟩
  refine ⟨(h.now.mono hmon).putFol hid hd hno, h2.putFol hid hd hn1, fun d hd => ?_, fun d hd => ?_, (fun a ha => by cases ha), h.room, h.off, Nat.zero_le _, ?_, ?_, h.bA, Nat.succ_le_succ h.bF⟩
  . rcases List.mem_append.1 hd with hd | hd
    . exact h.same d hd
    . rw [List.mem_singleton.1 hd]
  . rcases List.mem_append.1 hd with hd | hd
    . exact h.small d hd
    . rw [List.mem_singleton.1 hd]; exact Nat.zero_le _
  . show (s.nodes ++ [_]).length <= nn + 1
    rw [List.length_append]; simp; omega
  . have := h.bk
    have := h.ba
    show s.k + 1 + (s.acts.length + 1) <= _
    omega
def inS (s : St) (x : ByteArray) : St := { newS s IB ⟨false, x, ⟨#[]⟩⟩ with nodes := s.nodes ++ [⟨false, x, x⟩] }
noncomputable def mvS (s : St) (x : ByteArray) (id : List UInt8) : St := { inS s x with now := movF (inS s x).now IB (PB id) s.nodes.length, k := s.k + 1 + 1, acts := s.acts ++ [.comes IB s.nodes.length] ++ [.moves IB (PB id) s.nodes.length] }
theorem LS.file (h : LS s Fs A false na nn nk) (hnn : nn <= 900) {raw : List UInt8} (hraw : raw.length <= 210) (hid : shaF raw ∈ Fs) :
    ∃ M, SRun (mvS s ⟨⟨pressL raw⟩⟩ (shaF raw)).nodes UB (FB (shaF raw)) (mvS s ⟨⟨pressL raw⟩⟩ (shaF raw)).acts s.sure (s.acts ++ [.comes IB s.nodes.length]) M /\
      LS { mvS s ⟨⟨pressL raw⟩⟩ (shaF raw) with sure := M, acts := s.acts ++ [.comes IB s.nodes.length], k := s.k + 1 + 1 + (s.acts.length + 2) } Fs (shaF raw :: A) false (na + 1) (nn + 1) (nk + na + 4) := by
  have hb := h.bn
  have hlen := h.now.len _ hid
  have hz := PB_size hlen
  have hp2 := (press_lenD hraw).2
  have hmon : ∀ (j : Nat) (d : Nd), s.nodes[j]? = some d -> (s.nodes ++ [⟨false, ⟨⟨pressL raw⟩⟩, ⟨⟨pressL raw⟩⟩⟩])[j]? = some d := fun j d hd => more_get hd
  have hhe : Heldn (s.nodes ++ [⟨false, ⟨⟨pressL raw⟩⟩, ⟨⟨pressL raw⟩⟩⟩]) (shaF raw) s.nodes.length := ⟨raw, last_get, hraw, rfl⟩
  have hfi : Filn (s.nodes ++ [⟨false, ⟨⟨pressL raw⟩⟩, ⟨⟨pressL raw⟩⟩⟩]) s.nodes.length := ⟨_, last_get, rfl⟩
  have hs := h.sure.mono hmon
  have hacts : ∀ a ∈ s.acts ++ [.comes IB s.nodes.length], IncAct (s.nodes ++ [⟨false, ⟨⟨pressL raw⟩⟩, ⟨⟨pressL raw⟩⟩⟩]) a := fun a ha => by
    rcases List.mem_append.1 ha with ha | ha
    . obtain ⟨j, e, d, h1, h2⟩ := h.acts a ha
      exact ⟨j, e, d, hmon _ _ h1, h2⟩
    . rw [List.mem_singleton.1 ha]
      exact ⟨_, rfl, hfi⟩
  refine ⟨movF s.sure IB (PB (shaF raw)) s.nodes.length, ?_, ?_⟩
  . have h1 := (miss_inc hacts (FB_neO hlen) s.sure).append (.hit (a := .moves IB (PB (shaF raw)) s.nodes.length) (l := []) (r := []) (.inr ⟨rfl, UB_P hlen⟩) (fun s' hs' => DoOk.moves (by decide) (by omega) (by omega) (hs.noKids hz) (HomeOk.of (PB_up hlen) (Good.folF (hs' ▸ hs) hid))) (.nil _))
    rw [List.append_nil] at h1
    exact h1
  . refine ⟨?_, hs.mov hid hhe (.inl rfl), fun d hd => ?_, fun d hd => ?_, hacts, h.room, h.off, ?_, ?_, ?_, Nat.succ_le_succ h.bA, Nat.le_succ_of_le h.bF⟩
    . exact ((h.now.mono hmon).putInc hfi).mov hid hhe (.inr (by unfold putF'; exact if_pos rfl))
    . rcases List.mem_append.1 hd with hd | hd
      . exact h.same d hd
      . rw [List.mem_singleton.1 hd]
    . rcases List.mem_append.1 hd with hd | hd
      . exact h.small d hd
      . rw [List.mem_singleton.1 hd]; exact hp2
    . have := h.ba
      show (s.acts ++ [_]).length <= _
      rw [List.length_append]; simp; omega
    . show (s.nodes ++ [_]).length <= nn + 1
      rw [List.length_append]; simp; omega
    . have := h.bk
      have := h.ba
      show s.k + 1 + 1 + (s.acts.length + 2) <= _
      omega
end
end Go.Proofs
namespace Go.Proofs
open Go.RowKit Go.Ev Go.Lib Go.Shelf
attribute [local go_sem] Oper.semAt_some
def LsTo (W : World) (fb : Nat) (L : Lay) (Fs A : List (List UInt8)) (i : Bool) (na nn nk : Nat) (w' : World) : Prop := ∃ s' L', FsAt w' fb L' s' /\ Stp W (L.own fb) w' (L'.own fb) /\ LS s' Fs A i na nn nk
section
variable {W : World} {fb : Nat} {L : Lay} {s : St} {Fs A : List (List UInt8)} {i : Bool} {na nn nk : Nat}
theorem LS.more (h : LS s Fs A i na nn nk) {id id' : List UInt8} (hid : id.length = 32) (hi : id' ∈ Fs) (he : FB id' = FB id) : LS s (id :: Fs) A i na (nn + 1) nk :=
  ⟨h.now.more hid hi he, h.sure.more hid hi he, h.same, h.small, h.acts, h.room, h.off, h.ba, Nat.le_succ_of_le h.bn, h.bk, h.bA, Nat.succ_le_succ h.bF⟩
theorem LS.lt (h : LS s Fs A i na nn nk) : ∀ p j, s.now p = some j -> j < s.nodes.length := fun _ _ hj => h.now.lt hj
theorem LS.pos (h : LS s Fs A i na nn nk) : 0 < s.nodes.length := by
  obtain ⟨j, hj, _⟩ := h.now.obj
  exact Nat.lt_of_le_of_lt (Nat.zero_le _) (h.now.lt hj)
set_option maxRecDepth 1000000 in
set_option maxHeartbeats 1000000 in
theorem ready_calls (h : FsAt W fb L s) (hl : LS s Fs A false na nn nk) (hna : na <= 50) (hnn : nn <= 900) (hnk : nk <= 400) {id : List UInt8} (hid : id.length = 32) :
    Calls Tryz.prog 41 #[pt fb, .string (FB id), .string OB] W fun e w' => e = .returned (.int .i64 0) /\ LsTo W fb L (id :: Fs) A false na (nn + 1) (nk + na + 2) w' := by
  have ba := hl.ba
  have bn := hl.bn
  have bk := hl.bk
  have hz := FB_size hid
  by_cases hex : ∃ x ∈ Fs, FB x = FB id
  . obtain ⟨x, hx, he⟩ := hex
    obtain ⟨n, hn, _⟩ := hl.now.fol x hx
    rw [he] at hn
    have hm := Lib.hid (mkdir_there h hl.off (FB_ok hid) (by omega) (FB_up hid) (hl.now.folO) hn)
    have hfin : Hid (∀ w', Below W.heap.size W w' -> LsTo W fb L (id :: Fs) A false na (nn + 1) (nk + na + 2) w') := Lib.hid fun w' hb => ⟨s, L, h.below hb, Stp.below _ hb, (hl.more hid hx he).wide (Nat.le_refl _) (Nat.le_refl _) (by omega)⟩
    clear h hl he hn hx
    go_enter Tryz.func41, Tryz.ntmps41
    go_wp2_with (go_at_call 82; refine hm.out.mono ?_; rintro r w1 ⟨rfl, hb⟩; have hf := Lib.hid (hfin.out _ hb); clear hb)
    go_ret
    exact ⟨rfl, hf.out⟩
  . have hno : s.now (FB id) = none := hl.now.noFol hid fun x hx e => hex ⟨x, hx, e⟩
    have hm := Lib.hid (mkdir_new h hl.off (FB_ok hid) (by omega) (FB_up hid) (hl.now.folO) hno (by omega) (by omega) (by omega))
    obtain ⟨M, hrun, hls⟩ := hl.folder (by omega) hid hno
    have hU : ∀ a ∈ (newS s (FB id) ⟨true, ⟨#[]⟩, ⟨#[]⟩⟩).acts, UpIs a.path (UB a.path) /\ (a.kind = 2 -> UpIs a.to (UB a.to)) := fun a ha => by
      rcases List.mem_append.1 ha with ha | ha
      . obtain ⟨j, rfl, _⟩ := hl.acts a ha
        exact ⟨IB_up, fun hk => by cases hk⟩
      . rw [List.mem_singleton.1 ha]
        exact ⟨(UB_F hid).symm ▸ FB_up hid, fun hk => by cases hk⟩
    have hsy : Hid (∀ w1 L1, FsAt w1 fb L1 (newS s (FB id) ⟨true, ⟨#[]⟩, ⟨#[]⟩⟩) -> Stp W (L.own fb) w1 (L1.own fb) -> Calls Tryz.prog 43 #[pt fb, .string OB] w1 fun e w' => e = .returned (.int .i64 0) /\ LsTo W fb L (id :: Fs) A false na (nn + 1) (nk + na + 2) w') := Lib.hid fun w1 L1 h1 hs1 => by
      have hmon : ∀ (j : Nat) (d : Nd), s.nodes[j]? = some d -> (s.nodes ++ [⟨true, ⟨#[]⟩, ⟨#[]⟩⟩])[j]? = some d := fun j d hd => more_get hd
      have hg : Good (putF' s.now (FB id) s.nodes.length) (s.nodes ++ [⟨true, ⟨#[]⟩, ⟨#[]⟩⟩]) (id :: Fs) A false := (hl.now.mono hmon).putFol hid ⟨_, last_get, rfl⟩ hno
      refine (sync_dir h1 hl.off OB_ok (by decide) (Good.folO (s := newS s (FB id) ⟨true, ⟨#[]⟩, ⟨#[]⟩⟩) hg) hU hrun (by show s.k + 1 <= 1000; omega) (by show (s.acts ++ [_]).length <= 1000; rw [List.length_append]; simp; omega)).mono ?_
      rintro e w' ⟨rfl, L2, h2, hs2⟩
      refine ⟨rfl, _, L2, h2, hs1.trans hs2, ?_⟩
      have e1 : (newS s (FB id) ⟨true, ⟨#[]⟩, ⟨#[]⟩⟩).acts.length = s.acts.length + 1 := by show (s.acts ++ [_]).length = _; simp
      rw [e1]
      exact hls
    clear h hl hrun hls hU hno hex
    go_enter Tryz.func41, Tryz.ntmps41
    go_wp2_with (first
      | (go_at_call 82; refine hm.out.mono ?_; rintro r w1 ⟨rfl, L1, h1, hs1⟩; have hsy1 := Lib.hid (hsy.out _ _ h1 hs1); clear h1 hs1)
      | (go_at_call 43; refine hsy1.out.mono ?_; rintro r w2 ⟨rfl, hf⟩; have hfH := Lib.hid hf; clear hf))
    go_ret
    exact ⟨rfl, hfH.out⟩
theorem putF_same (M : Nm) (k : ByteArray) (v : Nat) : putF' M k v k = some v := if_pos rfl
theorem set_in (s : St) (x : ByteArray) : { newS s IB ⟨false, x, ⟨#[]⟩⟩ with nodes := (newS s IB ⟨false, x, ⟨#[]⟩⟩).nodes.set s.nodes.length ⟨false, x, x⟩ } = inS s x := by
  unfold inS newS
  simp only [last_set]
set_option maxRecDepth 1000000 in
set_option maxHeartbeats 2000000 in
theorem lay_calls (h : FsAt W fb L s) (hl : LS s Fs A false na nn nk) (hna : na <= 40) (hnn : nn <= 800) (hnk : nk <= 300) {raw : List UInt8} (hraw : raw.length <= 210) :
    Calls Tryz.prog 29 #[pt fb, .string ⟨⟨shaF raw⟩⟩, .string ⟨⟨pressL raw⟩⟩] W fun e w' => e = .returned (.int .i64 0) /\ LsTo W fb L (shaF raw :: Fs) (shaF raw :: A) false (na + 1) (nn + 2) (nk + 2 * na + 6) w' := by
  have hid := shaF_len raw
  have hz := PB_size hid
  have hrd := Lib.hid (ready_calls h hl (by omega) (by omega) (by omega) hid)
  have hp := press_lenD hraw
  obtain ⟨x, hx⟩ : ∃ x : ByteArray, x = ⟨⟨pressL raw⟩⟩ := ⟨_, rfl⟩
  have hx1 : x.size = (pressL raw).length := by rw [hx]; rfl
  have key : Hid (∀ w1, LsTo W fb L (shaF raw :: Fs) A false na (nn + 1) (nk + na + 2) w1 -> ∃ (s2 : St) (L2 : Lay), FsAt w1 fb L2 s2 /\ Stp W (L.own fb) w1 (L2.own fb) /\
      (Calls Tryz.prog 9 #[pt fb, .string IB, .string x] w1 fun e w' => e = .returned (.int .i64 0) /\ FsTo w1 fb L2 (newS s2 IB ⟨false, x, ⟨#[]⟩⟩) w') /\
      (∀ w2 L3, FsAt w2 fb L3 (newS s2 IB ⟨false, x, ⟨#[]⟩⟩) -> Calls Tryz.prog 67 #[pt fb, .string IB] w2 fun e w' => e = .returned (.int .i64 0) /\ FsTo w2 fb L3 (inS s2 x) w') /\
      (∀ w2 L3, FsAt w2 fb L3 (inS s2 x) -> Calls Tryz.prog 68 #[pt fb, .string IB, .string (PB (shaF raw))] w2 fun e w' => e = .returned (.int .i64 0) /\ FsTo w2 fb L3 (mvS s2 x (shaF raw)) w') /\
      (∀ w2 L3, FsAt w2 fb L3 (mvS s2 x (shaF raw)) -> Stp W (L.own fb) w2 (L3.own fb) -> Calls Tryz.prog 43 #[pt fb, .string (FB (shaF raw))] w2 fun e w' => e = .returned (.int .i64 0) /\ LsTo W fb L (shaF raw :: Fs) (shaF raw :: A) false (na + 1) (nn + 2) (nk + 2 * na + 6) w')) := Lib.hid fun w1 ⟨s2, L2, h2, hs2, hl2⟩ => by
    have ba := hl2.ba
    have bn := hl2.bn
    have bk := hl2.bk
    have hmem : shaF raw ∈ shaF raw :: Fs := List.mem_cons_self ..
    have hno := hl2.now.noInc
    have hmon : ∀ (j : Nat) (d : Nd), s2.nodes[j]? = some d -> (s2.nodes ++ [⟨false, x, x⟩])[j]? = some d := fun j d hd => more_get hd
    have hlf := hl2.file (by omega) hraw hmem
    rw [<- hx] at hlf
    obtain ⟨M, hrun, hls⟩ := hlf
    have hgi : Good (inS s2 x).now (s2.nodes ++ [⟨false, x, x⟩]) (shaF raw :: Fs) A true := (hl2.now.mono hmon).putInc ⟨_, last_get, rfl⟩
    have hnowI : (inS s2 x).now IB = some s2.nodes.length := putF_same s2.now IB s2.nodes.length
    have hhe : Heldn (s2.nodes ++ [⟨false, x, x⟩]) (shaF raw) s2.nodes.length := ⟨raw, by rw [hx]; exact last_get, hraw, rfl⟩
    refine ⟨s2, L2, h2, hs2, ?_, ?_, ?_, ?_⟩
    . exact write_new h2 hl2.off IB_ok (by decide) IB_up hl2.now.folO hno (by omega) (by omega) (by omega) hl2.pos hl2.lt hl2.small hl2.room (by omega) (by omega)
    . intro w2 L3 h3
      refine (sync_file h3 hl2.off IB_ok (by decide) (n := s2.nodes.length) (d := ⟨false, x, ⟨#[]⟩⟩) (putF_same s2.now IB s2.nodes.length) last_get rfl).mono ?_
      rintro e w' ⟨he, L4, h4, hs4⟩
      have e1 := set_in s2 x
      exact ⟨he, L4, e1 ▸ h4, hs4⟩
    . intro w2 L3 h3
      refine (rename_calls h3 hl2.off IB_ok (PB_ok hid) (by decide) (by omega) (PB_neI hid) hnowI (d := ⟨false, x, x⟩) last_get rfl (fun j hj => ?_) (PB_up hid) (Good.folF (s := inS s2 x) hgi hmem) (hgi.noKids hz) (by show s2.k + 1 <= 1000; omega) (by show (s2.acts ++ [_]).length <= 1000; rw [List.length_append]; simp; omega) (by omega)).mono fun e w' he => he
      obtain ⟨d, hd1, hd2⟩ := hgi.node hj
      exact ⟨d, hd1, by rw [hd2, DB_P hid]⟩
    . intro w2 L3 h3 hs3
      have hgm : Good (mvS s2 x (shaF raw)).now (s2.nodes ++ [⟨false, x, x⟩]) (shaF raw :: Fs) (shaF raw :: A) false := hgi.mov hmem hhe (.inr hnowI)
      refine (sync_dir h3 hl2.off (FB_ok hid) (FB_neN hid) (Good.folF (s := mvS s2 x (shaF raw)) hgm hmem) (fun a ha => ?_) hrun (by show s2.k + 1 + 1 <= 1000; omega) (by show (s2.acts ++ [_] ++ [_]).length <= 1000; simp; omega)).mono ?_
      . rcases List.mem_append.1 ha with ha | ha
        . rcases List.mem_append.1 ha with ha | ha
          . obtain ⟨j, rfl, _⟩ := hl2.acts a ha
            exact ⟨IB_up, fun hk => by cases hk⟩
          . rw [List.mem_singleton.1 ha]
            exact ⟨IB_up, fun hk => by cases hk⟩
        . rw [List.mem_singleton.1 ha]
          exact ⟨IB_up, fun _ => (UB_P hid).symm ▸ PB_up hid⟩
      . rintro e w' ⟨rfl, L5, h5, hs5⟩
        refine ⟨rfl, _, L5, h5, hs3.trans hs5, ?_⟩
        have e1 : (mvS s2 x (shaF raw)).acts.length = s2.acts.length + 2 := by show (s2.acts ++ [_] ++ [_]).length = _; simp
        rw [e1]
        exact hls.wide (Nat.le_refl _) (by omega) (by omega)
  have hfc := Lib.hid (fun w => fold_calls hid w)
  have hpc := Lib.hid (fun w => path_calls hid w)
  rw [<- hx]
  have hrd' : Hid (∀ w, Sb W w -> Calls Tryz.prog 41 #[pt fb, .string (FB (shaF raw)), .string OB] w fun e w' => e = .returned (.int .i64 0) /\ LsTo W fb L (shaF raw :: Fs) A false na (nn + 1) (nk + na + 2) w') := Lib.hid fun w hb => (ready_calls (h.below hb) hl (by omega) (by omega) (by omega) hid).mono fun e w' ⟨h1, s', L', h2, h3, h4⟩ => ⟨h1, s', L', h2, (Stp.below _ hb).trans h3, h4⟩
  generalize shaF raw = id at *
  clear h hl hp hx hx1 hrd hraw
  go_enter Tryz.func29, Tryz.ntmps29
  go_wp2_with (first
    | (go_at_call 41; refine (hrd'.out _ hS0.out).mono ?_; rintro r w1 ⟨rfl, hf⟩; obtain ⟨s2, L2, h2, hs2, k9, k67, k68, k43⟩ := key.out _ hf; have hst1 := Lib.hid hs2; have k9' := Lib.hid k9; have k67' := Lib.hid k67; have k68' := Lib.hid k68; have k43' := Lib.hid k43; clear hf h2 hs2 k9 k67 k68 k43)
    | (go_at_call 9; refine k9'.out.mono ?_; rintro r w2 ⟨rfl, L3, h3, hs3⟩; have hst2 := Lib.hid (hst1.out.trans hs3); have h3' := Lib.hid h3; clear h3 hs3)
    | (go_at_call 67; refine (k67'.out _ _ h3'.out).mono ?_; rintro r w3 ⟨rfl, L4, h4, hs4⟩; have hst3 := Lib.hid (hst2.out.trans hs4); have h4' := Lib.hid h4; clear h4 hs4)
    | (go_at_call 21; refine (hpc.out _).mono ?_; rintro r w4 ⟨rfl, hb⟩; have hst4 := Lib.hid (hst3.out.sb (show Sb w3 w4 from hb)); have h5' := Lib.hid (h4'.out.below hb); clear hb)
    | (go_at_call 68; refine (k68'.out _ _ h5'.out).mono ?_; rintro r w5 ⟨rfl, L6, h6, hs6⟩; have hst5 := Lib.hid (hst4.out.trans hs6); have h6' := Lib.hid h6; clear h6 hs6)
    | (go_at_call 54; refine (hfc.out _).mono ?_; rintro r w6 ⟨rfl, hb⟩; have hst6 := Lib.hid (hst5.out.sb (show Sb w5 w6 from hb)); have h7' := Lib.hid (h6'.out.below hb); clear hb)
    | (go_at_call 43; refine (k43'.out _ _ h7'.out hst6.out).mono ?_; rintro r w7 ⟨rfl, hf⟩; have hfin := Lib.hid hf; clear hf)
    | (go_at_call 54; refine (hfc.out _).mono ?_; rintro r w0 ⟨rfl, hb⟩; have hS0 : Hid (Sb W w0) := Lib.hid hb; clear hb))
  go_ret
  exact ⟨rfl, hfin.out⟩
end
end Go.Proofs
