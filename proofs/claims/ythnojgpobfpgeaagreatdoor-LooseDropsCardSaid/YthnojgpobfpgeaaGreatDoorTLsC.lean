/- Get, Put, Drop. -/
import Derived.Test.YthnojgpobfpgeaaGreatDoorTLsA
import Derived.Test.YthnojgpobfpgeaaGreatDoorTLinks
set_option linter.unusedVariables false
set_option linter.unusedSimpArgs false
namespace Go.Proofs
open Go.RowKit Go.Ev Go.Lib Go.Shelf
attribute [local go_sem] Oper.semAt_some
section
variable {W : World} {fb : Nat} {L : Lay} {s : St} {Fs A : List (List UInt8)} {i : Bool} {na nn nk : Nat}
set_option maxRecDepth 1000000 in
set_option maxHeartbeats 1000000 in
theorem get_yes (h : FsAt W fb L s) (hoff : s.off = false) {raw : List UInt8} (hraw : raw.length <= 210) {j : Nat} (hj : s.now (PB (shaF raw)) = some j) (hd : s.nodes[j]? = some ⟨false, ⟨⟨pressL raw⟩⟩, ⟨⟨pressL raw⟩⟩⟩) :
    Calls Tryz.prog 12 #[pt fb, .string ⟨⟨shaF raw⟩⟩] W fun e w' => e = .returned (.tuple #[.string ⟨⟨raw⟩⟩, .int .i64 0]) /\ Below W.heap.size W w' := by
  have hid := shaF_len raw
  have hz := PB_size hid
  have hpc := Lib.hid (fun w => path_calls hid w)
  have hrd : Hid (∀ w, Sb W w -> Calls Tryz.prog 37 #[pt fb, .string (PB (shaF raw))] w fun e w' => e = .returned (.tuple #[.string ⟨⟨pressL raw⟩⟩, .int .i64 0]) /\ Below w.heap.size w w') := Lib.hid fun w hb => read_yes (h.below hb) hoff (PB_ok hid) (by omega) hj hd rfl
  have hsp := Lib.hid (fun w => spread_back hraw w)
  have ho : Hid (∀ w, Calls Tryz.prog 27 #[.string ⟨⟨raw⟩⟩] w fun e w' => e = .returned (.string ⟨⟨shaF raw⟩⟩) /\ Below w.heap.size w w') := Lib.hid (fun w => oid_calls ⟨⟨raw⟩⟩ (by show raw.length <= 1073741824; omega) w)
  have hbq := beq_self_eq_true (⟨⟨shaF raw⟩⟩ : ByteArray).toList
  clear h hoff hj hd hz
  go_enter Tryz.func12, Tryz.ntmps12
  go_wp2_with (first
    | (go_at_call 21; refine (hpc.out _).mono ?_; rintro r w1 ⟨rfl, hb⟩; have hS1 : Hid (Sb W w1) := Lib.hid hb; clear hb)
    | (go_at_call 37; refine (hrd.out _ hS1.out).mono ?_; rintro r w2 ⟨rfl, hb⟩; have hS2 := Lib.hid (Sb.trans hS1.out hb); clear hb)
    | (go_at_call 38; refine (hsp.out _).mono ?_; rintro r w3 ⟨rfl, hb⟩; have hS3 := Lib.hid (Sb.trans hS2.out hb); clear hb)
    | (go_at_call 27; refine (ho.out _).mono ?_; rintro r w4 ⟨rfl, hb⟩; have hS4 := Lib.hid (Sb.trans hS3.out hb); clear hb))
  go_ret2
  exact ⟨rfl, hS4.out⟩
set_option maxRecDepth 1000000 in
set_option maxHeartbeats 1000000 in
theorem get_no (h : FsAt W fb L s) (hoff : s.off = false) {id : List UInt8} (hid : id.length = 32) (hj : s.now (PB id) = none) :
    Calls Tryz.prog 12 #[pt fb, .string ⟨⟨id⟩⟩] W fun e w' => e = .returned (.tuple #[.string ⟨#[]⟩, .int .i64 2]) /\ Below W.heap.size W w' := by
  have hz := PB_size hid
  have hpc := Lib.hid (fun w => path_calls hid w)
  have hrd : Hid (∀ w, Sb W w -> Calls Tryz.prog 37 #[pt fb, .string (PB id)] w fun e w' => e = .returned (.tuple #[.string ⟨#[]⟩, .int .i64 2]) /\ Below w.heap.size w w') := Lib.hid fun w hb => read_no (h.below hb) hoff (PB_ok hid) (by omega) hj
  clear h hoff hj hz
  go_enter Tryz.func12, Tryz.ntmps12
  go_wp2_with (first
    | (go_at_call 21; refine (hpc.out _).mono ?_; rintro r w1 ⟨rfl, hb⟩; have hS1 : Hid (Sb W w1) := Lib.hid hb; clear hb)
    | (go_at_call 37; refine (hrd.out _ hS1.out).mono ?_; rintro r w2 ⟨rfl, hb⟩; have hS2 := Lib.hid (Sb.trans hS1.out hb); clear hb))
  go_ret2
  exact ⟨rfl, hS2.out⟩
def PutP (W : World) (fb : Nat) (L : Lay) (na nn nk : Nat) (id : List UInt8) (e : Ending) (w' : World) : Prop := e = .returned (.tuple #[.string ⟨⟨id⟩⟩, .int .i64 0]) /\ ∃ Fs A, LsTo W fb L Fs A false (na + 1) (nn + 2) (nk + 2 * na + 6) w'
set_option maxRecDepth 1000000 in
set_option maxHeartbeats 1000000 in
theorem put_calls (h : FsAt W fb L s) (hl : LS s Fs A false na nn nk) (hna : na <= 40) (hnn : nn <= 800) (hnk : nk <= 300) {t : List UInt8} (ht : t.length <= 200) :
    Calls Tryz.prog 8 #[pt fb, .string ⟨⟨blobL t⟩⟩] W fun e w' => PutP W fb L na nn nk (shaF (blobL t)) e w' := by
  have hrl := blobL_len t ht
  have hlk : Hid (∀ w, Calls Tryz.prog 26 #[.string ⟨⟨blobL t⟩⟩] w fun e w' => e = .returned (.tuple #[.slice none 0 0, .int .i64 0]) /\ Below w.heap.size w w') := Lib.hid (fun w => links_calls ht w)
  obtain ⟨raw, hraw⟩ : ∃ raw, raw = blobL t := ⟨_, rfl⟩
  rw [<- hraw] at hlk hrl ⊢
  have hid := shaF_len raw
  have ho : Hid (∀ w, Calls Tryz.prog 27 #[.string ⟨⟨raw⟩⟩] w fun e w' => e = .returned (.string ⟨⟨shaF raw⟩⟩) /\ Below w.heap.size w w') := Lib.hid (fun w => oid_calls ⟨⟨raw⟩⟩ (by show raw.length <= 1073741824; omega) w)
  have hpr : Hid (∀ w, Calls Tryz.prog 28 #[.string ⟨⟨raw⟩⟩] w fun e w' => e = .returned (.tuple #[.string ⟨⟨pressL raw⟩⟩, .int .i64 0]) /\ Below w.heap.size w w') := Lib.hid (fun w => press_calls (s := ⟨⟨raw⟩⟩) (by show raw.length <= 1000; omega) w)
  have hly : Hid (∀ w, Sb W w -> Calls Tryz.prog 29 #[pt fb, .string ⟨⟨shaF raw⟩⟩, .string ⟨⟨pressL raw⟩⟩] w fun e w' => e = .returned (.int .i64 0) /\ LsTo W fb L (shaF raw :: Fs) (shaF raw :: A) false (na + 1) (nn + 2) (nk + 2 * na + 6) w') := Lib.hid fun w hb => (lay_calls (h.below hb) hl hna hnn hnk hrl).mono fun e w' ⟨h1, s', L', h2, h3, h4⟩ => ⟨h1, s', L', h2, (Stp.below _ hb).trans h3, h4⟩
  have hkeep : Hid (∀ w, Sb W w -> LsTo W fb L Fs A false (na + 1) (nn + 2) (nk + 2 * na + 6) w) := Lib.hid fun w hb => ⟨s, L, h.below hb, Stp.below _ hb, hl.wide (by omega) (by omega) (by omega)⟩
  by_cases hin : shaF raw ∈ A
  . obtain ⟨j, hj, r2, hd, hr2, hsh⟩ := hl.now.fil _ hin
    have hg0 : Hid (∀ w, Sb W w -> Calls Tryz.prog 12 #[pt fb, .string ⟨⟨shaF raw⟩⟩] w fun e w' => e = .returned (.tuple #[.string ⟨⟨r2⟩⟩, .int .i64 0]) /\ Below w.heap.size w w') := Lib.hid fun w hb => by
      have := get_yes (h.below hb) hl.off hr2 (j := j) (by rw [hsh]; exact hj) hd
      rwa [hsh] at this
    by_cases he : r2 = raw
    . rw [he] at hg0
      have hbq := beq_self_eq_true (⟨⟨raw⟩⟩ : ByteArray).toList
      clear h hl hj hd hsh hin he hrl hraw
      go_enter Tryz.func8, Tryz.ntmps8
      go_wp2_with (first
        | (go_at_call 26; refine (hlk.out _).mono ?_; rintro r w1 ⟨rfl, hb⟩; have hS1 : Hid (Sb W w1) := Lib.hid hb; clear hb)
        | (go_at_call 27; refine (ho.out _).mono ?_; rintro r w2 ⟨rfl, hb⟩; have hS2 := Lib.hid (Sb.trans hS1.out hb); clear hb)
        | (go_at_call 12; refine (hg0.out _ hS2.out).mono ?_; rintro r w3 ⟨rfl, hb⟩; have hS3 := Lib.hid (Sb.trans hS2.out hb); clear hb))
      go_ret2
      exact ⟨rfl, _, _, hkeep.out _ hS3.out⟩
    . have hbq := str_ne (p := ⟨⟨r2⟩⟩) (q := ⟨⟨raw⟩⟩) (fun e => he (congrArg (fun b => b.data.toList) e))
      clear h hl hj hd hsh hin he hrl hraw
      generalize (⟨⟨r2⟩⟩ : ByteArray) = R2 at hg0 hbq
      generalize (⟨⟨raw⟩⟩ : ByteArray) = R at hlk ho hpr hbq ⊢
      go_enter Tryz.func8, Tryz.ntmps8
      go_wp2_with (first
        | (go_at_call 26; refine (hlk.out _).mono ?_; rintro r w1 ⟨rfl, hb⟩; have hS1 : Hid (Sb W w1) := Lib.hid hb; clear hb)
        | (go_at_call 27; refine (ho.out _).mono ?_; rintro r w2 ⟨rfl, hb⟩; have hS2 := Lib.hid (Sb.trans hS1.out hb); clear hb)
        | (go_at_call 12; refine (hg0.out _ hS2.out).mono ?_; rintro r w3 ⟨rfl, hb⟩; have hS3 := Lib.hid (Sb.trans hS2.out hb); clear hb)
        | (go_at_call 28; refine (hpr.out _).mono ?_; rintro r w4 ⟨rfl, hb⟩; have hS4 := Lib.hid (Sb.trans hS3.out hb); clear hb)
        | (go_at_call 29; refine (hly.out _ hS4.out).mono ?_; rintro r w5 ⟨rfl, hf⟩; have hfin := Lib.hid hf; clear hf))
      go_ret2
      exact ⟨rfl, _, _, hfin.out⟩
  . have hno := hl.now.noFil hid hin
    have hg0 : Hid (∀ w, Sb W w -> Calls Tryz.prog 12 #[pt fb, .string ⟨⟨shaF raw⟩⟩] w fun e w' => e = .returned (.tuple #[.string ⟨#[]⟩, .int .i64 2]) /\ Below w.heap.size w w') := Lib.hid fun w hb => get_no (h.below hb) hl.off hid hno
    clear h hl hno hin hrl hraw
    go_enter Tryz.func8, Tryz.ntmps8
    go_wp2_with (first
      | (go_at_call 26; refine (hlk.out _).mono ?_; rintro r w1 ⟨rfl, hb⟩; have hS1 : Hid (Sb W w1) := Lib.hid hb; clear hb)
      | (go_at_call 27; refine (ho.out _).mono ?_; rintro r w2 ⟨rfl, hb⟩; have hS2 := Lib.hid (Sb.trans hS1.out hb); clear hb)
      | (go_at_call 12; refine (hg0.out _ hS2.out).mono ?_; rintro r w3 ⟨rfl, hb⟩; have hS3 := Lib.hid (Sb.trans hS2.out hb); clear hb)
      | (go_at_call 28; refine (hpr.out _).mono ?_; rintro r w4 ⟨rfl, hb⟩; have hS4 := Lib.hid (Sb.trans hS3.out hb); clear hb)
      | (go_at_call 29; refine (hly.out _ hS4.out).mono ?_; rintro r w5 ⟨rfl, hf⟩; have hfin := Lib.hid hf; clear hf))
    go_ret2
    exact ⟨rfl, _, _, hfin.out⟩
set_option maxRecDepth 1000000 in
theorem drop_no (h : FsAt W fb L s) (hoff : s.off = false) {id : List UInt8} (hid : id.length = 32) (hj : s.now (PB id) = none) :
    Calls Tryz.prog 20 #[pt fb, .string ⟨⟨id⟩⟩] W fun e w' => e = .returned (.int .i64 2) /\ Below W.heap.size W w' := by
  have hz := PB_size hid
  have hpc := Lib.hid (fun w => path_calls hid w)
  have hrm : Hid (∀ w, Sb W w -> Calls Tryz.prog 42 #[pt fb, .string (PB id)] w fun e w' => e = .returned (.int .i64 2) /\ Below w.heap.size w w') := Lib.hid fun w hb => remove_no (h.below hb) hoff (PB_ok hid) (by omega) hj
  clear h hoff hj hz
  go_enter Tryz.func20, Tryz.ntmps20
  go_wp2_with (first
    | (go_at_call 21; refine (hpc.out _).mono ?_; rintro r w1 ⟨rfl, hb⟩; have hS1 : Hid (Sb W w1) := Lib.hid hb; clear hb)
    | (go_at_call 42; refine (hrm.out _ hS1.out).mono ?_; rintro r w2 ⟨rfl, hb⟩; have hS2 := Lib.hid (Sb.trans hS1.out hb); clear hb))
  go_ret
  exact ⟨rfl, hS2.out⟩
set_option maxRecDepth 1000000 in
theorem drop_yes (h : FsAt W fb L s) (hl : LS s Fs A false na nn nk) (hna : na <= 40) (hnk : nk <= 600) {id : List UInt8} (hid : id ∈ A) :
    Calls Tryz.prog 20 #[pt fb, .string ⟨⟨id⟩⟩] W fun e w' => e = .returned (.int .i64 0) /\ FsTo W fb L { s with now := delF s.now (PB id), k := s.k + 1, acts := s.acts ++ [.goes (PB id)] } w' := by
  have hlen := hl.now.lenA hid
  have hz := PB_size hlen
  have ba := hl.ba
  have bk := hl.bk
  obtain ⟨j, hj, _⟩ := hl.now.fil id hid
  have hpc := Lib.hid (fun w => path_calls hlen w)
  have hrm : Hid (∀ w, Sb W w -> Calls Tryz.prog 42 #[pt fb, .string (PB id)] w fun e w' => e = .returned (.int .i64 0) /\ FsTo W fb L { s with now := delF s.now (PB id), k := s.k + 1, acts := s.acts ++ [.goes (PB id)] } w') := Lib.hid fun w hb =>
    (remove_yes (h.below hb) hl.off (PB_ok hlen) (by omega) hj (hl.now.noKids hz) (by omega) (by omega)).mono fun e w' ⟨h1, L', h2, h3⟩ => ⟨h1, L', h2, (Stp.below _ hb).trans h3⟩
  clear h hl hj hz
  go_enter Tryz.func20, Tryz.ntmps20
  go_wp2_with (first
    | (go_at_call 21; refine (hpc.out _).mono ?_; rintro r w1 ⟨rfl, hb⟩; have hS1 : Hid (Sb W w1) := Lib.hid hb; clear hb)
    | (go_at_call 42; refine (hrm.out _ hS1.out).mono ?_; rintro r w2 ⟨rfl, hf⟩; have hfin := Lib.hid hf; clear hf))
  go_ret
  exact ⟨rfl, hfin.out⟩
end
end Go.Proofs
namespace Go.Proofs
open Go.RowKit Go.Ev Go.Lib Go.Shelf
attribute [local go_sem] Oper.semAt_some
theorem exists_map {α β : Type} {P : β -> Prop} {f : β -> α} : ∀ {l : List α}, (∀ x ∈ l, ∃ y, P y /\ x = f y) -> ∃ ys : List β, l = ys.map f /\ ∀ y ∈ ys, P y
  | [], _ => ⟨[], rfl, fun y hy => by cases hy⟩
  | x :: l, h => by
    obtain ⟨y, hy, rfl⟩ := h x (List.mem_cons_self ..)
    obtain ⟨ys, rfl, h2⟩ := exists_map fun z hz => h z (List.mem_cons_of_mem _ hz)
    exact ⟨y :: ys, rfl, fun z hz => by
      rcases List.mem_cons.1 hz with rfl | hz
      . exact hy
      . exact h2 z hz⟩
theorem nodup_of_map {α β : Type} {f : α -> β} {l : List α} (h : (l.map f).Nodup) : l.Nodup := by
  have := List.pairwise_map.1 h
  exact this.imp fun hne e => hne (congrArg f e)
theorem nodup_map_on {α β : Type} {f : α -> β} {l : List α} (h : l.Nodup) (hf : ∀ a ∈ l, ∀ b ∈ l, f a = f b -> a = b) : (l.map f).Nodup :=
  List.pairwise_map.2 (h.imp_of_mem fun ha hb hne e => hne (hf _ ha _ hb e))
def incN : List UInt8 := [105, 110, 99, 111, 109, 105, 110, 103]
noncomputable def dnm : Option (List UInt8) -> ByteArray
  | some a => ⟨⟨h0L a ++ [47]⟩⟩
  | none => ⟨⟨incN⟩⟩
noncomputable def tnm : Option (List UInt8) -> ByteArray
  | some a => ⟨⟨h0L a⟩⟩
  | none => ⟨⟨incN⟩⟩
noncomputable def pth : Option (List UInt8) -> ByteArray
  | some a => FB a
  | none => IB
abbrev HB : ByteArray := ⟨#[111, 98, 106, 101, 99, 116, 115, 47]⟩
theorem cat_tnm (j : Option (List UInt8)) : HB ++ tnm j = pth j := by
  cases j with
  | none => exact app_ofL homeL incN
  | some a => exact app_ofL homeL (h0L a)
theorem tnm_size (j : Option (List UInt8)) (h : ∀ a, j = some a -> a.length = 32) : (tnm j).size <= 8 := by
  cases j with
  | none => decide
  | some a => have := h0L_len (h a rfl); show (h0L a).length <= 8; omega
theorem dnm_inj {j k : Option (List UInt8)} (hj : ∀ a, j = some a -> a.length = 32) (hk : ∀ a, k = some a -> a.length = 32) (h : dnm j = dnm k) : (j = none ↔ k = none) /\ ∀ a b, j = some a -> k = some b -> FB a = FB b := by
  cases j with
  | none =>
    cases k with
    | none => exact ⟨Iff.rfl, fun a b h => by cases h⟩
    | some b =>
      have e : incN.length = (h0L b ++ [47]).length := congrArg List.length (ba_data h : incN = h0L b ++ [47])
      rw [List.length_append, h0L_len (hk b rfl)] at e
      cases e
  | some a =>
    cases k with
    | none =>
      have e : (h0L a ++ [47]).length = incN.length := congrArg List.length (ba_data h : h0L a ++ [47] = incN)
      rw [List.length_append, h0L_len (hj a rfl)] at e
      cases e
    | some b =>
      refine ⟨by simp, fun x y hx hy => ?_⟩
      cases hx; cases hy
      have e : h0L a = h0L b := List.append_cancel_right (ba_data h : h0L a ++ [47] = h0L b ++ [47])
      show (⟨⟨homeL ++ h0L a⟩⟩ : ByteArray) = ⟨⟨homeL ++ h0L b⟩⟩
      rw [e]
theorem trim_j (j : Option (List UInt8)) (hj : ∀ a, j = some a -> a.length = 32) (w : World) : Calls Tryz.prog 52 #[.string (dnm j), .string ⟨#[47]⟩] w fun e w' => e = .returned (.string (tnm j)) /\ Below w.heap.size w w' := by
  cases j with
  | none => exact trimSuf_calls_no w [105, 110, 99, 111, 109, 105, 110] 103 (by decide) (by decide)
  | some a => exact trimSuf_calls_yes w (h0L a) (by rw [h0L_len (hj a rfl)]; decide)
theorem suf_j (j : Option (List UInt8)) (hj : ∀ a, j = some a -> a.length = 32) (w : World) : Calls Tryz.prog 56 #[.string (dnm j), .string ⟨#[47]⟩] w fun e w' => e = .returned (.bool j.isSome) /\ Below w.heap.size w w' := by
  cases j with
  | none => exact hasSuf_calls (l := [105, 110, 99, 111, 109, 105, 110]) (c := 103) (by decide) w
  | some a => exact hasSuf_calls (l := h0L a) (c := 47) (by rw [h0L_len (hj a rfl)]; decide) w
section
variable {W : World} {fb : Nat} {L : Lay} {s : St} {Fs A : List (List UInt8)} {i : Bool}
theorem Good.hU (h : Good s.now s.nodes Fs A i) : ∀ q j, s.now q = some j -> q.size <= 1000 /\ UpIs q (UB q) /\ ∃ d, s.nodes[j]? = some d /\ d.dir = DB q := fun q j hj => by
  refine ⟨?_, h.up hj, h.node hj⟩
  have := h.size hj
  omega
def JsOk (M : Nm) (nodes : List Nd) (Fs : List (List UInt8)) (js : List (Option (List UInt8))) : Prop := (js.map dnm).Nodup /\ (∀ a, some a ∈ js -> a ∈ Fs) /\ (none ∈ js -> ∃ j, M IB = some j /\ Filn nodes j) /\ ∀ a ∈ Fs, ∃ b, some b ∈ js /\ FB b = FB a
theorem list_home (h : FsAt W fb L s) (hg : Good s.now s.nodes Fs A i) (hoff : s.off = false) (hk : s.k <= 1000) :
    Calls Tryz.prog 51 #[pt fb, .string OB] W fun e w' => ∃ v js, e = .returned (.tuple #[v, .int .i64 0]) /\ JsOk s.now s.nodes Fs js /\ StrRow w' W.heap.size v (js.map dnm) /\ Below W.heap.size W w' := by
  have hcl : ∀ q j, s.now q = some j -> UB q = OB -> (∃ a ∈ Fs, q = FB a) \/ (q = IB /\ Filn s.nodes j) := fun q j hj hu => by
    rcases hg.only q j hj with rfl | ⟨a, ha, rfl⟩ | ⟨a, ha, rfl⟩ | ⟨_, rfl, hf⟩
    . exact absurd hu (by rw [UB_O]; decide)
    . exact .inl ⟨a, ha, rfl⟩
    . rw [UB_P (hg.lenA ha)] at hu
      exact absurd hu (FB_neO (hg.lenA ha))
    . exact .inr ⟨rfl, hf⟩
  have hnF : ∀ a, a ∈ Fs -> nameL TB DB (FB a) = dnm (some a) := fun a ha => by
    unfold nameL
    rw [TB_F (hg.len a ha), DB_F (hg.len a ha)]
    rfl
  have hnI : nameL TB DB IB = dnm none := rfl
  refine (list_calls (T := TB) h hoff OB_ok (by decide) hg.folO hg.hU (fun q j hj hu => ?_) hk).mono ?_
  . rcases hcl q j hj hu with ⟨a, ha, rfl⟩ | ⟨rfl, _⟩
    . rw [TB_F (hg.len a ha)]; rfl
    . rfl
  . rintro e w' ⟨v, qs, l, rfl, hnd, hq, hp, hrow, hb⟩
    have hl : ∀ x ∈ l, ∃ j : Option (List UInt8), ((∀ a, j = some a -> a ∈ Fs) /\ (j = none -> ∃ k, s.now IB = some k /\ Filn s.nodes k)) /\ x = dnm j := fun x hx => by
      obtain ⟨q, hq1, rfl⟩ := List.mem_map.1 (hp.mem_iff.1 hx)
      obtain ⟨hs, hu⟩ := (hq q).1 hq1
      obtain ⟨j, hj⟩ := Option.isSome_iff_exists.1 hs
      rcases hcl q j hj hu with ⟨a, ha, rfl⟩ | ⟨rfl, hf⟩
      . exact ⟨some a, ⟨(fun b hb => by cases hb; exact ha), (fun hb => by cases hb)⟩, hnF a ha⟩
      . exact ⟨none, ⟨(fun b hb => by cases hb), fun _ => ⟨j, hj, hf⟩⟩, hnI⟩
    obtain ⟨js, rfl, hjs⟩ := exists_map hl
    refine ⟨v, js, rfl, ⟨hp.nodup_iff.2 (nodup_map_on hnd fun q hq1 q' hq2 e => ?_), fun a ha => (hjs _ ha).1 a rfl, fun hn => (hjs _ hn).2 rfl, fun a ha => ?_⟩, hrow, hb⟩
    . obtain ⟨hs, hu⟩ := (hq q).1 hq1
      obtain ⟨j, hj⟩ := Option.isSome_iff_exists.1 hs
      obtain ⟨hs', hu'⟩ := (hq q').1 hq2
      obtain ⟨j', hj'⟩ := Option.isSome_iff_exists.1 hs'
      rcases hcl q j hj hu with ⟨a, ha, rfl⟩ | ⟨rfl, _⟩
      . rcases hcl q' j' hj' hu' with ⟨b, hb', rfl⟩ | ⟨rfl, _⟩
        . rw [hnF a ha, hnF b hb'] at e
          exact (dnm_inj (fun x hx => by cases hx; exact hg.len a ha) (fun x hx => by cases hx; exact hg.len b hb') e).2 a b rfl rfl
        . rw [hnF a ha, hnI] at e
          exact absurd ((dnm_inj (fun x hx => by cases hx; exact hg.len a ha) (fun x hx => by cases hx) e).1.2 rfl) (by simp)
      . rcases hcl q' j' hj' hu' with ⟨b, hb', rfl⟩ | ⟨rfl, _⟩
        . rw [hnF b hb', hnI] at e
          exact absurd ((dnm_inj (fun x hx => by cases hx) (fun x hx => by cases hx; exact hg.len b hb') e).1.1 rfl) (by simp)
        . rfl
    . obtain ⟨j, hj, _⟩ := hg.fol a ha
      have hin : FB a ∈ qs := (hq _).2 ⟨by rw [hj]; rfl, UB_F (hg.len a ha)⟩
      have : dnm (some a) ∈ js.map dnm := hp.mem_iff.2 (List.mem_map.2 ⟨_, hin, hnF a ha⟩)
      obtain ⟨k, hk1, hk2⟩ := List.mem_map.1 this
      have hkl : ∀ x, k = some x -> x.length = 32 := fun x hx => hg.len x ((hjs k hk1).1 x hx)
      have hd := dnm_inj hkl (fun x hx => by cases hx; exact hg.len a ha) hk2
      cases k with
      | none => exact absurd (hd.1.1 rfl) (by simp)
      | some b => exact ⟨b, hk1, hd.2 b a rfl rfl⟩
def IsOk (A : List (List UInt8)) (j : Option (List UInt8)) (is : List (List UInt8)) : Prop := is.Nodup /\ ∀ x, x ∈ is ↔ x ∈ A /\ ∃ a, j = some a /\ FB a = FB x
theorem list_fol (h : FsAt W fb L s) (hg : Good s.now s.nodes Fs A i) (hoff : s.off = false) (hk : s.k <= 1000) {a : List UInt8} (ha : a ∈ Fs) :
    Calls Tryz.prog 51 #[pt fb, .string (FB a)] W fun e w' => ∃ v is, e = .returned (.tuple #[v, .int .i64 0]) /\ IsOk A (some a) is /\ StrRow w' W.heap.size v (is.map fun x => (⟨⟨h1L x⟩⟩ : ByteArray)) /\ Below W.heap.size W w' := by
  have hal := hg.len a ha
  have hcl : ∀ q j, s.now q = some j -> UB q = FB a -> ∃ x ∈ A, q = PB x /\ FB x = FB a := fun q j hj hu => by
    rcases hg.only q j hj with rfl | ⟨x, hx, rfl⟩ | ⟨x, hx, rfl⟩ | ⟨_, rfl, hf⟩
    . have hz := FB_size hal
      rw [<- hu, UB_O] at hz
      cases hz
    . rw [UB_F (hg.len x hx)] at hu
      exact absurd hu.symm (FB_neO hal)
    . rw [UB_P (hg.lenA hx)] at hu
      exact ⟨x, hx, rfl, hu⟩
    . have hz := FB_size hal
      rw [<- hu, UB_I] at hz
      cases hz
  have hnP : ∀ x, x ∈ A -> nameL TB DB (PB x) = ⟨⟨h1L x⟩⟩ := fun x hx => by
    unfold nameL
    rw [TB_P (hg.lenA hx), DB_P (hg.lenA hx)]
    show ofL (h1L x ++ []) = _
    rw [List.append_nil]; rfl
  refine (list_calls (T := TB) h hoff (FB_ok hal) (FB_neN hal) (hg.folF ha) hg.hU (fun q j hj hu => ?_) hk).mono ?_
  . obtain ⟨x, hx, rfl, hf⟩ := hcl q j hj hu
    rw [TB_P (hg.lenA hx), <- hf]
    show (⟨⟨folL x ++ [47] ++ h1L x⟩⟩ : ByteArray) = ofL (folL x ++ 47 :: h1L x)
    rw [List.append_assoc]; rfl
  . rintro e w' ⟨v, qs, l, rfl, hnd, hq, hp, hrow, hb⟩
    have hl : ∀ x ∈ l, ∃ y : List UInt8, (y ∈ A /\ FB y = FB a) /\ x = ⟨⟨h1L y⟩⟩ := fun x hx => by
      obtain ⟨q, hq1, rfl⟩ := List.mem_map.1 (hp.mem_iff.1 hx)
      obtain ⟨hs, hu⟩ := (hq q).1 hq1
      obtain ⟨j, hj⟩ := Option.isSome_iff_exists.1 hs
      obtain ⟨y, hy, rfl, hf⟩ := hcl q j hj hu
      exact ⟨y, ⟨hy, hf⟩, hnP y hy⟩
    obtain ⟨is, rfl, his⟩ := exists_map hl
    refine ⟨v, is, rfl, ⟨nodup_of_map (hp.nodup_iff.2 (nodup_map_on hnd fun q hq1 q' hq2 e => ?_)), fun x => ⟨fun hx => ⟨(his x hx).1, a, rfl, (his x hx).2.symm⟩, ?_⟩⟩, hrow, hb⟩
    . obtain ⟨hs, hu⟩ := (hq q).1 hq1
      obtain ⟨j, hj⟩ := Option.isSome_iff_exists.1 hs
      obtain ⟨hs', hu'⟩ := (hq q').1 hq2
      obtain ⟨j', hj'⟩ := Option.isSome_iff_exists.1 hs'
      obtain ⟨y, hy, rfl, hf⟩ := hcl q j hj hu
      obtain ⟨z, hz, rfl, hf'⟩ := hcl q' j' hj' hu'
      rw [hnP y hy, hnP z hz] at e
      exact PB_of (hf.trans hf'.symm) (ba_data e)
    . rintro ⟨hx, b, hb', hf⟩
      cases hb'
      obtain ⟨j, hj, _⟩ := hg.fil x hx
      have hin : PB x ∈ qs := (hq _).2 ⟨by rw [hj]; rfl, by rw [UB_P (hg.lenA hx), hf]⟩
      have : (⟨⟨h1L x⟩⟩ : ByteArray) ∈ is.map fun x => (⟨⟨h1L x⟩⟩ : ByteArray) := hp.mem_iff.2 (List.mem_map.2 ⟨_, hin, hnP x hx⟩)
      obtain ⟨y, hy, hy2⟩ := List.mem_map.1 this
      have := PB_inj (hg.lenA (his y hy).1) (hg.lenA hx) (PB_of ((his y hy).2.trans hf) (ba_data hy2))
      exact this ▸ hy
set_option maxRecDepth 1000000 in
theorem list_file (h : FsAt W fb L s) (hoff : s.off = false) {j : Nat} (hj : s.now IB = some j) (hf : Filn s.nodes j) :
    Calls Tryz.prog 51 #[pt fb, .string IB] W fun e w' => e = .returned (.tuple #[.slice none 0 0, .int .i64 2]) /\ Below W.heap.size W w' := by
  obtain ⟨d, hd, hdd⟩ := hf
  have hde := Lib.hid (dead_calls h)
  rw [hoff] at hde
  have hfo : Hid (∀ w, Sb W w -> Calls Tryz.prog 31 #[pt fb, .string IB] w fun e w' => e = .returned (.bool false) /\ w' = w) := Lib.hid fun w hb => by
    have := fol_yes (h.below hb) (p := IB) (by decide) (by decide) hj hd
    rwa [hdd] at this
  have hpa : Hid (PathOk IB) := Lib.hid IB_ok
  clear h hoff hj hd hdd
  go_enter Tryz.func51, Tryz.ntmps51
  go_wp2_with (first
    | (go_at_call 46; refine hde.out.mono ?_; rintro r1 w1 ⟨rfl, hw⟩; rw [hw]; clear hw)
    | (go_at_call 69; refine (hpa.out _).mono ?_; rintro r1 w1 ⟨rfl, hb⟩; have hS1 : Hid (Sb W w1) := Lib.hid hb; clear hb)
    | (go_at_call 31; refine (hfo.out _ hS1.out).mono ?_; rintro r1 w3 ⟨rfl, hw⟩; rw [hw]; clear hw))
  go_ret2
  exact ⟨rfl, hS1.out⟩
theorem list_j (h : FsAt W fb L s) (hg : Good s.now s.nodes Fs A i) (hoff : s.off = false) (hk : s.k <= 1000) {js : List (Option (List UInt8))} (hjs : JsOk s.now s.nodes Fs js) {j : Option (List UInt8)} (hj : j ∈ js) :
    Calls Tryz.prog 51 #[pt fb, .string (pth j)] W fun e w' => ∃ v is ec, e = .returned (.tuple #[v, .int .i64 ec]) /\ IsOk A j is /\ StrRow w' W.heap.size v (is.map fun x => (⟨⟨h1L x⟩⟩ : ByteArray)) /\ Below W.heap.size W w' := by
  cases j with
  | none =>
    obtain ⟨k, h1, h2⟩ := hjs.2.2.1 hj
    refine (list_file h hoff h1 h2).mono ?_
    rintro e w' ⟨rfl, hb⟩
    exact ⟨_, [], 2, rfl, ⟨List.nodup_nil, fun x => ⟨fun hx => (by cases hx), fun ⟨_, a, ha, _⟩ => by cases ha⟩⟩, World.ownsRow_nil _ _ _ _, hb⟩
  | some a =>
    refine (list_fol h hg hoff hk (hjs.2.1 a hj)).mono ?_
    rintro e w' ⟨v, is, rfl, h1, h2, h3⟩
    exact ⟨v, is, 0, rfl, h1, h2, h3⟩
end
end Go.Proofs
