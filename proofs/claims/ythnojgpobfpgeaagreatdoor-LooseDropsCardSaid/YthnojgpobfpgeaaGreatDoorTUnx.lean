/- code.Unhex at the digits of an id. -/
import Derived.Test.YthnojgpobfpgeaaGreatDoorTTak
import Derived.Test.YthnojgpobfpgeaaGreatDoorTLinks
import Derived.Test.YthnojgpobfpgeaaGreatDoorTUpR
import Derived.Test.YthnojgpobfpgeaaGreatDoorTFsW
import Derived.Test.YthnojgpobfpgeaaGreatDoorTFsK
import Derived.Test.YthnojgpobfpgeaaGreatDoorTFsZ
import Derived.Test.YthnojgpobfpgeaaGreatDoorTSprE
import Derived.Test.YthnojgpobfpgeaaGreatDoorTLooB
set_option linter.unusedVariables false
set_option linter.unusedSimpArgs false
namespace Go.Proofs
open Go.RowKit Go.Ev Go.Lib
attribute [local go_sem] Oper.semAt_some
theorem row_form2 {w : World} {base n size : Nat} {e : TypeId} {v : Value} {xs : List Value} (h : w.ownsRow base e size v n xs) : ∃ o c, v = .slice o n c := by
  rcases h.2 with ⟨rfl, rfl⟩ | ⟨g, cap, _, hv, _⟩
  . exact ⟨none, 0, rfl⟩
  . exact ⟨_, cap, hv⟩
set_option maxRecDepth 1000000 in
theorem conv_row {W : World} {base : Nat} {o : Option Addr} {n c : Nat} {l : List UInt8} (h : W.ownsRow base 5 1 (.slice o n c) l.length (bcells l)) : (convert 71 9 (.slice o n c)).run Tryz.prog W = .ok (.string ⟨⟨l⟩⟩) W := by
  rcases h.2 with ⟨hv, h0⟩ | ⟨g, cap, cur, hv, hb, hg, _⟩
  . injection hv with h1 h2 h3
    subst h1 h2 h3
    have : l = [] := List.length_eq_zero_iff.1 h0
    subst this
    exact run_convert_bytes_nil W 71 5 Tryz.underlying71 Tryz.underlying5 0 0 9 Tryz.underlying9
  . injection hv with h1 h2 h3
    subst h1 h2 h3
    refine run_convert_bytes_back (P := Tryz.prog) W 71 9 5 ⟨g, 0, none⟩ c l Tryz.underlying71 Tryz.underlying5 Tryz.underlying9 fun j hj => ?_
    exact h.cells (g := g) rfl j _ (by unfold bcells; rw [List.getElem?_map, List.getElem?_eq_getElem hj]; rfl)
def hexB : List UInt8 := [48, 49, 50, 51, 52, 53, 54, 55, 56, 57, 97, 98, 99, 100, 101, 102]
noncomputable def specsX : List (FuncId × Spec) := [(152, sIndexByte)]
noncomputable abbrev runX : Go.Ev.Call := evF (envOf specsX) 100000 200
noncomputable def idxB (n : Nat) : Bool := sameRes (runX 92 [str hexB, .int .u8 (.ofNat (digL n).toNat)] Heap.empty) (.int .i64 (.ofNat n))
set_option maxRecDepth 1000000 in
theorem idx16 : allN idxB 0 16 = true := by kernel_rfl
theorem idx_calls {n : Nat} (h : n < 16) (w : World) : Calls Tryz.prog 92 ⟨[str hexB, .int .u8 (.ofNat (digL n).toNat)]⟩ w fun e w' => e = .returned (.int .i64 (.ofNat n)) /\ Below w.heap.size w w' := by
  letI : Sg := sgF (fun _ => .int .i64 0) fun _ => rfl
  have h1 := allN_ok idx16 n h
  rw [Nat.zero_add] at h1
  obtain ⟨H, hrun⟩ := sameRes_ok h1
  refine (calls_closed env_ok mixed (funsOk rfl) (specs_of rfl (fun e he => by
    rcases List.mem_cons.1 he with rfl | he
    . exact indexByte_ok ext152
    . cases he)) 100000 200 hrun (.cons (.string _) (.cons (.int _ _) .nil)) w (by rw [Tryz.func92]; rfl)).mono ?_
  rintro e w' ⟨u, rfl, ⟨ρ, hV⟩, hb⟩
  cases hV
  exact ⟨rfl, hb⟩
theorem hexL_even : ∀ (id : List UInt8) (m : Nat) (h : m < id.length), (hexL id).getD (2 * m) 0 = digL (id[m].toNat / 16)
  | [], _, h => absurd h (Nat.not_lt_zero _)
  | c :: l, 0, _ => rfl
  | c :: l, m + 1, h => by
    have ih := hexL_even l m (by simpa using h)
    show (digL (c.toNat / 16) :: digL (c.toNat % 16) :: hexL l).getD (2 * (m + 1)) 0 = _
    rw [show 2 * (m + 1) = 2 * m + 1 + 1 by omega, List.getD_cons_succ, List.getD_cons_succ, ih]
    rfl
theorem hexL_odd : ∀ (id : List UInt8) (m : Nat) (h : m < id.length), (hexL id).getD (2 * m + 1) 0 = digL (id[m].toNat % 16)
  | [], _, h => absurd h (Nat.not_lt_zero _)
  | c :: l, 0, _ => rfl
  | c :: l, m + 1, h => by
    have ih := hexL_odd l m (by simpa using h)
    show (digL (c.toNat / 16) :: digL (c.toNat % 16) :: hexL l).getD (2 * (m + 1) + 1) 0 = _
    rw [show 2 * (m + 1) + 1 = 2 * m + 1 + 1 + 1 by omega, List.getD_cons_succ, List.getD_cons_succ, ih]
    rfl
def UnxAt (w W0 : World) (id : List UInt8) (m : Nat) (vo : Value) (wr : World) : Prop :=
  Below w.heap.size w wr /\ w.heap.size + 1 <= wr.heap.size /\ wr.heap[w.heap.size]? = W0.heap[w.heap.size]? /\ wr.ownsRow (w.heap.size + 1) 5 1 vo (id.take m).length (bcells (id.take m))
def UnxMid (w W0 : World) (id : List UInt8) (m : Nat) (vo : Value) (wr : World) : Prop :=
  Below w.heap.size w wr /\ w.heap.size + 1 <= wr.heap.size /\ wr.heap[w.heap.size]? = W0.heap[w.heap.size]? /\ wr.ownsRow (w.heap.size + 1) 5 1 vo (m + 1) (bcells (id.take m) ++ [.int .u8 ((id.getD m 0).toNat / 16 * 16 : Nat)])
theorem info5p : (Tryz.prog.info? 5).map (fun i => (i.zero, i.size, i.bytes)) = some (some (.int .u8 0), 1, 1) := by kernel_rfl
set_option maxHeartbeats 4000000 in
set_option maxRecDepth 1000000 in
theorem unhex_calls {s : ByteArray} {id : List UInt8} (hid : id.length = 32) (hs : s.data.toList = hexL id) (w : World) :
    Calls Tryz.prog 53 #[.string s] w fun e w' => e = .returned (.tuple #[.string ⟨⟨id⟩⟩, .int .i64 0]) /\ Below w.heap.size w w' := by
  obtain ⟨i0, hi0, hz0, hz1, hz2⟩ := info_parts info5p
  have hcv : ∀ W : World, (convert 9 71 (.string s)).run Tryz.prog W = _ := fun W => Lib.run_convert_string_bytes W 9 71 5 s Tryz.underlying9 Tryz.underlying71 Tryz.underlying5
  have hsz : s.size = 64 := by
    have : s.data.toList.length = s.size := by simp
    rw [<- this, hs, hexL_length, hid]
  have hsi : (s.size : Int) = 64 := by omega
  have hm0 : Int.tmod (s.size : Int) 2 = 0 := by rw [hsi]; decide
  have hsH := Lib.hid (And.intro hid hs)
  clear hid hs
  go_enter Tryz.func53, Tryz.ntmps53
  go_wp2
  generalize hW0 : Lib.bytesWorld w 5 s = W0
  have hsz0 : W0.heap.size = w.heap.size + 1 := by rw [<- hW0, Lib.bytesWorld_size]
  have hcell0 : ∀ j, j < s.size -> W0.cell? ⟨w.heap.size, j, none⟩ = some (.int .u8 (s.data.toList.getD j 0).toNat) := fun j hj => by
    have := Lib.bytesWorld_cell w 5 s j hj
    rw [hW0] at this
    exact this
  have hbel : Below w.heap.size w W0 := by rw [<- hW0]; exact (Below.refl _ _).grown (bytesWorld_grown w 5 s) (Nat.le_refl _) (fun k hk => by cases hk)
  have hcH := Lib.hid hcell0
  clear hcv hW0 hcell0 hm0
  go_loopw [15, 4, 5, 6, 7] (fun vi vo _ _ _ wr => ∃ m : Nat, (m <= 32 /\ vi = .int .i64 ((2 * m : Nat) : Int) /\ UnxAt w W0 id m vo wr) \/ (m < 32 /\ vi = .int .i64 ((2 * m + 1 : Nat) : Int) /\ UnxMid w W0 id m vo wr)) (fun vi _ _ _ _ _ => 64 - (valOf vi).toNat)
  case atStart => exact ⟨0, .inl ⟨Nat.zero_le _, rfl, hbel, by omega, rfl, World.ownsRow_nil _ _ _ _⟩⟩
  case round =>
    obtain ⟨m, ⟨hm, rfl, hb, hb1, hb2, hrow⟩ | ⟨hm, rfl, hb, hb1, hb2, hrow⟩⟩ := hrel
    . by_cases hlt : m < 32
      . have hlt' : ((2 * m : Nat) : Int) < (s.size : Int) := by omega
        have hml : m < id.length := by have := hsH.out.1; omega
        have hc : wr.cell? ⟨w.heap.size, 2 * m, none⟩ = some (.int .u8 (digL (id[m].toNat / 16)).toNat) := by
          rw [<- hexL_even id m hml, <- hsH.out.2]
          exact (World.cell?_of_block hb2).trans (hcH.out (2 * m) (by omega))
        have hcl := id[m].toNat_lt
        obtain ⟨d, hd⟩ : ∃ d, d = id[m].toNat / 16 := ⟨_, rfl⟩
        have hd16 : d < 16 := by omega
        rw [<- hd] at hc
        have hix := Lib.hid (fun W => idx_calls hd16 W)
        obtain ⟨i, hi⟩ : ∃ i, i = 2 * m := ⟨_, rfl⟩
        rw [<- hi] at hc hlt' ⊢
        have e1 : Int.tmod (i : Int) 2 = 0 := by show ((i % 2 : Nat) : Int) = 0; omega
        obtain ⟨q, hq⟩ : ∃ q, q = d * 16 := ⟨_, rfl⟩
        have e2 : (d : Int) * 16 = (q : Int) := by omega
        have e3 : IntKind.i64.wrap (q : Int) = (q : Int) := wrapI64 _ (by omega)
        have e4 : IntKind.u8.wrap (q : Int) = (q : Int) := by rw [wrapU8, Nat.mod_eq_of_lt (by omega)]
        have e5 : ¬ (d : Int) < 0 := by omega
        have hH := Lib.hid (And.intro hb (And.intro hb1 (And.intro hb2 hrow)))
        have hn := Lib.hid (And.intro hi (And.intro hq hd))
        clear hb hb1 hb2 hrow hcl hi hq hd
        go_wp2_with (first
          | (go_at_call 92; refine (hix.out _).mono ?_; rintro r1 w5 ⟨rfl, hb5⟩; have hb5' := Lib.hid hb5; clear hb5)
          | (at_builtin; go_loud (refine wpList_append_lies _ rfl _ _ _ rfl (w.heap.size + 1) 5 i0 _ 1 1 Tryz.underlying71 hi0 hz0 hz1 hz2 rfl (by omega) u4 (id.take m).length (bcells (id.take m)) rfl ((row_kept hH.out.2.2.2 fun g hg => hb5'.out.block g (hH.out.2.2.2.lt g hg).2).alloc _) ⟨w5.heap.size, 0, none⟩ 1 1 [.int .u8 (q : Int)] rfl rfl (World.news_of_block (cs := #[.int .u8 (q : Int)]) (t := 5) (fr := (0, 0)) (heap_alloc_new w5 _)) (by intro u hu; simp at hu; subst hu; rfl) (by omega) (by unfold maxLen; rw [List.length_take]; omega) (by rw [List.length_take]; omega) (Nat.le_trans hH.out.2.1 (Nat.le_trans hb5'.out.size (by simp))) (w5.heap.size + 1) (by simp) ?_; intro gg cap6 w6 hown6 hgrow hat hlt6; rw [List.length_take] at hown6; have hown6' := Lib.hid hown6; have hgrow' := Lib.hid hgrow; clear hown6 hgrow hat hlt6)))
        clear e1 e2 e3 e4 e5
        obtain ⟨hb, hb1, hb2, hrow⟩ := hH.out
        obtain ⟨rfl, rfl, rfl⟩ := hn.out
        have hmin : min m id.length = m := Nat.min_eq_left (by omega)
        have hW6 : Below (w.heap.size + 1) wr w6 := ((hb5'.out.mono hb1).alloc (Nat.le_trans hb1 hb5'.out.size) _).grown hgrow'.out (Nat.le_trans hb1 (Nat.le_trans hb5'.out.size (by simp))) (fun k hk => (hrow.lt k hk).1)
        refine ⟨⟨m, .inr ⟨hlt, by push_cast; rfl, hb.trans (hW6.mono (Nat.le_succ _)), Nat.le_trans hb1 hW6.size, (hW6.block _ (by omega)).trans hb2, ?_⟩⟩, ?_⟩
        . have h6 := hown6'.out
          rw [hmin] at h6 ⊢
          have e : (id.getD m 0).toNat = id[m].toNat := by simp [List.getD, List.getElem?_eq_getElem hml]
          rw [e]
          exact h6
        . simp [valOf]; omega
      . have hlt' : ¬ ((2 * m : Nat) : Int) < (s.size : Int) := by omega
        have hm32 : m = 32 := by omega
        obtain ⟨ov, cv, rfl⟩ := row_form2 hrow
        have htk : id.take m = id := List.take_of_length_le (by have := hsH.out.1; omega)
        rw [htk] at hrow
        have hcb := conv_row hrow
        have hbH := Lib.hid hb
        rw [htk]
        clear hb1 hb2 hrow hb htk
        go_wp2
        go_ret2
        exact ⟨rfl, hbH.out⟩
    . have hlt' : ((2 * m + 1 : Nat) : Int) < (s.size : Int) := by omega
      have hml : m < id.length := by have := hsH.out.1; omega
      have hc : wr.cell? ⟨w.heap.size, 2 * m + 1, none⟩ = some (.int .u8 (digL (id[m].toNat % 16)).toNat) := by
        rw [<- hexL_odd id m hml, <- hsH.out.2]
        exact (World.cell?_of_block hb2).trans (hcH.out (2 * m + 1) (by omega))
      have hcl := id[m].toNat_lt
      have hgd : (id.getD m 0).toNat = id[m].toNat := by simp [List.getD, List.getElem?_eq_getElem hml]
      rw [hgd] at hrow
      obtain ⟨N, hN⟩ : ∃ N, N = id[m].toNat := ⟨_, rfl⟩
      obtain ⟨d, hd⟩ : ∃ d, d = N % 16 := ⟨_, rfl⟩
      have hd16 : d < 16 := by omega
      rw [<- hN] at hrow hc hcl
      rw [<- hd] at hc
      have hix := Lib.hid (fun W => idx_calls hd16 W)
      obtain ⟨i, hi⟩ : ∃ i, i = 2 * m + 1 := ⟨_, rfl⟩
      rw [<- hi] at hc hlt' ⊢
      obtain ⟨q, hq⟩ : ∃ q, q = N / 16 * 16 := ⟨_, rfl⟩
      rw [<- hq] at hrow
      obtain ⟨g, cap, rfl, hg1, hg2⟩ := hrow.form (by omega)
      have hcm0 := hrow.cells (g := g) rfl m (.int .u8 (q : Int)) (by
        have hl : (bcells (id.take m)).length = m := by unfold bcells; rw [List.length_map, List.length_take]; omega
        rw [List.getElem?_append_right (by omega), hl, Nat.sub_self]
        rfl)
      rw [add_none] at hcm0
      have hfr := Lib.hid (fun j => hrow.frozenAt j)
      have e1 : Int.tmod (i : Int) 2 = 1 := by show ((i % 2 : Nat) : Int) = 1; omega
      have e2 : ((m + 1 : Nat) : Int) - 1 = (m : Int) := by omega
      have e2' : (m : Int) + 1 - 1 = (m : Int) := by omega
      have e3 : IntKind.i64.wrap (m : Int) = (m : Int) := wrapI64 _ (by omega)
      have e4 : IntKind.u8.wrap (d : Int) = (d : Int) := by rw [wrapU8, Nat.mod_eq_of_lt (by omega)]
      have e5 : ¬ (d : Int) < 0 := by omega
      have e6 : (q : Int) + (d : Int) = (N : Int) := by omega
      have e7 : IntKind.u8.wrap (N : Int) = (N : Int) := by rw [wrapU8, Nat.mod_eq_of_lt (by omega)]
      have e8 : (m : Int) < ((m + 1 : Nat) : Int) := by omega
      have hH := Lib.hid (And.intro hb (And.intro hb1 (And.intro hb2 hrow)))
      have hn := Lib.hid (And.intro hi (And.intro hq (And.intro hd hN)))
      have hcm0H := Lib.hid hcm0
      clear hb hb1 hb2 hrow hcl hi hq hd hcm0
      go_wp2_with (go_at_call 92; refine (hix.out _).mono ?_; rintro r1 w5 ⟨rfl, hb5⟩; have hcm := (World.cell?_of_block (hb5.block g hg2)).trans hcm0H.out; have hrow5 := row_kept hH.out.2.2.2 (w' := w5) (fun k hk => hb5.block k (hH.out.2.2.2.lt k hk).2); have hf5 := hrow5.frozenAt m; have hrow5H := Lib.hid hrow5; have hb5' := Lib.hid hb5; clear hb5 hrow5)
      clear e1 e2 e2' e3 e4 e5 e6 e7 e8
      obtain ⟨hb, hb1, hb2, hrow⟩ := hH.out
      obtain ⟨hi, hq, hd, hN⟩ := hn.out
      obtain ⟨h6, hg6⟩ := hrow5H.out.stored m (.int .u8 (id[m].toNat : Int))
      have e9 : ((id[m].toNat : Int) % 256) = (id[m].toNat : Int) := by have := id[m].toNat_lt; omega
      have hl : (bcells (id.take m)).length = m := by unfold bcells; rw [List.length_map, List.length_take]; omega
      have e10 : (bcells (id.take m) ++ [Value.int .u8 (q : Int)]).set m (.int .u8 (id[m].toNat : Int)) = bcells (id.take (m + 1)) := by
        rw [List.set_append_right _ _ (by omega), hl, Nat.sub_self, List.take_succ_eq_append_getElem hml]
        unfold bcells
        rw [List.map_append]
        rfl
      rw [e10] at h6
      have hlt1 : (id.take (m + 1)).length = m + 1 := by rw [List.length_take]; omega
      rw [e9]
      have hW6 : Below (w.heap.size + 1) wr (w5.setCell ⟨g, m, none⟩ (.int .u8 (id[m].toNat : Int))) := (hb5'.out.mono hb1).grown hg6 (Nat.le_trans hb1 hb5'.out.size) (fun k hk => by injection hk with hk; omega)
      refine ⟨⟨m + 1, .inl ⟨by omega, by rw [hi]; push_cast; rfl, hb.trans (hW6.mono (Nat.le_succ _)), Nat.le_trans hb1 hW6.size, (hW6.block _ (by omega)).trans hb2, ?_⟩⟩, ?_⟩
      . rw [hlt1]
        exact h6
      . simp [valOf]; omega
end Go.Proofs
namespace Go.Proofs
open Go.Ev Go.RowKit
noncomputable abbrev PB (id : List UInt8) : ByteArray := ⟨⟨pathL id⟩⟩
noncomputable abbrev FB (id : List UInt8) : ByteArray := ⟨⟨folL id⟩⟩
abbrev OB : ByteArray := ⟨#[111, 98, 106, 101, 99, 116, 115]⟩
abbrev IB : ByteArray := ⟨#[111, 98, 106, 101, 99, 116, 115, 47, 105, 110, 99, 111, 109, 105, 110, 103]⟩
abbrev NB : ByteArray := ⟨#[]⟩
theorem hex2 (a b : UInt8) (h1 : digL (a.toNat / 16) = digL (b.toNat / 16)) (h2 : digL (a.toNat % 16) = digL (b.toNat % 16)) : a = b := by
  have dinj : ∀ m n : Nat, m < 16 -> n < 16 -> digL m = digL n -> m = n := by
    intro m n hm hn h
    have e : (digL m).toNat = (digL n).toNat := by rw [h]
    unfold digL at e
    split at e <;> split at e <;> simp at e <;> omega
  have ha := a.toNat_lt
  have hb := b.toNat_lt
  have e1 := dinj _ _ (by omega) (by omega) h1
  have e2 := dinj _ _ (by omega) (by omega) h2
  apply UInt8.toNat.inj
  omega
theorem hexL_inj : ∀ {a b : List UInt8}, hexL a = hexL b -> a = b
  | [], [], _ => rfl
  | [], _ :: _, h => by cases h
  | _ :: _, [], h => by cases h
  | a :: l, b :: m, h => by
    have h' : digL (a.toNat / 16) :: digL (a.toNat % 16) :: hexL l = digL (b.toNat / 16) :: digL (b.toNat % 16) :: hexL m := h
    injection h' with h1 h2
    injection h2 with h2 h3
    rw [hex2 a b h1 h2, hexL_inj h3]
theorem ba_data {a b : ByteArray} (h : a = b) : a.data.toList = b.data.toList := by rw [h]
theorem FB_inj {a b : List UInt8} (h : FB a = FB b) : h0L a = h0L b := List.append_cancel_left (ba_data h : homeL ++ h0L a = homeL ++ h0L b)
theorem PB_inj {a b : List UInt8} (ha : a.length = 32) (hb : b.length = 32) (h : PB a = PB b) : a = b := by
  have h1 : folL a ++ [47] ++ h1L a = folL b ++ [47] ++ h1L b := ba_data h
  have h2 := List.append_inj h1 (by rw [List.length_append, List.length_append, folL_len ha, folL_len hb])
  have h3 : folL a = folL b := List.append_cancel_right h2.1
  have h4 : h0L a = h0L b := List.append_cancel_left h3
  apply hexL_inj
  rw [show hexL a = h0L a ++ h1L a from by unfold h0L h1L; rw [<- hexL_append, List.take_append_drop], show hexL b = h0L b ++ h1L b from by unfold h0L h1L; rw [<- hexL_append, List.take_append_drop], h4, h2.2]
theorem PB_of {a b : List UInt8} (h : FB a = FB b) (h1 : h1L a = h1L b) : PB a = PB b := by
  have h2 : folL a = folL b := ba_data h
  show (⟨⟨folL a ++ [47] ++ h1L a⟩⟩ : ByteArray) = ⟨⟨folL b ++ [47] ++ h1L b⟩⟩
  rw [h2, h1]
section
variable {id : List UInt8} (h : id.length = 32)
include h
theorem PB_size : (PB id).size = 73 := pathL_len h
theorem FB_size : (FB id).size = 10 := folL_len h
theorem PB_ok : PathOk (PB id) := fun w => path_path h w
theorem FB_ok : PathOk (FB id) := fun w => path_fol h w
theorem PB_up : UpIs (PB id) (FB id) := fun w => up_path h w
theorem FB_up : UpIs (FB id) OB := fun w => up_fol h w
end
theorem OB_ok : PathOk OB := fun w => path_obj w
theorem IB_ok : PathOk IB := fun w => path_inc w
theorem OB_up : UpIs OB NB := fun w => up_obj w
theorem IB_up : UpIs IB OB := fun w => up_inc w
noncomputable abbrev runNm : Go.Ev.Call := evF (envOfS tabAw.syms specsB) 100000 200
set_option maxRecDepth 1000000 in
theorem run_path21 : sameRes (runNm 21 [sy 4] Heap.empty) (sy 5) = true := by kernel_rfl
set_option maxRecDepth 1000000 in
theorem run_fol54 : sameRes (runNm 54 [sy 4] Heap.empty) (sy 6) = true := by kernel_rfl
theorem path_calls {id : List UInt8} (hid : id.length = 32) (w : World) : Calls Tryz.prog 21 ⟨[str id]⟩ w fun e w' => e = .returned (.string (PB id)) /\ Below w.heap.size w w' := by
  letI := looSg .empty 0 [] id (prN [])
  obtain ⟨H, hrun⟩ := sameRes_ok run_path21
  refine (calls_closed (envS_ok (tabs_ok (tabAw_ok hid))) mixed (funsSOk rfl) (specs_of rfl (specsB_ok hid)) 100000 200 hrun (.cons (.sym 4) .nil) w (by rw [Tryz.func21]; rfl)).mono ?_
  rintro e w' ⟨u, rfl, ⟨ρ, hV⟩, hb⟩
  cases hV
  exact ⟨rfl, hb⟩
theorem fold_calls {id : List UInt8} (hid : id.length = 32) (w : World) : Calls Tryz.prog 54 ⟨[str id]⟩ w fun e w' => e = .returned (.string (FB id)) /\ Below w.heap.size w w' := by
  letI := looSg .empty 0 [] id (prN [])
  obtain ⟨H, hrun⟩ := sameRes_ok run_fol54
  refine (calls_closed (envS_ok (tabs_ok (tabAw_ok hid))) mixed (funsSOk rfl) (specs_of rfl (specsB_ok hid)) 100000 200 hrun (.cons (.sym 4) .nil) w (by rw [Tryz.func54]; rfl)).mono ?_
  rintro e w' ⟨u, rfl, ⟨ρ, hV⟩, hb⟩
  cases hV
  exact ⟨rfl, hb⟩
theorem press_lenD {l : List UInt8} (h : l.length <= 210) : 0 < (pressL l).length /\ (pressL l).length <= 2000 := by
  have h1 := pressR_len l l.length 0 0 (Nat.le_refl _) (Nat.zero_le _)
  have h2 := numL_le l.length
  have h3 : 0 < (numL l.length).length := by unfold numL; split <;> simp
  unfold pressL
  rw [List.length_append]
  omega
theorem spread_back {raw : List UInt8} (h : raw.length <= 210) (w : World) : Calls Tryz.prog 38 #[.string (ofL (pressL raw)), .int .i64 262208] w fun r w' => r = .returned (.tuple #[.string ⟨⟨raw⟩⟩, .int .i64 0]) /\ Below w.heap.size w w' := by
  have hl := press_lenD (l := raw) (by omega)
  refine (spread_calls (p := ofL (pressL raw)) (most := 262208) (by show (pressL raw).length <= 1000000; omega) w).mono ?_
  rintro r w' ⟨h1, h2⟩
  refine ⟨?_, h2⟩
  have e : spreadL (ofL (pressL raw)).data.toList 262208 = some raw := spread_press (by omega) (by omega)
  unfold SprP at h1
  rw [e] at h1
  exact h1
end Go.Proofs
namespace Go.Proofs
open Go.Ev Go.RowKit
noncomputable def UB (p : ByteArray) : ByteArray := if p.size = 73 then ⟨⟨p.data.toList.take 10⟩⟩ else if p.size = 7 then NB else OB
def TB (p : ByteArray) : List UInt8 := if p.size = 73 then p.data.toList.drop 11 else p.data.toList.drop 8
def DB (p : ByteArray) : Bool := decide (p.size = 10) || decide (p.size = 7)
section
variable {id : List UInt8} (h : id.length = 32)
include h
theorem UB_P : UB (PB id) = FB id := by
  unfold UB
  rw [if_pos (PB_size h)]
  have e : (PB id).data.toList.take 10 = folL id := by
    show (folL id ++ [47] ++ h1L id).take 10 = _
    rw [List.append_assoc, List.take_left' (folL_len h)]
  rw [e]
theorem UB_F : UB (FB id) = OB := by
  unfold UB
  rw [if_neg (by rw [FB_size h]; decide), if_neg (by rw [FB_size h]; decide)]
theorem TB_P : TB (PB id) = h1L id := by
  unfold TB
  rw [if_pos (PB_size h)]
  show (folL id ++ [47] ++ h1L id).drop 11 = _
  rw [List.drop_left' (by rw [List.length_append, folL_len h]; rfl)]
theorem TB_F : TB (FB id) = h0L id := by
  unfold TB
  rw [if_neg (by rw [FB_size h]; decide)]
  show (homeL ++ h0L id).drop 8 = _
  exact List.drop_left' rfl
theorem DB_P : DB (PB id) = false := by unfold DB; rw [PB_size h]; rfl
theorem DB_F : DB (FB id) = true := by unfold DB; rw [FB_size h]; rfl
end
theorem UB_O : UB OB = NB := rfl
theorem UB_I : UB IB = OB := rfl
def Dirn (nodes : List Nd) (j : Nat) : Prop := ∃ d, nodes[j]? = some d /\ d.dir = true
def Filn (nodes : List Nd) (j : Nat) : Prop := ∃ d, nodes[j]? = some d /\ d.dir = false
def Heldn (nodes : List Nd) (id : List UInt8) (j : Nat) : Prop := ∃ raw, nodes[j]? = some ⟨false, ⟨⟨pressL raw⟩⟩, ⟨⟨pressL raw⟩⟩⟩ /\ raw.length <= 210 /\ shaF raw = id
structure Good (M : Nm) (nodes : List Nd) (Fs A : List (List UInt8)) (i : Bool) : Prop where
  obj : ∃ j, M OB = some j /\ Dirn nodes j
  fol : ∀ id ∈ Fs, ∃ j, M (FB id) = some j /\ Dirn nodes j
  fil : ∀ id ∈ A, ∃ j, M (PB id) = some j /\ Heldn nodes id j
  only : ∀ p j, M p = some j -> p = OB \/ (∃ id ∈ Fs, p = FB id) \/ (∃ id ∈ A, p = PB id) \/ (i = true /\ p = IB /\ Filn nodes j)
  sub : ∀ id ∈ A, id ∈ Fs
  len : ∀ id ∈ Fs, id.length = 32
section
variable {M : Nm} {nodes nodes' : List Nd} {Fs A : List (List UInt8)} {i : Bool}
theorem Good.lenA (h : Good M nodes Fs A i) {id : List UInt8} (hi : id ∈ A) : id.length = 32 := h.len id (h.sub id hi)
theorem Good.node (h : Good M nodes Fs A i) {p : ByteArray} {j : Nat} (hj : M p = some j) : ∃ d, nodes[j]? = some d /\ d.dir = DB p := by
  rcases h.only p j hj with rfl | ⟨id, hi, rfl⟩ | ⟨id, hi, rfl⟩ | ⟨_, rfl, d, h1, h2⟩
  . obtain ⟨j', h1, d, h2, h3⟩ := h.obj
    rw [hj] at h1; cases h1
    exact ⟨d, h2, h3⟩
  . obtain ⟨j', h1, d, h2, h3⟩ := h.fol id hi
    rw [hj] at h1; cases h1
    exact ⟨d, h2, by rw [h3, DB_F (h.len id hi)]⟩
  . obtain ⟨j', h1, raw, h2, _⟩ := h.fil id hi
    rw [hj] at h1; cases h1
    exact ⟨_, h2, by rw [DB_P (h.lenA hi)]⟩
  . exact ⟨d, h1, h2⟩
theorem Good.lt (h : Good M nodes Fs A i) {p : ByteArray} {j : Nat} (hj : M p = some j) : j < nodes.length := by
  obtain ⟨d, h1, _⟩ := h.node hj
  exact (List.getElem?_eq_some_iff.1 h1).1
theorem Good.size (h : Good M nodes Fs A i) {p : ByteArray} {j : Nat} (hj : M p = some j) : p.size = 7 \/ p.size = 10 \/ p.size = 73 \/ p.size = 16 := by
  rcases h.only p j hj with rfl | ⟨id, hi, rfl⟩ | ⟨id, hi, rfl⟩ | ⟨_, rfl, _⟩
  . exact .inl rfl
  . exact .inr (.inl (FB_size (h.len id hi)))
  . exact .inr (.inr (.inl (PB_size (h.lenA hi))))
  . exact .inr (.inr (.inr rfl))
theorem Good.up (h : Good M nodes Fs A i) {p : ByteArray} {j : Nat} (hj : M p = some j) : UpIs p (UB p) := by
  rcases h.only p j hj with rfl | ⟨id, hi, rfl⟩ | ⟨id, hi, rfl⟩ | ⟨_, rfl, _⟩
  . exact OB_up
  . rw [UB_F (h.len id hi)]; exact FB_up (h.len id hi)
  . rw [UB_P (h.lenA hi)]; exact PB_up (h.lenA hi)
  . exact IB_up
theorem Good.noKids (h : Good M nodes Fs A i) {q : ByteArray} (hq : q.size = 73) : NoKids M q := fun k hk => by
  obtain ⟨j, hj⟩ := Option.isSome_iff_exists.1 hk
  cases hb : Lib.hasPrefix k.data.toList (q ++ ⟨#[47]⟩ : ByteArray).data.toList with
  | false => rfl
  | true =>
    have hb' : (q ++ ⟨#[47]⟩ : ByteArray).data.toList.isPrefixOf k.data.toList = true := hb
    have := (List.isPrefixOf_iff_prefix.1 hb').length_le
    have e1 : (q ++ ⟨#[47]⟩ : ByteArray).data.toList.length = 74 := by
      rw [Array.length_toList]
      show (q ++ ⟨#[47]⟩ : ByteArray).size = 74
      rw [ByteArray.size_append, hq]; rfl
    have e2 : k.data.toList.length = k.size := by simp
    have := h.size hj
    omega
theorem Good.folO {s : St} (h : Good M s.nodes Fs A i) : FolIs s M OB := by
  obtain ⟨j, h1, d, h2, h3⟩ := h.obj
  exact ⟨by decide, .inr ⟨by decide, j, d, h1, h2, h3⟩⟩
theorem Good.folF {s : St} (h : Good M s.nodes Fs A i) {id : List UInt8} (hi : id ∈ Fs) : FolIs s M (FB id) := by
  obtain ⟨j, h1, d, h2, h3⟩ := h.fol id hi
  have hz := FB_size (h.len id hi)
  exact ⟨by omega, .inr ⟨(fun e => by rw [e] at hz; cases hz), j, d, h1, h2, h3⟩⟩
theorem Good.noInc (h : Good M nodes Fs A false) : M IB = none := by
  cases hm : M IB with
  | none => rfl
  | some j =>
    rcases h.only IB j hm with e | ⟨id, hi, e⟩ | ⟨id, hi, e⟩ | ⟨e, _⟩
    . exact absurd (congrArg ByteArray.size e) (by decide)
    . have := FB_size (h.len id hi); rw [<- e] at this; cases this
    . have := PB_size (h.lenA hi); rw [<- e] at this; cases this
    . cases e
theorem Good.mono (h : Good M nodes Fs A i) (hn : ∀ (j : Nat) (d : Nd), nodes[j]? = some d -> nodes'[j]? = some d) : Good M nodes' Fs A i := by
  have hd : ∀ j, Dirn nodes j -> Dirn nodes' j := fun j ⟨d, h1, h2⟩ => ⟨d, hn _ _ h1, h2⟩
  refine ⟨?_, fun id hi => ?_, fun id hi => ?_, fun p j hj => ?_, h.sub, h.len⟩
  . obtain ⟨j, h1, h2⟩ := h.obj
    exact ⟨j, h1, hd _ h2⟩
  . obtain ⟨j, h1, h2⟩ := h.fol id hi
    exact ⟨j, h1, hd _ h2⟩
  . obtain ⟨j, h1, raw, h2, h3⟩ := h.fil id hi
    exact ⟨j, h1, raw, hn _ _ h2, h3⟩
  . rcases h.only p j hj with e | e | e | ⟨e1, e2, d, e3, e4⟩
    . exact .inl e
    . exact .inr (.inl e)
    . exact .inr (.inr (.inl e))
    . exact .inr (.inr (.inr ⟨e1, e2, d, hn _ _ e3, e4⟩))
theorem Good.more (h : Good M nodes Fs A i) {id : List UInt8} (hid : id.length = 32) {id' : List UInt8} (hi' : id' ∈ Fs) (he : FB id' = FB id) : Good M nodes (id :: Fs) A i := by
  refine ⟨h.obj, fun x hx => ?_, h.fil, fun p j hj => ?_, fun x hx => List.mem_cons_of_mem _ (h.sub x hx), fun x hx => ?_⟩
  . rcases List.mem_cons.1 hx with rfl | hx
    . rw [<- he]; exact h.fol id' hi'
    . exact h.fol x hx
  . rcases h.only p j hj with e | ⟨x, hx, e⟩ | e | e
    . exact .inl e
    . exact .inr (.inl ⟨x, List.mem_cons_of_mem _ hx, e⟩)
    . exact .inr (.inr (.inl e))
    . exact .inr (.inr (.inr e))
  . rcases List.mem_cons.1 hx with rfl | hx
    . exact hid
    . exact h.len x hx
theorem Good.noFol (h : Good M nodes Fs A i) {id : List UInt8} (hid : id.length = 32) (hno : ∀ x ∈ Fs, FB x ≠ FB id) : M (FB id) = none := by
  cases hm : M (FB id) with
  | none => rfl
  | some j =>
    have hz := FB_size hid
    rcases h.only _ j hm with e | ⟨x, hx, e⟩ | ⟨x, hx, e⟩ | ⟨_, e, _⟩
    . rw [e] at hz; cases hz
    . exact absurd e.symm (hno x hx)
    . rw [e, PB_size (h.lenA hx)] at hz; cases hz
    . rw [e] at hz; cases hz
theorem Good.putFol (h : Good M nodes Fs A i) {id : List UInt8} (hid : id.length = 32) {n : Nat} (hn : Dirn nodes n) (hno : M (FB id) = none) : Good (putF' M (FB id) n) nodes (id :: Fs) A i := by
  have ho : ∀ p j, M p = some j -> putF' M (FB id) n p = some j := fun p j hj => by
    unfold putF'
    rw [if_neg (fun e => by rw [e, hno] at hj; cases hj)]
    exact hj
  refine ⟨?_, fun x hx => ?_, fun x hx => ?_, fun p j hj => ?_, fun x hx => List.mem_cons_of_mem _ (h.sub x hx), fun x hx => ?_⟩
  . obtain ⟨j, h1, h2⟩ := h.obj
    exact ⟨j, ho _ _ h1, h2⟩
  . rcases List.mem_cons.1 hx with rfl | hx
    . exact ⟨n, by unfold putF'; rw [if_pos rfl], hn⟩
    . obtain ⟨j, h1, h2⟩ := h.fol x hx
      exact ⟨j, ho _ _ h1, h2⟩
  . obtain ⟨j, h1, h2⟩ := h.fil x hx
    exact ⟨j, ho _ _ h1, h2⟩
  . unfold putF' at hj
    split at hj
    . rename_i e
      exact .inr (.inl ⟨id, List.mem_cons_self .., e⟩)
    . rcases h.only p j hj with e | ⟨x, hx, e⟩ | e | e
      . exact .inl e
      . exact .inr (.inl ⟨x, List.mem_cons_of_mem _ hx, e⟩)
      . exact .inr (.inr (.inl e))
      . exact .inr (.inr (.inr e))
  . rcases List.mem_cons.1 hx with rfl | hx
    . exact hid
    . exact h.len x hx
theorem IB_ne (h : Good M nodes Fs A i) : (∀ id ∈ Fs, FB id ≠ IB) /\ (∀ id ∈ A, PB id ≠ IB) :=
  ⟨(fun id hi e => by have := FB_size (h.len id hi); rw [e] at this; cases this), (fun id hi e => by have := PB_size (h.lenA hi); rw [e] at this; cases this)⟩
theorem Good.putInc (h : Good M nodes Fs A i) {n : Nat} (hn : Filn nodes n) : Good (putF' M IB n) nodes Fs A true := by
  obtain ⟨hf, hp⟩ := IB_ne h
  refine ⟨?_, fun x hx => ?_, fun x hx => ?_, fun p j hj => ?_, h.sub, h.len⟩
  . obtain ⟨j, h1, h2⟩ := h.obj
    exact ⟨j, by unfold putF'; rw [if_neg (by decide)]; exact h1, h2⟩
  . obtain ⟨j, h1, h2⟩ := h.fol x hx
    exact ⟨j, by unfold putF'; rw [if_neg (hf x hx)]; exact h1, h2⟩
  . obtain ⟨j, h1, h2⟩ := h.fil x hx
    exact ⟨j, by unfold putF'; rw [if_neg (hp x hx)]; exact h1, h2⟩
  . unfold putF' at hj
    split at hj
    . rename_i e
      cases hj
      exact .inr (.inr (.inr ⟨rfl, e, hn⟩))
    . rcases h.only p j hj with e | e | e | ⟨_, e⟩
      . exact .inl e
      . exact .inr (.inl e)
      . exact .inr (.inr (.inl e))
      . exact .inr (.inr (.inr ⟨rfl, e⟩))
theorem Good.mov (h : Good M nodes Fs A i) {id : List UInt8} (hid : id ∈ Fs) {n : Nat} (hn : Heldn nodes id n) {k : Bool} (hk : k = true \/ M IB = some n) : Good (movF M IB (PB id) n) nodes Fs (id :: A) k := by
  obtain ⟨hf, hp⟩ := IB_ne h
  have hl := h.len id hid
  have hpz := PB_size hl
  have hval : ∀ p, movF M IB (PB id) n p = if p = PB id then some n else if p = IB /\ M IB = some n then none else M p := fun p => by
    unfold movF putF'
    by_cases e : p = PB id
    . rw [if_pos e, if_pos e]
    . rw [if_neg e, if_neg e]
      by_cases e2 : M IB = some n
      . rw [if_pos e2]
        unfold delF
        by_cases e3 : p = IB
        . rw [if_pos e3, if_pos ⟨e3, e2⟩]
        . rw [if_neg e3, if_neg (fun hh => e3 hh.1)]
      . rw [if_neg e2, if_neg (fun hh => e2 hh.2)]
  refine ⟨?_, fun x hx => ?_, fun x hx => ?_, fun p j hj => ?_, fun x hx => ?_, h.len⟩
  . obtain ⟨j, h1, h2⟩ := h.obj
    refine ⟨j, ?_, h2⟩
    rw [hval, if_neg (fun e => by rw [<- e] at hpz; cases hpz), if_neg (fun hh => absurd hh.1 (by decide))]
    exact h1
  . obtain ⟨j, h1, h2⟩ := h.fol x hx
    refine ⟨j, ?_, h2⟩
    rw [hval, if_neg (fun e => by rw [<- e, FB_size (h.len x hx)] at hpz; cases hpz), if_neg (fun hh => hf x hx hh.1)]
    exact h1
  . by_cases e : PB x = PB id
    . refine ⟨n, by rw [hval, if_pos e], ?_⟩
      rcases List.mem_cons.1 hx with rfl | hx
      . exact hn
      . obtain rfl := PB_inj (h.lenA hx) hl e
        exact hn
    . rcases List.mem_cons.1 hx with rfl | hx
      . exact absurd rfl e
      . obtain ⟨j, h1, h2⟩ := h.fil x hx
        exact ⟨j, by rw [hval, if_neg e, if_neg (fun hh => hp x hx hh.1)]; exact h1, h2⟩
  . rw [hval] at hj
    split at hj
    . rename_i e
      exact .inr (.inr (.inl ⟨id, List.mem_cons_self .., e⟩))
    . split at hj
      . cases hj
      . rename_i e1 e2
        rcases h.only p j hj with e | e | ⟨x, hx, e⟩ | ⟨e3, e4, e5⟩
        . exact .inl e
        . exact .inr (.inl e)
        . exact .inr (.inr (.inl ⟨x, List.mem_cons_of_mem _ hx, e⟩))
        . rcases hk with rfl | hk
          . exact .inr (.inr (.inr ⟨rfl, e4, e5⟩))
          . exact absurd ⟨e4, hk⟩ e2
  . rcases List.mem_cons.1 hx with rfl | hx
    . exact hid
    . exact h.sub x hx
theorem Good.del (h : Good M nodes Fs A i) {id : List UInt8} (hid : id.length = 32) : Good (delF M (PB id)) nodes Fs (A.filter fun x => decide (x ≠ id)) i := by
  have hpz := PB_size hid
  have hm : ∀ x, x ∈ A.filter (fun x => decide (x ≠ id)) ↔ x ∈ A /\ x ≠ id := fun x => by simp
  refine ⟨?_, fun x hx => ?_, fun x hx => ?_, fun p j hj => ?_, fun x hx => h.sub x ((hm x).1 hx).1, h.len⟩
  . obtain ⟨j, h1, h2⟩ := h.obj
    refine ⟨j, ?_, h2⟩
    unfold delF
    rw [if_neg (fun e => by rw [<- e] at hpz; cases hpz)]
    exact h1
  . obtain ⟨j, h1, h2⟩ := h.fol x hx
    refine ⟨j, ?_, h2⟩
    unfold delF
    rw [if_neg (fun e => by rw [<- e, FB_size (h.len x hx)] at hpz; cases hpz)]
    exact h1
  . obtain ⟨hx1, hx2⟩ := (hm x).1 hx
    obtain ⟨j, h1, h2⟩ := h.fil x hx1
    refine ⟨j, ?_, h2⟩
    unfold delF
    rw [if_neg (fun e => hx2 (PB_inj (h.lenA hx1) hid e))]
    exact h1
  . unfold delF at hj
    split at hj
    . cases hj
    . rename_i e0
      rcases h.only p j hj with e | e | ⟨x, hx, e⟩ | e
      . exact .inl e
      . exact .inr (.inl e)
      . exact .inr (.inr (.inl ⟨x, (hm x).2 ⟨hx, fun e2 => e0 (by rw [e, e2])⟩, e⟩))
      . exact .inr (.inr (.inr e))
theorem Good.noFil (h : Good M nodes Fs A i) {id : List UInt8} (hid : id.length = 32) (hno : id ∉ A) : M (PB id) = none := by
  cases hm : M (PB id) with
  | none => rfl
  | some j =>
    have hz := PB_size hid
    rcases h.only _ j hm with e | ⟨x, hx, e⟩ | ⟨x, hx, e⟩ | ⟨_, e, _⟩
    . rw [e] at hz; cases hz
    . rw [e, FB_size (h.len x hx)] at hz; cases hz
    . exact absurd (PB_inj hid (h.lenA hx) e ▸ hx) hno
    . rw [e] at hz; cases hz
end
end Go.Proofs
