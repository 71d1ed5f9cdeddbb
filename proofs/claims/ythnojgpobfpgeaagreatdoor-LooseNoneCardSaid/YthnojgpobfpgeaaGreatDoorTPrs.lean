/- Press is pressL. -/
import Derived.Test.YthnojgpobfpgeaaGreatDoorTRnd
/-! Press is pressL. -/
namespace Go.Proofs
open Go.Ev Go.RowKit Go.Lib
attribute [local go_sem] Oper.semAt_some

theorem loop_press {s : ByteArray} {m base : Nat} {w0 : World} (hs : s.size ≤ 1000) {fr a : Nat} {A : Act} {W : World} (hI : InvLz s m base w0 fr a A W) {Q : Exit → Act → World → Prop}
  (hQ : ∀ fr A' W', InvLz s m base w0 fr s.size A' W' → Q (.exit 0) A' W') : (Code.loop (loopB (itemN L28 6))).wp Tryz.prog Q A W := by
 refine wp_loop_n (P := Tryz.prog) (b := loopB (itemN L28 6)) (Q := Q) (I := fun k A' W' => ∃ fr a, k = s.size - a ∧ InvLz s m base w0 fr a A' W') (fun k A' W' ⟨fr, a, hk, hI⟩ => ?_) (s.size - a) A W ⟨fr, a, rfl, hI⟩
 have hle := hI.le
 by_cases hlt : a < s.size
 ·
  cases hl : (if a + 4 ≤ s.size then lastL s.data.toList (cutL s.data.toList a 4) a else none) with
  | none => exact round_none hs hI hlt hl fun A1 W1 h1 => ⟨s.size - (a + 1), by omega, _, _, rfl, h1⟩
  | some k' => exact round_some hs hI hl fun A1 W1 n hn h1 => ⟨s.size - (a + n), by have := h1.le.2; omega, _, _, rfl, h1⟩
 ·
  obtain rfl : a = s.size := by omega
  exact round_end hs hI hlt fun A1 h1 => hQ fr A1 W' h1

theorem pressR_end (s : List UInt8) (fr : Nat) : pressR s s.length fr s.length = if fr < s.length then numL (s.length - fr) ++ s.drop fr else [] := by
 rw [pressR_more s s.length 0 fr s.length (by omega) (by omega)]
 rfl
theorem convF_back {W : World} {base : Nat} {v : Value} {l : List UInt8} (h : BytesF W base 5 v l) : (convert 71 9 v).run Tryz.prog W = .ok (.string ⟨⟨l⟩⟩) W := by
 rcases h with ⟨rfl, rfl⟩ | ⟨g, off, cap, cur, rfl, hbg, ⟨fr, hfr, hg⟩, hnc, hcm, hcs, htake⟩
 ·
  exact run_convert_bytes_nil W 71 5 Tryz.underlying71 Tryz.underlying5 0 0 9 Tryz.underlying9
 ·
  refine run_convert_bytes_back (P := Tryz.prog) W 71 9 5 ⟨g, off, none⟩ cap l Tryz.underlying71 Tryz.underlying5 Tryz.underlying9 fun j hj => ?_
  have h1 : (⟨g, off, none⟩ : Addr).add j = ⟨g, off + j, none⟩ := by unfold Addr.add; split <;> simp_all
  rw [h1, cell_of_row W g (off + j) cur 5 fr hg]
  have h2 : ((cur.toList.drop off).take l.length)[j]? = (l.map fun b => Value.int .u8 b.toNat)[j]? := by rw [htake]
  rw [List.getElem?_take_of_lt hj, List.getElem?_drop, List.getElem?_map, List.getElem?_eq_getElem hj] at h2
  simpa using h2
set_option maxHeartbeats 2000000 in
set_option maxRecDepth 1000000 in
theorem press_calls {s : ByteArray} (hs : s.size ≤ 1000) (w : World) :
  Calls Tryz.prog 28 #[.string s] w fun e w' => e = .returned (.tuple #[.string ⟨⟨pressL s.data.toList⟩⟩, .int .i64 0]) ∧ Below w.heap.size w w' := by
 have hbody : Tryz.f28.body = some (Tryz.f28.body.getD .skip) := by kernel_rfl
 refine calls_of_wp Tryz.func28 hbody (wpL_codes ?_)
 obtain ⟨hsz, hd, hsl⟩ := fr_enter (args := [.string s]) (l := [(0, .string s)]) Tryz.ntmps28 (by simp) (fun p hp => by
  simp only [List.mem_cons, List.not_mem_nil, or_false] at hp
  subst hp; rfl)
 generalize hA : (⟨(⟨[.string s]⟩ : Array Value) ++ Array.replicate (Tryz.f28.ntmps - (⟨[.string s]⟩ : Array Value).size) undef, []⟩ : Act) = A at *
 clear hA
 have h0 := hsl (0, .string s) (by simp)
 clear hsl
 obtain ⟨f, rfl⟩ := lit90 hsz hd
 replace h0 : f 0 = .string s := h0
 rw [h0]
 clear h0 hsz hd
 obtain ⟨Ns, hNs⟩ : ∃ x : ByteArray, x = ⟨⟨numL s.size⟩⟩ := ⟨_, rfl⟩
 have kn : Hid (∀ W, Calls Tryz.prog 64 #[.int .u64 (s.size : Int)] W fun e w' => e = .returned (.string Ns) ∧ Below W.heap.size W w') := Lib.hid (fun W => hNs ▸ num_calls (show s.size < 16512 by omega) W)
 have kc := fun W => Lib.run_convert_string_bytes (P := Tryz.prog) W 9 71 5 Ns Tryz.underlying9 Tryz.underlying71 Tryz.underlying5
 have hmm := @run_makeMap Tryz.prog
 have wu : IntKind.u64.wrap (s.size : Int) = (s.size : Int) := wrapU64 _ (by omega)
 have hsi : (s.size : Int) ≤ 1000 := by omega
 have hNs' := Lib.hid hNs
 clear hNs
 refine wpL_lit (L' := [_, _, _, _, _, _, itemN L28 6, _, _, _, _]) (by rfl) ?_
 simp only [wpL]
 go_wp2_with (go_at_call 64; refine (kn.out _).mono ?_; rintro e w' ⟨rfl, hb⟩)
 rw [loop_eq id28]
 refine wp_block ?_
 have hbs := Below.size hb
 have hms : (bytesWorld w' 5 Ns).heap.size = w'.heap.size + 1 := bytesWorld_size w' 5 Ns
 have hsl : s.data.toList.length = s.size := by simp
 have hB0 := (bytesF_conv w' 5 Ns w.heap.size hbs (by rw [hNs'.out]; show (numL s.size).length ≤ _; have := numL_le s.size; omega))
 have hbut0 : Below w.heap.size w ((bytesWorld w' 5 Ns).alloc (.map #[] 0)) := (below_grown hb (bytesWorld_grown w' 5 Ns) (fun k hk => by cases hk) hbs).alloc (by omega) _
 have hm0 := World.ownsMap_made (bytesWorld w' 5 Ns) Tryz.prog 9 (plainElem (H := Unit) Tryz.prog 3)
 refine loop_press (m := (bytesWorld w' 5 Ns).heap.size) (base := w.heap.size) (w0 := w) (fr := 0) (a := 0) hs ⟨⟨.slice (some { block := w'.heap.size, off := 0 }) Ns.size (grownCap w' Ns.size 0 5), numL s.size, ⟨rfl, rfl, fun p hp => ?_⟩, ?_, ?_, ?_, ?_⟩, ⟨Nat.le_refl _, Nat.zero_le _⟩, hm0, by omega, hbut0⟩ fun fr A1 W1 hI1 => ?_
 ·
  simp only [List.mem_cons, List.not_mem_nil, or_false] at hp
  rcases hp with rfl | rfl | rfl | rfl | rfl <;> rfl
 ·
  have e : Ns.data.toList = numL s.size := by rw [hNs'.out]
  rw [e] at hB0
  exact hB0.kept fun g hg => heap_alloc_old _ _ (hB0.lt g hg).2
 ·
  have := numL_le s.size; omega
 ·
  intro e
  have : w'.heap.size = (bytesWorld w' 5 Ns).heap.size := by injection e
  omega
 ·
  show _ = numL s.data.toList.length ++ _
  rw [hsl]
 obtain ⟨⟨vout, out, hF, hB, hol, hne, hout⟩, hle, hown, hbm, hbut⟩ := hI1
 obtain ⟨f', rfl⟩ := fr7 hF
 clear hb hB0 hbut0 hm0 hms hF hne hown hbm kn kc hmm
 have hbut' := Lib.hid hbut
 have hout' := Lib.hid hout
 have hB' := Lib.hid hB
 by_cases hlt : fr < s.size
 ·
  have hlt' : (fr : Int) < (s.size : Int) := by omega
  obtain ⟨i0, hi, hz0, hz1, hz2⟩ := info_parts info71
  obtain ⟨d, hd⟩ : ∃ d, d = s.size - fr := ⟨_, rfl⟩
  have hd1 : (s.size : Int) - (fr : Int) = (d : Int) := by omega
  have hd2 : d ≤ 1000 := by omega
  have hle1 : fr ≤ s.size := by omega
  have hle2 : (fr : Int) ≤ (s.size : Int) := by omega
  have hle3 : ¬ (s.size : Int) < (fr : Int) := by omega
  have nd := numL_le d
  obtain ⟨Nd, hNd⟩ : ∃ x : ByteArray, x = ⟨⟨numL d⟩⟩ := ⟨_, rfl⟩
  obtain ⟨X, hX⟩ : ∃ x : ByteArray, s.extract fr s.size = x := ⟨_, rfl⟩
  have zd : Nd.size = (numL d).length := by rw [hNd]; rfl
  have hx : X.size ≤ 1000 := by rw [← hX, ByteArray.size_extract]; omega
  have b1 : Nd.size + X.size ≤ 9223372036854775807 := by omega
  have e1 : (9223372036854775807 < Nd.size + X.size) = False := eq_false (Nat.not_lt.2 b1)
  have hXl : X.data.toList = s.data.toList.drop fr := by
   rw [← hX, ByteArray.data_extract, Array.toList_extract, List.extract_eq_take_drop, List.take_of_length_le (by rw [List.length_drop, hsl]; omega)]
  have e : out ++ (Nd ++ X).data.toList = pressL s.data.toList := by
   rw [ByteArray.data_append, Array.toList_append, hNd, hXl, ← hout, ← hsl, pressR_end, if_pos (by omega), hsl, ← hd]
  have z1 : (Nd ++ X).size = Nd.size + X.size := ByteArray.size_append
  have hlen : Hid (out.length + (Nd ++ X).size ≤ 140737488355328) := Lib.hid (by omega)
  obtain ⟨tl, htl⟩ : ∃ l, l = (Nd ++ X).data.toList := ⟨_, rfl⟩
  rw [← htl] at e
  have htl' := Lib.hid htl
  have e' := Lib.hid e
  have wd1 : IntKind.i64.wrap (d : Int) = (d : Int) := wrapI64 _ (by omega)
  have wd2 : IntKind.u64.wrap (d : Int) = (d : Int) := wrapU64 _ (by omega)
  have kd : Hid (∀ W, Calls Tryz.prog 64 #[.int .u64 (d : Int)] W fun e w' => e = .returned (.string Nd) ∧ Below W.heap.size W w') := Lib.hid (fun W => hNd ▸ num_calls (show d < 16512 by omega) W)
  have hbase1 : Hid (w.heap.size ≤ W1.heap.size) := Lib.hid (Below.size hbut)
  clear hout hbut hB htl e hXl hNd zd z1 hd nd hx hNs' hbs hsl hol hle wu
  go_wp2
  refine wp_mono (Q := Nrm fun A' w' => ∃ v', Fr 90 A' [(0, .string s), (4, v')] ∧ BytesF w' w.heap.size 5 v' (out ++ tl) ∧ W1.grownBy w' vout.ownBlock) ?_ ?_
  ·
   go_region_law (first
    | (with_reducible (show (if Region.wanted _ _ = true then Oper.wp _ (Oper.mk _ (Op.call { callee := Callee.builtin Builtin.append, args := _, argTypes := _ }) _ _ _ _) _ _ _ _ else _)); go_loud (refine step_append_text rfl (.tmp 76) (.tmp 86) 71 9 rfl w.heap.size 5 i0 Tryz.underlying71 Tryz.underlying9 hi hz0 hz1 hz2 vout out rfl (hB'.out.kept fun g hg => Sb.blk (show Sb W1 _ from by repeat (first | exact Sb.refl _ | apply Sb.drew | (refine Sb.trans ?_ (by assumption)))) g (hB'.out.lt g hg).2) (Nd ++ X) rfl hlen.out (Nat.le_trans hbase1.out (Sb.siz (show Sb W1 _ from by repeat (first | exact Sb.refl _ | apply Sb.drew | (refine Sb.trans ?_ (by assumption)))))) ?_); intro v' w1 hB1 hg1 hn1; rw [← htl'.out] at hB1; have hB2 := Lib.hid hB1; have hg2 := Lib.hid ((Sb.grown (show Sb W1 _ from by repeat (first | exact Sb.refl _ | apply Sb.drew | (refine Sb.trans ?_ (by assumption)))) vout.ownBlock).trans hg1); clear hB1 hg1 hn1)
    | (go_simp; go_wp2_with (go_at_call_of 64 (d : Int); refine (kd.out _).mono ?_; rintro e w' ⟨rfl, hb⟩)))
   all_goals
    refine ⟨v', ⟨rfl, rfl, fun p hp => ?_⟩, hB2.out, hg2.out⟩
    simp only [List.mem_cons, List.not_mem_nil, or_false] at hp
    rcases hp with rfl | rfl <;> rfl
  ·
   intro e0 A2 w2 h
   cases e0 with
   | normal =>
    obtain ⟨v', hF2, hB2, hg2⟩ := h
    obtain ⟨hsz2, hd2', hsl2⟩ := hF2
    have h4 := hsl2 (4, v') (by simp)
    clear hsl2
    obtain ⟨f2, rfl⟩ := lit90 hsz2 hd2'
    replace h4 : f2 4 = v' := h4
    have cb := convF_back hB2
    have hfin : Below w.heap.size w w2 := below_grown hbut'.out hg2 (fun k hk => (hB'.out.lt k hk).1) hbase1.out
    have hfin' := Lib.hid hfin
    rw [h4]
    clear h4 hB2 hg2 hfin hsz2 hd2'
    dsimp only
    go_wp2
    go_ret2
    exact ⟨by rw [e'.out]; rfl, hfin'.out⟩
   | _ => exact h.elim
 ·
  have hge' : ¬ (fr : Int) < (s.size : Int) := by omega
  have cb := convF_back hB
  have e : out = pressL s.data.toList := by
   rw [← hout, ← hsl, pressR_end, if_neg (by omega), List.append_nil]
  have e' := Lib.hid e
  clear hout hbut hB e
  go_wp2
  go_ret2
  exact ⟨by rw [e'.out]; rfl, hbut'.out⟩
end Go.Proofs
