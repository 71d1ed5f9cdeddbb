/- The program's stir, where it stands in Sum. -/
import Derived.Test.YthnojgpobfpgeaaGreatDoorTWrite
/-! The program's stir, where it stands in Sum. -/
namespace Go.Proofs
open Go.Ev Go.RowKit
noncomputable def L44 : List Code := codes (Tryz.f109.body.getD .skip)
noncomputable def L44a : List Code := codes (loopB (itemN L44 9))
noncomputable def L44b : List Code := codes (blockB (itemN L44a 2))
theorem ok44b : allCode 75 L44b = true := by kernel_rfl
def insS (n : Nat) : List (Nat × Value) := [(3, heldW n), (5, .pointer (some ⟨0, 0, none⟩))]
def rowsS (_n : Nat) : List Row := [(words8, 122, .rw), (bytes64, 5, .still)]
noncomputable def cellsOut2 (b : Nat) (r : CRes) : Option (Value × Value × List Value × TypeId × Acc) :=
 bnd r fun r => chk (isNormal r.1) (bnd (r.2.2.get b) fun x => bnd (cellsOf x) fun c => some (slot r.2.1 3, slot r.2.1 5, c))
set_option maxRecDepth 100000 in
theorem runS (n : Nat) (j : Nat → Value) : cellsOut2 0 (evL (envOfS (shaSyms {}) []) (evF (envOfS (shaSyms {}) []) 100000 20) 100000 ((L44b.drop 0).take 1) (tmOf j (insS n)) (heapRows (rowsS n))) = some (heldW n, .pointer (some ⟨0, 0, none⟩), sums8, 122, .rw) := by kernel_rfl
theorem cellsOut2_ok {b : Nat} {r : CRes} {c : Value × Value × List Value × TypeId × Acc} (h : cellsOut2 b r = some c) :
  ∃ tm H, r = some (.normal, tm, H) ∧ (slot tm 3 = c.1 ∧ slot tm 5 = c.2.1) ∧ H.get b = some (.cells c.2.2.1 c.2.2.2.1 c.2.2.2.2) := by
 unfold cellsOut2 at h
 simp only [bnd_eq, chk_eq, Option.some.injEq] at h
 obtain ⟨⟨e, tm, H⟩, hr, hc, x, hx, cl, hcl, rfl⟩ := h
 have he : e = .normal := by cases e <;> first | rfl | (cases hc; done)
 subst he
 refine ⟨tm, H, hr, ⟨rfl, rfl⟩, ?_⟩
 cases x with
 | cells cs el ro => cases hcl; exact hx
 | _ => cases hcl
theorem info83 : (Tryz.prog.info? 122).map (fun i => i.size) = some 8 := by kernel_rfl
/-- Eight words. -/
def WoAt (w : World) (b : Nat) (hw : Nat → Nat) : Prop := ∃ fr : Nat × Nat, w.heap[b]? = some (.cells ⟨wordsC hw⟩ 122 fr) ∧ ∀ j, j < 8 → ¬ (fr.1 ≤ j ∧ j < fr.2)
section
variable {Q : Exit → Act → World → Prop} {a : Act} {w : World}
theorem stepS {hw : Nat → Nat} (h8 : ∀ k, k < 8 → hw k < W32) {l : List UInt8} (hl : 64 ≤ l.length) {b base : Nat} {p : Value} (hS : WoAt w b hw) (hB : BytesAt w base 5 p l) (hne : p.ownBlock ≠ some b)
  (hF : Fr 75 a [(3, p), (5, .pointer (some ⟨b, 0, none⟩))])
  (hQ : ∀ a' w', Fr 75 a' [(3, p), (5, .pointer (some ⟨b, 0, none⟩))] → WoAt w' b (stirL hw l) → But b w w' → wpL Tryz.prog (L44b.drop 1) Q a' w') : wpL Tryz.prog (L44b.drop 0) Q a w := by
 obtain ⟨fr, hb, hfr⟩ := hS
 rcases hB with ⟨_, rfl⟩ | ⟨g, off, cap, cur, rfl, hbg, hg, hnc, hcm, hcs, htake⟩
 ·
  simp at hl
 obtain ⟨hs, hd, hsl⟩ := hF
 have hcU : cap ≠ U := by unfold U; unfold maxLen at hcm; omega
 let ex : Nat → Value := fun _ => .int .u64 (0 : Int)
 have hex : ∀ k, isIS (ex k) = true := fun _ => rfl
 let bs : Nat → Nat := fun k => ((l.take 64).getD k 0).toNat
 have h64 : ∀ k, k < 64 → bs k < 256 := fun k _ => UInt8.toNat_lt _
 letI : Sg := shaSg shaL hw bs ex hex
 have hsyms := shaSyms_ok (P := Tryz.prog) (X := {}) hex h8 h64 noTabs
 let ρ : Map := fun k => if k = 0 then some ⟨b, 0, 8, 8, 8⟩ else if k = 1 then some ⟨g, off, 64, cap, 1⟩ else none
 have hρ0 : ρ 0 = some ⟨b, 0, 8, 8, 8⟩ := rfl
 have hρ1 : ρ 1 = some ⟨g, off, 64, cap, 1⟩ := rfl
 have hρ : ∀ k e, ρ k = some e → (k = 0 ∧ e = ⟨b, 0, 8, 8, 8⟩) ∨ (k = 1 ∧ e = ⟨g, off, 64, cap, 1⟩) := fun k e h => by
  simp only [ρ] at h
  split at h
  ·
   rename_i h0; exact .inl ⟨h0, (Option.some.inj h).symm⟩
  ·
   split at h
   ·
    rename_i h0; exact .inr ⟨h0, (Option.some.inj h).symm⟩
   ·
    cases h
 have hgb : g ≠ b := fun e => hne (by rw [e]; rfl)
 have hVb : ∀ k, k < 64 → Sg.val (8 + k) = .int .u8 (bs k : Int) := fun k hk => by
  show shaV shaL hw bs ex (8 + k) = _
  rw [shaV_byte (by omega) (by omega)]
  unfold sv
  rw [vals_lt _ _ _ (8 + k) (by omega)]
  unfold f0
  rw [if_neg (by omega), if_pos (by omega), Nat.add_sub_cancel_left]
 have hVw : ∀ k, k < 8 → Sg.val k = .int .u32 (hw k : Int) := fun k hk => by
  show shaV shaL hw bs ex k = _
  rw [shaV_word ⟨.inl hk, by omega⟩]
  unfold sv
  rw [vals_lt _ _ _ k (by omega)]
  unfold f0
  rw [if_pos hk]
 have hwin : win cur ⟨g, off, 64, cap, 1⟩ = (List.range 64).map fun k => Value.int .u8 (bs k : Int) := by
  apply List.ext_getElem?
  intro i
  simp only [win, List.getElem?_map]
  by_cases hi : i < 64
  ·
   have h1 := congrArg (fun x => x[i]?) htake
   simp only [List.getElem?_take, List.getElem?_map] at h1
   rw [if_pos (by omega)] at h1
   rw [List.getElem?_take, if_pos hi, h1, List.getElem?_range hi]
   have hli : i < l.length := by omega
   have hb' : bs i = l[i].toNat := by
    show ((l.take 64).getD i 0).toNat = _
    rw [List.getD_eq_getElem?_getD, List.getElem?_take, if_pos hi, List.getElem?_eq_getElem hli]; rfl
   rw [List.getElem?_eq_getElem hli, Option.map_some, Option.map_some, hb']
  ·
   rw [List.getElem?_take, if_neg hi, List.getElem?_eq_none (by simpa using hi)]; rfl
 have hheld : V ρ (heldW l.length) (.slice (some ⟨g, off, none⟩) l.length cap) := by
  have := V.sliceU (ρ := ρ) (b := 1) (o := 0) (n := l.length) (c := cap) hρ1 hnc (by simp)
  simpa [heldW] using this
 have hget0 : (heapRows (rowsS l.length)).get 0 = some (.cells words8 122 .rw) := by rw [heapRows_get]; rfl
 have hget1 : (heapRows (rowsS l.length)).get 1 = some (.cells bytes64 5 .still) := by rw [heapRows_get]; rfl
 obtain ⟨i5, hi5, hs5⟩ := Option.map_eq_some_iff.1 info5
 obtain ⟨i9, hi9, hs9⟩ := Option.map_eq_some_iff.1 info83
 have hHR : HR Tryz.prog ρ (heapRows (rowsS l.length)) w := by
  refine ⟨fun k x e hx he => ?_, fun k1 k2 x1 x2 e1 e2 hx1 hx2 he1 he2 hw hB => ?_, fun k e he => ?_, by rw [heapRows_next]; show 2 ≤ 2 ^ 64; decide, fun k hk => ?_⟩
  ·
   rcases hρ k e he with ⟨rfl, rfl⟩ | ⟨rfl, rfl⟩
   ·
    rw [hget0] at hx
    cases hx
    rw [hb]
    have hwn : win ⟨wordsC hw⟩ ⟨b, 0, 8, 8, 8⟩ = wordsC hw := by rfl
    refine .cells hi9 hs9 (by rfl) (Nat.le_refl 8) (by rfl) (fun _ j hj => hfr j hj) ?_ ?_ (Nat.zero_mod 8)
    ·
     rw [hwn]
     rw [words8_eq]
     refine VL_map _ _ _ fun k hk => ?_
     rw [← hVw k (by simpa using hk)]; exact .sym k
    ·
     rw [hwn]
     intro v hv
     obtain ⟨k, _, rfl⟩ := List.mem_map.1 hv; rfl
   ·
    rw [hget1] at hx
    cases hx
    rw [hg]
    refine .cells hi5 hs5 (by rfl) (by show 64 ≤ cap; omega) (hcs.2 (by omega)) (fun h => by cases h) ?_ ?_ (Nat.mod_one _)
    ·
     rw [hwin, bytes64_eq]
     refine VL_map _ _ _ fun k hk => ?_
     rw [← hVb k (by simpa using hk)]; exact .sym (8 + k)
    ·
     rw [hwin]; intro v hv
     obtain ⟨k, _, rfl⟩ := List.mem_map.1 hv; rfl
  ·
   rcases hρ k1 e1 he1 with ⟨rfl, rfl⟩ | ⟨rfl, rfl⟩ <;> rcases hρ k2 e2 he2 with ⟨rfl, rfl⟩ | ⟨rfl, rfl⟩
   ·
    rfl
   ·
    exact absurd hB.symm hgb
   ·
    exact absurd hB hgb
   ·
    rfl
  ·
   rw [heapRows_next]
   rcases hρ k e he with ⟨rfl, _⟩ | ⟨rfl, _⟩
   ·
    show 0 < 2; decide
   ·
    show 1 < 2; decide
  ·
   rw [heapRows_next] at hk
   rw [heapRows_get]
   have hk' : (rowsS l.length).length ≤ k := hk
   rw [List.getElem?_eq_none hk']
 have hWr : ∀ B, Wr ρ (heapRows (rowsS l.length)) B → B = b := fun B ⟨k, x, e, hx, he, hB, hw⟩ => by
  rcases hρ k e he with ⟨rfl, rfl⟩ | ⟨rfl, rfl⟩
  ·
   exact hB.symm
  ·
   rw [hget1] at hx; cases hx; cases hw
 obtain ⟨tm, H, hr, hout, hcell⟩ := cellsOut2_ok (runS l.length fun t => absJ (a.tmps.getD t undef))
 have e : L44b.drop 0 = (L44b.drop 0).take 1 ++ L44b.drop 1 := by rw [List.drop_zero, List.take_append_drop]
 rw [e]
 refine evL_ok (eShaS hsyms) mixed fS sS hr (fun c hc => allCode_ok ok44b c (List.mem_of_mem_drop (List.mem_of_mem_take hc))) hs (TR.of (by omega) fun p hp => ?_) hHR fun ρ' a' w' hT hH hSt hsz hdf => ?_
 ·
  simp only [insS, List.mem_cons, List.not_mem_nil, or_false] at hp
  rcases hp with rfl | rfl
  ·
   rw [hsl _ List.mem_cons_self]; exact hheld
  ·
   rw [hsl _ (List.mem_cons_of_mem _ List.mem_cons_self)]
   exact V.ptr (o := 0) hρ0
 ·
  have hle := hSt.le
  have e0 := hle 0 _ hρ0
  have e1 := hle 1 _ hρ1
  refine hQ a' w' ⟨hsz.trans hs, hdf.trans hd, fun p hp => ?_⟩ ?_ ⟨hSt.os, hSt.tape, hSt.output, hSt.size, fun k hk hne => hSt.keep k hk fun hw => hne (hWr k hw)⟩
  ·
   simp only [List.mem_cons, List.not_mem_nil, or_false] at hp
   rcases hp with rfl | rfl
   ·
    have := hT 3
    rw [show slot tm 3 = heldW l.length from hout.1] at this
    show a'.tmps.getD 3 undef = _
    generalize a'.tmps.getD 3 undef = x at this
    generalize hn : l.length = n at this hl ⊢
    cases this with
    | slice _ _ hc => exact absurd rfl hc
    | sliceU h hn hc => rw [e1] at h; cases h; simp at hc; subst hc; rfl
    | empty => omega
   ·
    have := hT 5
    rw [show slot tm 5 = .pointer (some ⟨0, 0, none⟩) from hout.2] at this
    show a'.tmps.getD 5 undef = _
    generalize a'.tmps.getD 5 undef = x at this
    cases this with
    | ptr h => rw [e0] at h; cases h; rfl
  ·
   have hbr := hH.blk 0 _ _ hcell e0
   dsimp only at hbr
   generalize hO : w'.heap[b]? = O at hbr
   cases hbr with
   | cells hi hk hlen hro hC hf hv h1 hbk =>
    rename_i C fr' i
    refine ⟨fr', ?_, fun j hj => hf rfl j (by rw [hC]; exact hj)⟩
    rw [hO]
    have hCw : win C ⟨b, 0, 8, 8, 8⟩ = C.toList := by
     show (C.toList.drop 0).take 8 = _
     rw [List.drop_zero, List.take_of_length_le]
     rw [Array.length_toList, hC]; exact Nat.le_refl 8
    rw [hCw] at hv
    have hCl : C.toList = wordsC (stirL hw l) := by
     have hv' : VL ρ' sums8 C.toList := hv
     rw [dens_inv (by rw [sums8_eq]; intro v hv; obtain ⟨k, _, rfl⟩ := List.mem_map.1 hv; rfl) hv']
     rfl
    have : C = ⟨C.toList⟩ := by cases C; rfl
    rw [this, hCl]
end
end Go.Proofs
