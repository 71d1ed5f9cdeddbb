/- The program's Write and Sum: the runs of the stir in them. -/
import Derived.Test.YthnojgpobfpgeaaGreatDoorTRefT
import Derived.Test.YthnojgpobfpgeaaGreatDoorEvBytes
namespace Go.Proofs
open Go.Ev Go.RowKit
noncomputable def L42 : List Code := codes (Tryz.f108.body.getD .skip)
noncomputable def L42a : List Code := codes (loopB (itemN L42 4))
noncomputable def blockB (c : Code) : Code := match c with
 | .block _ b => b
 | _ => .skip
noncomputable def L42b : List Code := codes (blockB (itemN L42a 2))
theorem ok42b : allCode 51 L42b = true := by kernel_rfl
def insW : List (Nat × Value) := [(0, .pointer (some ⟨0, 0, none⟩))]
def heldW (n : Nat) : Value := .slice (some ⟨1, 0, none⟩) n U
def rowsW (n : Nat) : List Row := [(words8 ++ [heldW n, .float .f64 9000], 169, .rw), (bytes64, 5, .still)]
noncomputable def cellsOut (ex : Ex) (outs : List (Nat × Value)) (b : Nat) (r : CRes) : Option (List Value × TypeId × Acc) :=
 bnd r fun r => chk (ifB (sameEx r.1 ex) (allS r.2.1 outs) false) (bnd (r.2.2.get b) cellsOf)
set_option maxRecDepth 100000 in
theorem runW (n : Nat) (j : Nat -> Value) : cellsOut .normal insW 0 (evL (envOfS (shaSyms {}) []) (evF (envOfS (shaSyms {}) []) 100000 20) 100000 ((L42b.drop 0).take 1) (tmOf j insW) (heapRows (rowsW n))) = some (sums8 ++ [heldW n, .float .f64 9000], 169, .rw) := by kernel_rfl
end Go.Proofs
namespace Go.Proofs
open Go.Ev Go.RowKit
def StAt (w : World) (b : Nat) (hw : Nat -> Nat) (held : Value) (many : Nat) : Prop :=
 ∃ fr : Nat × Nat, w.heap[b]? = some (.cells ⟨wordsC hw ++ [held, .int .u64 (many : Int)]⟩ 169 fr) /\ ∀ j, j < 10 -> ¬ (fr.1 <= j /\ j < fr.2)
structure But (b : Nat) (w w' : World) : Prop where
 os : w'.os = w.os
 tape : w'.tape = w.tape
 output : w'.output = w.output
 size : w.heap.size <= w'.heap.size
 block : ∀ k, k < w.heap.size -> k ≠ b -> w'.heap[k]? = w.heap[k]?
theorem info169 : (Tryz.prog.info? 169).map (fun i => i.size) = some 10 := by kernel_rfl
theorem cellsOut_ok {ex : Ex} {outs : List (Nat × Value)} {b : Nat} {r : CRes} {c : List Value × TypeId × Acc} (h : cellsOut ex outs b r = some c) :
  ∃ tm H, r = some (ex, tm, H) /\ (∀ p ∈ outs, slot tm p.1 = p.2) /\ H.get b = some (.cells c.1 c.2.1 c.2.2) := by
 unfold cellsOut at h
 simp only [bnd_eq, chk_eq] at h
 obtain ⟨⟨e, tm, H⟩, hr, hc, x, hx, hcl⟩ := h
 cases h1 : sameEx e ex with
 | false => rw [h1, ifB_false] at hc; cases hc
 | true =>
  rw [h1, ifB_true] at hc
  refine ⟨tm, H, by rw [hr, sameEx_ok h1], allS_ok hc, ?_⟩
  cases x with
  | cells cs el ro => cases hcl; exact hx
  | _ => cases hcl
section
variable {Q : Exit -> Act -> World -> Prop} {a : Act} {w : World}
theorem stepW {hw : Nat -> Nat} (h8 : ∀ k, k < 8 -> hw k < W32) {l : List UInt8} (hl : 64 <= l.length) {b base many : Nat} {held : Value} (hS : StAt w b hw held many) (hB : BytesAt w base 5 held l) (hbase : b < base)
  (hF : Fr 51 a [(0, .pointer (some ⟨b, 0, none⟩))])
  (hQ : ∀ a' w', Fr 51 a' [(0, .pointer (some ⟨b, 0, none⟩))] -> StAt w' b (stirL hw l) held many -> But b w w' -> wpL Tryz.prog (L42b.drop 1) Q a' w') : wpL Tryz.prog (L42b.drop 0) Q a w := by
 obtain ⟨fr, hb, hfr⟩ := hS
 rcases hB with ⟨_, rfl⟩ | ⟨g, off, cap, cur, rfl, hbg, hg, hnc, hcm, hcs, htake⟩
 ·
  simp at hl
 obtain ⟨hs, hd, hsl⟩ := hF
 have hcU : cap ≠ U := by unfold U; unfold maxLen at hcm; omega
 let ex : Nat -> Value := fun _ => .int .u64 (many : Int)
 have hex : ∀ k, isIS (ex k) = true := fun _ => rfl
 let bs : Nat -> Nat := fun k => ((l.take 64).getD k 0).toNat
 have h64 : ∀ k, k < 64 -> bs k < 256 := fun k _ => UInt8.toNat_lt _
 letI : Sg := shaSg shaL hw bs ex hex
 have hsyms := shaSyms_ok (P := Tryz.prog) (X := {}) hex h8 h64 noTabs
 let ρ : Map := fun k => if k = 0 then some ⟨b, 0, 10, 10, 10⟩ else if k = 1 then some ⟨g, off, 64, cap, 1⟩ else none
 have hρ0 : ρ 0 = some ⟨b, 0, 10, 10, 10⟩ := rfl
 have hρ1 : ρ 1 = some ⟨g, off, 64, cap, 1⟩ := rfl
 have hρ : ∀ k e, ρ k = some e -> (k = 0 /\ e = ⟨b, 0, 10, 10, 10⟩) \/ (k = 1 /\ e = ⟨g, off, 64, cap, 1⟩) := fun k e h => by
  simp only [ρ] at h
  split at h
  ·
   rename_i h0; exact .inl ⟨h0, (Option.some.inj h).symm⟩
  ·
   split at h
   ·
    rename_i h0; exact .inr ⟨h0, (Option.some.inj h).symm⟩
   ·
    cases h
 have hgb : g ≠ b := by omega
 have hVb : ∀ k, k < 64 -> Sg.val (8 + k) = .int .u8 (bs k : Int) := fun k hk => by
  show shaV shaL hw bs ex (8 + k) = _
  rw [shaV_byte (by omega) (by omega)]
  unfold sv
  rw [vals_lt _ _ _ (8 + k) (by omega)]
  unfold f0
  rw [if_neg (by omega), if_pos (by omega), Nat.add_sub_cancel_left]
 have hVw : ∀ k, k < 8 -> Sg.val k = .int .u32 (hw k : Int) := fun k hk => by
  show shaV shaL hw bs ex k = _
  rw [shaV_word ⟨.inl hk, by omega⟩]
  unfold sv
  rw [vals_lt _ _ _ k (by omega)]
  unfold f0
  rw [if_pos hk]
 have hwin : win cur ⟨g, off, 64, cap, 1⟩ = (List.range 64).map fun k => Value.int .u8 (bs k : Int) := by
  apply List.ext_getElem?
  intro i
  simp only [win, List.getElem?_map]
  by_cases hi : i < 64
  ·
   have h1 := congrArg (fun x => x[i]?) htake
   simp only [List.getElem?_take, List.getElem?_map] at h1
   rw [if_pos (by omega)] at h1
   rw [List.getElem?_take, if_pos hi, h1, List.getElem?_range hi]
   have hli : i < l.length := by omega
   have hb' : bs i = l[i].toNat := by
    show ((l.take 64).getD i 0).toNat = _
    rw [List.getD_eq_getElem?_getD, List.getElem?_take, if_pos hi, List.getElem?_eq_getElem hli]; rfl
   rw [List.getElem?_eq_getElem hli, Option.map_some, Option.map_some, hb']
  ·
   rw [List.getElem?_take, if_neg hi, List.getElem?_eq_none (by simpa using hi)]; rfl
 have hheld : V ρ (heldW l.length) (.slice (some ⟨g, off, none⟩) l.length cap) := by
  have := V.sliceU (ρ := ρ) (b := 1) (o := 0) (n := l.length) (c := cap) hρ1 hnc (by simp)
  simpa [heldW] using this
 have hget0 : (heapRows (rowsW l.length)).get 0 = some (.cells (words8 ++ [heldW l.length, .float .f64 9000]) 169 .rw) := by rw [heapRows_get]; rfl
 have hget1 : (heapRows (rowsW l.length)).get 1 = some (.cells bytes64 5 .still) := by rw [heapRows_get]; rfl
 obtain ⟨i5, hi5, hs5⟩ := Option.map_eq_some_iff.1 info5
 obtain ⟨i9, hi9, hs9⟩ := Option.map_eq_some_iff.1 info169
 have hHR : HR Tryz.prog ρ (heapRows (rowsW l.length)) w := by
  refine ⟨fun k x e hx he => ?_, fun k1 k2 x1 x2 e1 e2 hx1 hx2 he1 he2 hw hB => ?_, fun k e he => ?_, by rw [heapRows_next]; show 2 <= 2 ^ 64; decide, fun k hk => ?_⟩
  ·
   rcases hρ k e he with ⟨rfl, rfl⟩ | ⟨rfl, rfl⟩
   ·
    rw [hget0] at hx
    cases hx
    rw [hb]
    have hwn : win ⟨wordsC hw ++ [.slice (some ⟨g, off, none⟩) l.length cap, .int .u64 (many : Int)]⟩ ⟨b, 0, 10, 10, 10⟩ = wordsC hw ++ [.slice (some ⟨g, off, none⟩) l.length cap, .int .u64 (many : Int)] := by rfl
    refine .cells hi9 hs9 (by rfl) (Nat.le_refl 10) (by rfl) (fun _ j hj => hfr j hj) ?_ ?_ (Nat.zero_mod 10)
    ·
     rw [hwn]
     refine VL.append ?_ (.cons hheld (.cons ?_ .nil))
     ·
      rw [words8_eq]
      refine VL_map _ _ _ fun k hk => ?_
      rw [<- hVw k (by simpa using hk)]; exact .sym k
     ·
      have : Sg.val 9000 = .int .u64 (many : Int) := shaV_ex (by decide)
      rw [<- this]; exact .sym 9000
    ·
     rw [hwn]
     intro v hv
     rcases List.mem_append.1 hv with h | h
     ·
      obtain ⟨k, _, rfl⟩ := List.mem_map.1 h; rfl
     ·
      simp only [List.mem_cons, List.not_mem_nil, or_false] at h
      rcases h with rfl | rfl <;> rfl
   ·
    rw [hget1] at hx
    cases hx
    rw [hg]
    refine .cells hi5 hs5 (by rfl) (by show 64 <= cap; omega) (hcs.2 (by omega)) (fun h => by cases h) ?_ ?_ (Nat.mod_one _)
    ·
     rw [hwin, bytes64_eq]
     refine VL_map _ _ _ fun k hk => ?_
     rw [<- hVb k (by simpa using hk)]; exact .sym (8 + k)
    ·
     rw [hwin]; intro v hv
     obtain ⟨k, _, rfl⟩ := List.mem_map.1 hv; rfl
  ·
   rcases hρ k1 e1 he1 with ⟨rfl, rfl⟩ | ⟨rfl, rfl⟩ <;> rcases hρ k2 e2 he2 with ⟨rfl, rfl⟩ | ⟨rfl, rfl⟩
   ·
    rfl
   ·
    exact absurd hB.symm hgb
   ·
    exact absurd hB hgb
   ·
    rfl
  ·
   rw [heapRows_next]
   rcases hρ k e he with ⟨rfl, _⟩ | ⟨rfl, _⟩
   ·
    show 0 < 2; decide
   ·
    show 1 < 2; decide
  ·
   rw [heapRows_next] at hk
   rw [heapRows_get]
   have hk' : (rowsW l.length).length <= k := hk
   rw [List.getElem?_eq_none hk']
 have hWr : ∀ B, Wr ρ (heapRows (rowsW l.length)) B -> B = b := fun B ⟨k, x, e, hx, he, hB, hw⟩ => by
  rcases hρ k e he with ⟨rfl, rfl⟩ | ⟨rfl, rfl⟩
  ·
   exact hB.symm
  ·
   rw [hget1] at hx; cases hx; cases hw
 obtain ⟨tm, H, hr, hout, hcell⟩ := cellsOut_ok (runW l.length fun t => absJ (a.tmps.getD t undef))
 have e : L42b.drop 0 = (L42b.drop 0).take 1 ++ L42b.drop 1 := by rw [List.drop_zero, List.take_append_drop]
 rw [e]
 refine evL_ok (eShaS hsyms) mixed fS sS hr (fun c hc => allCode_ok ok42b c (List.mem_of_mem_drop (List.mem_of_mem_take hc))) hs (TR.of (by omega) fun p hp => ?_) hHR fun ρ' a' w' hT hH hSt hsz hdf => ?_
 ·
  simp only [insW, List.mem_cons, List.not_mem_nil, or_false] at hp
  subst hp
  rw [hsl _ List.mem_cons_self]
  exact V.ptr (o := 0) hρ0
 ·
  have hle := hSt.le
  have e0 := hle 0 _ hρ0
  have e1 := hle 1 _ hρ1
  refine hQ a' w' ⟨hsz.trans hs, hdf.trans hd, fun p hp => ?_⟩ ?_ ⟨hSt.os, hSt.tape, hSt.output, hSt.size, fun k hk hne => hSt.keep k hk fun hw => hne (hWr k hw)⟩
  ·
   simp only [List.mem_cons, List.not_mem_nil, or_false] at hp
   subst hp
   have := hT 0
   rw [show slot tm 0 = .pointer (some ⟨0, 0, none⟩) from hout (0, .pointer (some ⟨0, 0, none⟩)) List.mem_cons_self] at this
   show a'.tmps.getD 0 undef = _
   generalize a'.tmps.getD 0 undef = x at this
   cases this with
   | ptr h => rw [e0] at h; cases h; rfl
  ·
   have hbr := hH.blk 0 _ _ hcell e0
   dsimp only at hbr
   generalize hO : w'.heap[b]? = O at hbr
   cases hbr with
   | cells hi hk hlen hro hC hf hv h1 hbk =>
    rename_i C fr' i
    refine ⟨fr', ?_, fun j hj => hf rfl j (by rw [hC]; exact hj)⟩
    rw [hO]
    have hCw : win C ⟨b, 0, 10, 10, 10⟩ = C.toList := by
     show (C.toList.drop 0).take 10 = _
     rw [List.drop_zero, List.take_of_length_le]
     rw [Array.length_toList, hC]; exact Nat.le_refl 10
    rw [hCw] at hv
    have hCl : C.toList = wordsC (stirL hw l) ++ [.slice (some ⟨g, off, none⟩) l.length cap, .int .u64 (many : Int)] := by
     have hv' : VL ρ' (sums8 ++ [heldW l.length, .float .f64 9000]) C.toList := hv
     clear hv
     have key : ∀ {x : List Value} {z : List Value}, VL ρ' (x ++ [heldW l.length, .float .f64 9000]) z -> (∀ v ∈ x, atom v = true) -> z = x.map den ++ [.slice (some ⟨g, off, none⟩) l.length cap, .int .u64 (many : Int)] := by
      intro x
      induction x with
      | nil =>
       intro z h _
       cases h with
       | cons ha ht => cases ht with
        | cons hb' ht => cases ht with
         | nil =>
          have h2 : den (.float .f64 9000) = .int .u64 (many : Int) := show shaV shaL hw bs ex 9000 = _ from shaV_ex (by decide)
          rw [den_inv rfl hb', h2]
          generalize hn : l.length = n at ha hl ⊢
          cases ha with
          | slice _ _ hc => exact absurd rfl hc
          | sliceU h hn hc => rw [e1] at h; cases h; simp at hc; subst hc; rfl
          | empty => omega
      | cons v x ih =>
       intro z h hx
       cases h with
       | cons ha ht => rw [den_inv (hx v (by simp)) ha, ih ht fun v hv => hx v (by simp [hv])]; rfl
     rw [key hv' (by rw [sums8_eq]; intro v hv; obtain ⟨k, _, rfl⟩ := List.mem_map.1 hv; rfl)]
     rfl
    have : C = ⟨C.toList⟩ := by cases C; rfl
    rw [this, hCl]
end
end Go.Proofs
