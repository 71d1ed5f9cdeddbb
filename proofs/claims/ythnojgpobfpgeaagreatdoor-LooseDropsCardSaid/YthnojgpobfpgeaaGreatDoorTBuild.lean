/- strings.Builder's WriteByte beside a row of bytes; code.Hex. -/
import Derived.Shelf.Strings.Builder1
import Derived.Lib.Builder
import Derived.Lib.ConvBytes
import Derived.Below
import Derived.WalkKit
import Derived.Laws.IdiomRangeMap
import Derived.LoopTactic
import Derived.LoopN
import Derived.Test.YthnojgpobfpgeaaGreatDoorEvSpecs
import Derived.Test.YthnojgpobfpgeaaGreatDoorProg
namespace Go.Proofs
open Go.RowKit Go.Shelf
theorem sizeBuilder : (Tryz.prog.info? 134).map (fun i => i.size) = some 2 := by kernel_rfl
theorem liesBuilder : liesAt Tryz.prog Tryz.prog.depth 134 (2 / Tryz.prog.cellsOf 134) 0 134 1 = true := by kernel_rfl
theorem infoByte : (Tryz.prog.info? 5).map (fun i => (i.zero, i.size, i.bytes)) = some (some (.int .u8 0), 1, 1) := by kernel_rfl
set_option maxRecDepth 1000000 in
theorem check_used (b : Nat) (w : World) (h0 : w.cell? ⟨b, 0, none⟩ = some (.pointer (some ⟨b, 0, none⟩))) :
  Calls Tryz.prog 123 #[.pointer (some ⟨b, 0, none⟩)] w fun e w' => e = .returned (.tuple #[]) /\ w' = w := by
 obtain ⟨j, hj, _⟩ := Option.map_eq_some_iff.1 sizeBuilder
 go_enter Tryz.func123, Tryz.ntmps123
 go_wp2
 rw [Lib.run_neq_ptr_same w _ Tryz.underlying132 hj]
 go_wp2
 go_end0
 exact ⟨rfl, rfl⟩
set_option maxHeartbeats 1000000 in
set_option maxRecDepth 1000000 in
theorem check_fresh (b : Nat) (w : World) (h0 : w.cell? ⟨b, 0, none⟩ = some (.pointer none)) (hsh : w.shape? b = some (134, 2)) (hfz : w.frozen? ⟨b, 0, none⟩ = false) :
  Calls Tryz.prog 123 #[.pointer (some ⟨b, 0, none⟩)] w fun e w' => e = .returned (.tuple #[]) /\ w' = w.setCell ⟨b, 0, none⟩ (.pointer (some ⟨b, 0, none⟩)) := by
 obtain ⟨j, hj, hjs⟩ := Option.map_eq_some_iff.1 sizeBuilder
 go_enter Tryz.func123, Tryz.ntmps123
 go_wp2
 rw [Lib.run_to_unsafe w ⟨b, 0, none⟩ Tryz.underlying132 Tryz.underlying183 hj (by rw [hjs]; decide) hsh (Nat.zero_lt_succ 1)]
 simp only [Result.andThen]
 rw [Oper.upon_value]
 go_wp2
 rw [run_callFunc_extern Tryz.func153 (by kernel_rfl) (by kernel_rfl) (by kernel_rfl) (e := Extern.AbiNoEscape.same) (by kernel_rfl)]
 rw [Lib.run_noEscape]
 simp only [Result.andThen]
 rw [Oper.upon_value]
 go_wp2
 rw [Lib.run_from_unsafe w ⟨b, 0, none⟩ Tryz.underlying183 Tryz.underlying132 hj hsh liesBuilder]
 simp only [Result.andThen]
 rw [Oper.upon_value]
 go_wp2
 go_end0
 exact ⟨rfl, rfl⟩
def BuildAt (w0 : World) (R b : Nat) (p : Value) (l : List UInt8) (w : World) : Prop :=
 ∃ v, w.heap[b]? = some (.cells #[p, v] 134 (0, 0)) /\ w.ownsRow R 5 1 v l.length (Lib.byteCells l) /\ w.os = w0.os /\ w.tape = w0.tape /\ w.output = w0.output /\ w0.heap.size <= w.heap.size /\ R <= w.heap.size /\ ∀ k, k < R -> k ≠ b -> w.heap[k]? = w0.heap[k]?
set_option maxHeartbeats 1000000 in
theorem check_any {w0 : World} {R b : Nat} {p : Value} {l : List UInt8} {w : World} (hp : p = .pointer none \/ p = .pointer (some ⟨b, 0, none⟩)) (hb : b < R) (h : BuildAt w0 R b p l w) :
  Calls Tryz.prog 123 #[.pointer (some ⟨b, 0, none⟩)] w fun e w' => e = .returned (.tuple #[]) /\ BuildAt w0 R b (.pointer (some ⟨b, 0, none⟩)) l w' := by
 obtain ⟨v, hbk, hown, h1, h2, h3, h4, h5, h6⟩ := h
 rcases hp with rfl | rfl
 ·
  refine (check_fresh b w (by rw [Lib.cell_of_heap hbk]; rfl) (by simp [World.shape?, hbk]) (Lib.frozen_of_heap hbk 0)).mono ?_
  rintro e w' ⟨rfl, rfl⟩
  have hlt : b < w.heap.size := by omega
  have hset : (w.setCell ⟨b, 0, none⟩ (.pointer (some ⟨b, 0, none⟩))).heap[b]? = some (.cells #[.pointer (some ⟨b, 0, none⟩), v] 134 (0, 0)) := by
   simp [World.setCell, Array.getElem?_modify, hbk]
  have hoth : ∀ k, k ≠ b -> (w.setCell ⟨b, 0, none⟩ (.pointer (some ⟨b, 0, none⟩))).heap[k]? = w.heap[k]? := fun k hk => by
   simp only [World.setCell, Array.getElem?_modify]
   rw [if_neg (fun e => hk e.symm)]
  refine ⟨rfl, v, hset, ?_, h1, h2, h3, by simpa [World.setCell] using h4, by simpa [World.setCell] using h5, fun k hk hkb => (hoth k hkb).trans (h6 k hk hkb)⟩
  refine ⟨hown.1, hown.2.imp id fun ⟨g, cap, cur, e1, e2, e3, e4⟩ => ⟨g, cap, cur, e1, e2, (hoth g (by omega)).trans e3, e4⟩⟩
 ·
  refine (check_used b w (by rw [Lib.cell_of_heap hbk]; rfl)).mono ?_
  rintro e w' ⟨rfl, rfl⟩
  exact ⟨rfl, v, hbk, hown, h1, h2, h3, h4, h5, h6⟩
set_option maxHeartbeats 2000000 in
set_option maxRecDepth 1000000 in
theorem write_byte {w0 : World} {R b : Nat} {p : Value} {l : List UInt8} {c : UInt8} {w : World} (hp : p = .pointer none \/ p = .pointer (some ⟨b, 0, none⟩)) (hb : b < R) (hlen : l.length + 1 <= 140737488355328) (h : BuildAt w0 R b p l w) :
  Calls Tryz.prog 93 #[.pointer (some ⟨b, 0, none⟩), .int .u8 c.toNat] w fun e w' => e = .returned .nilIface /\ BuildAt w0 R b (.pointer (some ⟨b, 0, none⟩)) (l ++ [c]) w' := by
 obtain ⟨i0, hi, hz0, hz1, hz2⟩ := info_parts infoByte
 generalize hC : (c.toNat : Int) = C
 go_enter Tryz.func93, Tryz.ntmps93
 go_wp2_with (go_at_call 123; refine (check_any hp hb h).mono ?_)
 rintro e w1 ⟨rfl, v, hbk, hown, h1, h2, h3, h4, h5, h6⟩
 have c0 : w1.cell? ⟨b, 0, none⟩ = some (.pointer (some ⟨b, 0, none⟩)) := by rw [Lib.cell_of_heap hbk]; rfl
 have c1 : w1.cell? ⟨b, 1, none⟩ = some v := by rw [Lib.cell_of_heap hbk]; rfl
 go_wp2_with (at_builtin; refine wpList_append_own _ rfl _ _ 71 rfl R 5 i0 (.int .u8 0) 1 1 Tryz.underlying71 hi hz0 hz1 hz2 rfl (by decide) _ _ _ rfl (hown.alloc _) ⟨w1.heap.size, 0, none⟩ 1 1 [.int .u8 C] rfl rfl ?c1 ?c2 ?c3 ?c4 ?c5 ?_)
 case c1 =>
  intro j u hj
  match j, hj with
  | 0, hj => simp at hj; subst hj; simp [Addr.add]
 case c2 => intro u hu; simp at hu; subst hu; rfl
 case c3 => unfold maxLen; omega
 case c4 => omega
 case c5 => simp; omega
 intro v' w2 hown' hgrow _
 have hlt : b < w1.heap.size := by omega
 have hold : ∀ k, k < w1.heap.size -> v.ownBlock ≠ some k -> w2.heap[k]? = w1.heap[k]? := fun k hk hne => by
  rw [hgrow.block k (by simp; omega) (fun e => hne e.symm), Lib.alloc_old w1 _ k hk]
 have hne : ∀ k, k < R -> v.ownBlock ≠ some k := fun k hk e => by have := (hown.lt k e).1; omega
 have hb2 : w2.heap[b]? = some (.cells #[.pointer (some ⟨b, 0, none⟩), v] 134 (0, 0)) := (hold b hlt (hne b hb)).trans hbk
 have d0 : w2.cell? ⟨b, 0, none⟩ = some (.pointer (some ⟨b, 0, none⟩)) := by rw [Lib.cell_of_heap hb2]; rfl
 have d1 : w2.cell? ⟨b, 1, none⟩ = some v := by rw [Lib.cell_of_heap hb2]; rfl
 have f1 : w2.frozen? ⟨b, 1, none⟩ = false := Lib.frozen_of_heap hb2 1
 have hsz := hgrow.size
 obtain ⟨g, cap, rfl⟩ : ∃ g cap, v' = .slice (some ⟨g, 0, none⟩) (l.length + 1) cap := by
  rcases hown'.2 with ⟨_, h0⟩ | ⟨g, cap, cur, hv, _⟩
  ·
   omega
  ·
   exact ⟨g, cap, hv⟩
 go_wp2
 go_ret
 have hset : (w2.setCell ⟨b, 1, none⟩ (.slice (some ⟨g, 0, none⟩) (l.length + 1) cap)).heap[b]? = some (.cells #[.pointer (some ⟨b, 0, none⟩), .slice (some ⟨g, 0, none⟩) (l.length + 1) cap] 134 (0, 0)) := by
  simp [World.setCell, Array.getElem?_modify, hb2]
 have hoth : ∀ k, k ≠ b -> (w2.setCell ⟨b, 1, none⟩ (.slice (some ⟨g, 0, none⟩) (l.length + 1) cap)).heap[k]? = w2.heap[k]? := fun k hk => by
  simp only [World.setCell, Array.getElem?_modify]
  rw [if_neg (fun e => hk e.symm)]
 have hbytes : Lib.byteCells (l ++ [c]) = Lib.byteCells l ++ [.int .u8 C] := by rw [Lib.byteCells_append, <- hC]; rfl
 refine ⟨rfl, _, hset, ?_, hgrow.os.trans h1, hgrow.tape.trans h2, hgrow.output.trans h3, ?_, ?_, fun k hk hkb => (hoth k hkb).trans ((hold k (by omega) (hne k hk)).trans (h6 k hk hkb))⟩
 ·
  rw [hbytes, List.length_append]
  refine ⟨hown'.1, hown'.2.imp id fun ⟨g', cap', cur, e1, e2, e3, e4⟩ => ⟨g', cap', cur, e1, e2, (hoth g' (by omega)).trans e3, e4⟩⟩
 ·
  simp only [World.setCell, Array.size_modify]; simp at hsz; omega
 ·
  simp only [World.setCell, Array.size_modify]; simp at hsz; omega
def Tryz.string94_ren : Go.Shelf.Ren := ⟨fun | 169 => 94 | n => n, fun | 70 => 132 | 9 => 9 | 0 => 0 | 72 => 134 | 37 => 71 | 127 => 164 | 3 => 3 | 5 => 5 | n => n, fun | n => n⟩
theorem Tryz.string94 : Go.Proofs.Lays.n169 Tryz.prog Tryz.string94_ren := {mixed := by kernel_rfl, f169 := Tryz.func94.trans (congrArg some (by kernel_rfl)), t0 := Tryz.underlying0, a0 := Tryz.isAgg0, z0 := Tryz.sizeOf0, v0 := Tryz.zeroValue0, t3 := Tryz.underlying3, a3 := Tryz.isAgg3, z3 := Tryz.sizeOf3, v3 := Tryz.zeroValue3, t9 := Tryz.underlying9, a9 := Tryz.isAgg9, z9 := Tryz.sizeOf9, v9 := Tryz.zeroValue9, t37 := Tryz.underlying71, a37 := Tryz.isAgg71, z37 := Tryz.sizeOf71, v37 := Tryz.zeroValue71, t70 := Tryz.underlying132, a70 := Tryz.isAgg132, z70 := Tryz.sizeOf132, v70 := Tryz.zeroValue132, t72 := Tryz.underlying134, a72 := Tryz.isAgg134, z72 := Tryz.sizeOf134, v72 := Tryz.zeroValue134, t127 := Tryz.underlying164, a127 := Tryz.isAgg164, z127 := Tryz.sizeOf164, v127 := Tryz.zeroValue164}
theorem extra134 : Builder.Extra Tryz.prog Tryz.string94_ren := { sizeBuilder := by kernel_rfl, liesBuilder := by kernel_rfl, t5 := Tryz.underlying5, a5 := Tryz.isAgg5, z5 := Tryz.sizeOf5, v5 := Tryz.zeroValue5, infoByte := by kernel_rfl, cellsByte := by kernel_rfl, sizeByte := by kernel_rfl, neB5 := by decide }
def digL (n : Nat) : UInt8 := if n < 10 then UInt8.ofNat (48 + n) else UInt8.ofNat (87 + n)
def hexL (l : List UInt8) : List UInt8 := l.flatMap fun c => [digL (c.toNat / 16), digL (c.toNat % 16)]
theorem digs : ∀ (n : Nat) (h : n < 16), (⟨#[48, 49, 50, 51, 52, 53, 54, 55, 56, 57, 97, 98, 99, 100, 101, 102]⟩ : ByteArray)[n] = digL n := by
 intro n h
 rcases Go.Ev.lt16 h with rfl | rfl | rfl | rfl | rfl | rfl | rfl | rfl | rfl | rfl | rfl | rfl | rfl | rfl | rfl | rfl <;> rfl
theorem hexL_append (a b : List UInt8) : hexL (a ++ b) = hexL a ++ hexL b := by simp [hexL]
theorem hexL_length (l : List UInt8) : (hexL l).length = 2 * l.length := by
 induction l with
 | nil => rfl
 | cons a l ih => simp [hexL] at ih ⊢; omega
set_option maxHeartbeats 2000000 in
set_option maxRecDepth 1000000 in
theorem hex_walk (s : ByteArray) (hs : s.size <= 1099511627776) (w : World) :
  Calls Tryz.prog 55 #[.string s] w fun e w' => e = .returned (.string ⟨⟨hexL s.data.toList⟩⟩) /\ Below w.heap.size w w' := by
 have hcv : ∀ W : World, (convert 9 71 (.string s)).run Tryz.prog W = _ := fun W => Lib.run_convert_string_bytes W 9 71 5 s Tryz.underlying9 Tryz.underlying71 Tryz.underlying5
 go_enter Tryz.func55, Tryz.ntmps55
 go_wp2
 have hb0 : BuildAt w (w.heap.size + 2) w.heap.size (.pointer none) [] (Lib.bytesWorld (w.alloc (.cells #[.pointer none, .slice none 0 0] 134)) 5 s) \/ True := .inr trivial
 clear hb0
 generalize hW0 : Lib.bytesWorld (w.alloc (.cells #[.pointer none, .slice none 0 0] 134)) 5 s = W0
 have hsz0 : W0.heap.size = w.heap.size + 2 := by rw [<- hW0, Lib.bytesWorld_size]; simp
 have hold0 : ∀ k, k < w.heap.size + 1 -> W0.heap[k]? = (w.alloc (.cells #[.pointer none, .slice none 0 0] 134)).heap[k]? := fun k hk => by rw [<- hW0]; exact Lib.bytesWorld_at_old _ _ _ _ (by simpa using hk)
 have hcell0 : ∀ j, j < s.size -> W0.cell? ⟨w.heap.size + 1, j, none⟩ = some (.int .u8 (s.data.toList.getD j 0).toNat) := fun j hj => by
  have := Lib.bytesWorld_cell (w.alloc (.cells #[.pointer none, .slice none 0 0] 134)) 5 s j hj
  rw [hW0, World.size_alloc] at this
  exact this
 have hother : W0.os = w.os /\ W0.tape = w.tape /\ W0.output = w.output := by rw [<- hW0]; exact ⟨rfl, rfl, rfl⟩
 have hstart : BuildAt W0 (w.heap.size + 2) w.heap.size (.pointer none) [] W0 :=
  ⟨.slice none 0 0, (hold0 _ (by omega)).trans (heap_alloc_new w _), World.ownsRow_nil _ _ _ _, rfl, rfl, rfl, Nat.le_refl _, by omega, fun _ _ _ => rfl⟩
 clear hcv hW0
 go_loopw [9] (fun v wr => ∃ i : Nat, i <= s.size /\ v = .int .i64 i /\ ∃ p, (p = .pointer none \/ p = .pointer (some ⟨w.heap.size, 0, none⟩)) /\ BuildAt W0 (w.heap.size + 2) w.heap.size p (hexL (s.data.toList.take i)) wr) (fun v _ => s.size - (valOf v).toNat)
 case atStart => exact ⟨0, Nat.zero_le _, rfl, _, .inl rfl, by simpa [hexL] using hstart⟩
 case round =>
  obtain ⟨i, hi, rfl, p, hp, hB⟩ := hrel
  by_cases hlt : i < s.size
  ·
   have hlt' : ((i : Int) < (s.size : Int)) := by exact_mod_cast hlt
   have hc : wr.cell? ⟨w.heap.size + 1, i, none⟩ = some (.int .u8 (s.data.toList.getD i 0).toNat) := by
    obtain ⟨v, _, _, _, _, _, _, _, h6⟩ := hB
    have := hcell0 i hlt
    unfold World.cell? at this ⊢
    have h7 : wr.heap[w.heap.size + 1]? = W0.heap[w.heap.size + 1]? := h6 _ (by omega) (by omega)
    simp only [h7]
    exact this
   generalize hcc : s.data.toList.getD i 0 = c at hc
   have hC1 : (c.toNat : Int) <= 255 := by have := c.toNat_lt; omega
   have hC0 : (0 : Int) <= (c.toNat : Int) := by omega
   generalize hC : (c.toNat : Int) = C at hc hC0 hC1
   have hq0 : (0 : Int) <= C / 16 := by omega
   have hq1 : C / 16 < 16 := by omega
   have hq2 : C / 16 <= 255 := by omega
   have hr0 : (0 : Int) <= C % 16 := by omega
   have hr1 : C % 16 < 16 := by omega
   have hl : (hexL (s.data.toList.take i)).length <= 2 * i := by rw [hexL_length, List.length_take]; omega
   go_wp2_with (go_at_call 93; refine (write_byte hp (by omega) (by omega) hB).mono ?_)
   rintro e w1 ⟨rfl, hB1⟩
   go_wp2_with (go_at_call 93; refine (write_byte (.inr rfl) (by omega) (by rw [List.length_append]; simp; omega) hB1).mono ?_)
   rintro e w2 ⟨rfl, hB2⟩
   go_wp2
   have hget : s.data.toList[i]? = some c := by
    have hlen : i < s.data.toList.length := by simpa using hlt
    rw [List.getElem?_eq_getElem hlen]
    rw [<- hcc]
    simp [List.getD, List.getElem?_eq_getElem hlen]
   have hnat : (C / 16).toNat = c.toNat / 16 := by rw [<- hC]; omega
   have hnat2 : (C % 16).toNat = c.toNat % 16 := by rw [<- hC]; omega
   refine ⟨⟨i + 1, by omega, by push_cast; rfl, _, .inr rfl, ?_⟩, ?_⟩
   ·
    have e1 : hexL (s.data.toList.take (i + 1)) = hexL (s.data.toList.take i) ++ [digL (c.toNat / 16)] ++ [digL (c.toNat % 16)] := by
     rw [List.take_add_one, hget, hexL_append]
     simp [hexL]
    rw [e1]
    have e2 := digs (c.toNat / 16) (by have := c.toNat_lt; omega)
    have e3 := digs (c.toNat % 16) (by omega)
    simp only [hnat, hnat2, e2, e3] at hB2
    exact hB2
   ·
    simp [valOf]; omega
  ·
   have hi' : i = s.size := by omega
   subst hi'
   have htake : s.data.toList.take s.size = s.data.toList := by rw [List.take_of_length_le]; simp
   rw [htake] at hB
   have hlt' : ¬ ((s.size : Int) < (s.size : Int)) := by omega
   have hbel : Below w.heap.size w wr := by
    obtain ⟨v, _, _, h1, h2, h3, h4, _, h6⟩ := hB
    exact ⟨h1.trans hother.1, h2.trans hother.2.1, h3.trans hother.2.2, by omega, fun k hk => (h6 k (by omega) (by omega)).trans ((hold0 k (by omega)).trans (Below.heap_alloc w _ k hk))⟩
   have hisB : Lib.IsBuilder 134 5 w.heap.size w.heap.size (Lib.byteCells (hexL s.data.toList)) wr := by
    obtain ⟨v, hbk, hown, _⟩ := hB
    have hat : Lib.BuilderAt 134 5 w.heap.size w.heap.size p (Lib.byteCells (hexL s.data.toList)) wr :=
     ⟨Nat.le_refl _, v, hbk, by
      rw [Lib.byteCells_length]
      exact ⟨hown.1, hown.2.imp id fun ⟨g, cap, cur, e1, e2, e3⟩ => ⟨g, cap, cur, e1, by omega, e3⟩⟩, fun e => by have := (hown.lt _ e).1; omega⟩
    rcases hp with rfl | rfl
    ·
     exact .inl hat
    ·
     exact .inr hat
   have hstr : Calls Tryz.prog 94 #[.pointer (some ⟨w.heap.size, 0, none⟩)] wr fun e w' => e = .returned (.string ⟨⟨hexL s.data.toList⟩⟩) /\ Below w.heap.size wr w' := by
    by_cases h0 : hexL s.data.toList = []
    ·
     rw [h0] at hisB ⊢
     exact Any.Builder_String_empty Tryz.string94 extra134 w.heap.size w.heap.size wr hisB hbel.size
    ·
     exact Any.Builder_String Tryz.string94 extra134 w.heap.size w.heap.size (hexL s.data.toList) wr hisB h0
   go_wp2_with (go_at_call 94; refine hstr.mono ?_; rintro e w1 ⟨rfl, hb1⟩)
   go_ret
   exact ⟨rfl, hbel.trans hb1⟩
end Go.Proofs
