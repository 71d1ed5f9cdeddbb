/- HasPrefix; kids and Used. -/
import Derived.Test.YthnojgpobfpgeaaGreatDoorProg
import Derived.Tactics
import Derived.Tactics2
import Derived.StillTactics
import Derived.Laws.Strings
import Derived.Laws.Strings2
import Derived.Laws.Strings3
import Derived.Laws.Sem
import Derived.Laws.Concat
import Derived.Laws.Slices
import Derived.Laws.Small
import Derived.Laws.World
import Derived.Scope
import Derived.FnLit
import Derived.LoopTactic
import Derived.LoopN
import Derived.Laws.IdiomRangeMap
import Derived.Shelf.Strings.Prefix
import Derived.Below
import Derived.Test.YthnojgpobfpgeaaGreatDoorEvSpecs
import Derived.Laws.Cells
import Derived.Laws.Pointers
import Derived.Laws.NewBlocks
import Derived.Laws.Alloc2
import Derived.Laws.Wrap64
import Derived.IntWalk
import Derived.Test.YthnojgpobfpgeaaGreatDoorEvTab
import Derived.Test.YthnojgpobfpgeaaGreatDoorTFsC
namespace Go.Proofs
open Go.RowKit
variable (hP : ∀ (s p : ByteArray) (w : World), Calls Tryz.prog 116 #[.string s, .string p] w fun e w' => e = .returned (.bool (Lib.hasPrefix s.data.toList p.data.toList)) /\ w' = w)
include hP in
set_option maxRecDepth 1000000 in
theorem kids_walk (bm : Nat) (es : Array MapEntry) (clock : Nat) (p : ByteArray) (hp : ¬ 9223372036854775807 < p.size + 1) (w : World) (hb : w.heap[bm]? = some (.map es clock)) (hst : MapKept.Stamped es clock) (hv : ∀ x ∈ es.toList, ∃ v, x.key = .string v) :
  Calls Tryz.prog 83 #[.map (some bm), .string p] w fun e w' => e = .returned (.bool (es.toList.any fun x => Lib.hasPrefix (Go.Ev.keyBytesOf x.key) (p ++ ⟨#[47]⟩ : ByteArray).data.toList)) /\ ∃ (w1 : World) (seen : Array Nat), (w1.Alike w /\ w1.tape = w.tape) /\ w' = w1.alloc (.mapIter (some bm) clock seen clock) := by
 have hrg := run_range_map (P := Tryz.prog) w 54 9 3 bm es clock Tryz.underlying54 hb
 go_enter Tryz.func83, Tryz.ntmps83
 go_wp2
 go_loopw [] (fun w' => ∃ (w1 : World) (seen : Array Nat), (w1.Alike w /\ w1.tape = w.tape) /\ w' = w1.alloc (.mapIter (some bm) clock seen clock) /\ ∀ x ∈ es.toList, seen.contains x.born = true -> Lib.hasPrefix (Go.Ev.keyBytesOf x.key) (p ++ ⟨#[47]⟩ : ByteArray).data.toList = false) (fun w' => (leftOf es (w'.iterSeen w.heap.size)).size)
 case atStart => exact ⟨w, #[], ⟨⟨rfl, rfl, rfl⟩, rfl⟩, rfl, fun x _ h => by simp at h⟩
 case round =>
  obtain ⟨w1, seen, ⟨hal, htp⟩, rfl, hno⟩ := hrel
  have hsz : w1.heap.size = w.heap.size := by rw [hal.1]
  have hb1 : w1.heap[bm]? = some (.map es clock) := by rw [hal.1]; exact hb
  have law := run_next_map (P := Tryz.prog) w1 0 bm clock clock seen es clock hb1 hst.1 (Nat.le_refl _)
  rw [hsz] at law
  rcases law with ⟨h0, hrun⟩ | ⟨e, he, w2, hal2, hrun⟩
  ·
   have hnx : ∀ ty, (Instr.next (.pointer (some ⟨w.heap.size, 0, none⟩)) false ty).run Tryz.prog (w1.alloc (.mapIter (some bm) clock seen clock)) = _ := fun _ => hrun
   go_wp2
   go_ret
   have hf : (es.toList.any fun x => Lib.hasPrefix (Go.Ev.keyBytesOf x.key) (p ++ ⟨#[47]⟩ : ByteArray).data.toList) = false := by
    rw [List.any_eq_false]
    intro x hx
    have := hno x hx (all_seen es seen h0 x hx)
    simpa using this
   rw [hf]
   exact ⟨rfl, w1, seen, ⟨hal, htp⟩, rfl⟩
  ·
   obtain ⟨v, hval⟩ := hv e (mem_left he).1
   have htp2 : w2.tape = w.tape := (next_tape (w := w1.alloc (.mapIter (some bm) clock seen clock)) (r := w.heap.size) (by rw [<- hsz]; exact heap_alloc_new w1 _) ((Below.heap_alloc w1 _ bm (by
    rcases Nat.lt_or_ge bm w1.heap.size with h1 | h1
    ·
     exact h1
    ·
     simp [Array.getElem?_eq_none h1] at hb1)).trans hb1) hrun).trans htp
   rw [hval] at hrun
   have hnx : ∀ ty, (Instr.next (.pointer (some ⟨w.heap.size, 0, none⟩)) false ty).run Tryz.prog (w1.alloc (.mapIter (some bm) clock seen clock)) = _ := fun _ => hrun
   have hsz2 : w2.heap.size = w.heap.size := by rw [hal2.1, hal.1]
   have hb2 : w2.heap[bm]? = some (.map es clock) := by rw [hal2.1]; exact hb1
   have hen := run_entry_map (P := Tryz.prog) w2 bm clock seen es clock e hb2 (mem_left he).1 hst.2.1
   rw [hsz2, hval] at hen
   have hal3 : w2.Alike w := ⟨hal2.1.trans hal.1, hal2.2.1.trans hal.2.1, hal2.2.2.trans hal.2.2⟩
   go_wp2_with (go_at_call 116; refine (hP _ _ _).mono ?_; rintro e w' ⟨rfl, rfl⟩)
   ·
    rename_i heq
    go_ret
    have ht : (es.toList.any fun x => Lib.hasPrefix (Go.Ev.keyBytesOf x.key) (p ++ ⟨#[47]⟩ : ByteArray).data.toList) = true := List.any_eq_true.2 ⟨e, (mem_left he).1, by rw [hval]; simpa [Go.Ev.keyBytesOf] using heq⟩
    rw [ht]
    exact ⟨rfl, w2, _, ⟨hal3, htp2⟩, rfl⟩
   ·
    rename_i hne
    go_roundw
    case rel =>
     refine ⟨w2, seen.push e.born, ⟨hal3, htp2⟩, rfl, fun x hx hc => ?_⟩
     rw [contains_push] at hc
     rcases Bool.or_eq_true _ _ ▸ hc with h1 | h1
     ·
      exact hno x hx h1
     ·
      have : x = e := born_inj hst.2.1 hx (mem_left he).1 (beq_iff_eq.1 h1)
      subst this
      rw [hval]
      simpa [Go.Ev.keyBytesOf] using hne
    case measure =>
     rw [<- hsz2, World.iterSeen_alloc, hsz2, <- hsz, World.iterSeen_alloc]
     exact left_shrinks es seen e he
end Go.Proofs
namespace Go.Proofs
open Go.RowKit
def lenOfNode (g : Nat -> ByteArray) : Value -> Int
 | .int _ k => (g k.toNat).size
 | _ => 0
def lens (g : Nat -> ByteArray) (es : List MapEntry) : List MapEntry := es.map fun e => ⟨e.key, .int .i64 (lenOfNode g e.val), e.born⟩
theorem lens_born (g : Nat -> ByteArray) (es : List MapEntry) : (lens g es).map (·.born) = es.map (·.born) := by simp [lens]
def wr64 (x : Int) : Int := (x + 9223372036854775808) % 18446744073709551616 - 9223372036854775808
set_option maxRecDepth 1000000 in
theorem used_walk (bm : Nat) (es : Array MapEntry) (clock : Nat) (fb fo nb no n c : Nat) (g : Nat -> ByteArray) (w : World) (hb : w.heap[bm]? = some (.map es clock)) (hst : MapKept.Stamped es clock)
  (h0 : w.cell? ⟨fb, fo, none⟩ = some (.map (some bm))) (h3 : w.cell? ⟨fb, fo + 3, none⟩ = some (.slice (some ⟨nb, no, none⟩) n c))
  (hv : ∀ x ∈ es.toList, ∃ k : Nat, k < n /\ x.val = .int .i64 k) (hs : ∀ k : Nat, (∃ x ∈ es.toList, x.val = .int .i64 k) -> w.cell? ⟨nb, no + k * 3 + 1, none⟩ = some (.string (g k))) :
  Calls Tryz.prog 33 #[.pointer (some ⟨fb, fo, none⟩)] w fun e w' => e = .returned (.int .i64 (wr64 ((lens g es.toList).map fun e => valOf e.val).sum)) /\ ∃ (w1 : World) (seen : Array Nat), (w1.Alike w /\ w1.tape = w.tape) /\ w' = w1.alloc (.mapIter (some bm) clock seen clock) := by
 have hrg := run_range_map (P := Tryz.prog) w 54 9 3 bm es clock Tryz.underlying54 hb
 go_enter Tryz.func33, Tryz.ntmps33
 go_wp2
 have hlt : ∀ {a : Addr} {v : Value}, w.cell? a = some v -> a.block < w.heap.size := fun {a v} h => by
  rcases Nat.lt_or_ge a.block w.heap.size with h1 | h1
  ·
   exact h1
  ·
   simp [World.cell?, Array.getElem?_eq_none h1] at h
 have hfb : fb < w.heap.size := hlt h0
 go_loopw [3] (fun s w' => ∃ (w1 : World) (seen : Array Nat), (w1.Alike w /\ w1.tape = w.tape) /\ w' = w1.alloc (.mapIter (some bm) clock seen clock) /\ s = .int .i64 (wr64 (seenSum (lens g es.toList) seen))) (fun _ w' => (leftOf es (w'.iterSeen w.heap.size)).size)
 case atStart => exact ⟨w, #[], ⟨⟨rfl, rfl, rfl⟩, rfl⟩, rfl, by rw [seenSum_none]; rfl⟩
 case round =>
  obtain ⟨w1, seen, ⟨hal, htp⟩, rfl, rfl⟩ := hrel
  have hsz : w1.heap.size = w.heap.size := by rw [hal.1]
  have hb1 : w1.heap[bm]? = some (.map es clock) := by rw [hal.1]; exact hb
  have law := run_next_map (P := Tryz.prog) w1 0 bm clock clock seen es clock hb1 hst.1 (Nat.le_refl _)
  rw [hsz] at law
  rcases law with ⟨hl0, hrun⟩ | ⟨e, he, w2, hal2, hrun⟩
  ·
   have hnx : ∀ ty, (Instr.next (.pointer (some ⟨w.heap.size, 0, none⟩)) false ty).run Tryz.prog (w1.alloc (.mapIter (some bm) clock seen clock)) = _ := fun _ => hrun
   go_wp2
   go_ret
   have hfull : seenSum (lens g es.toList) seen = ((lens g es.toList).map fun e => valOf e.val).sum := by
    refine seenSum_full seen _ fun x hx => ?_
    obtain ⟨y, hy, rfl⟩ := List.mem_map.1 hx
    exact all_seen es seen hl0 y hy
   rw [hfull]
   exact ⟨rfl, w1, seen, ⟨hal, htp⟩, rfl⟩
  ·
   obtain ⟨k, hk, hval⟩ := hv e (mem_left he).1
   have htp2 : w2.tape = w.tape := (next_tape (w := w1.alloc (.mapIter (some bm) clock seen clock)) (r := w.heap.size) (by rw [<- hsz]; exact heap_alloc_new w1 _) ((Below.heap_alloc w1 _ bm (by
    rcases Nat.lt_or_ge bm w1.heap.size with h1 | h1
    ·
     exact h1
    ·
     simp [Array.getElem?_eq_none h1] at hb1)).trans hb1) hrun).trans htp
   rw [hval] at hrun
   have hnx : ∀ ty, (Instr.next (.pointer (some ⟨w.heap.size, 0, none⟩)) false ty).run Tryz.prog (w1.alloc (.mapIter (some bm) clock seen clock)) = _ := fun _ => hrun
   have hsz2 : w2.heap.size = w.heap.size := by rw [hal2.1, hal.1]
   have hb2 : w2.heap[bm]? = some (.map es clock) := by rw [hal2.1]; exact hb1
   have hen := run_entry_map (P := Tryz.prog) w2 bm clock seen es clock e hb2 (mem_left he).1 hst.2.1
   rw [hsz2, hval] at hen
   have hcell : ∀ (a : Addr) (v : Value), w.cell? a = some v -> (w2.alloc (.mapIter (some bm) clock (seen.push e.born) clock)).cell? a = some v := by
    intro a v h
    have h1 := hlt h
    have h2 : w2.heap = w.heap := hal2.1.trans hal.1
    have e1 : (w2.alloc (.mapIter (some bm) clock (seen.push e.born) clock)).heap[a.block]? = w.heap[a.block]? := (Below.heap_alloc w2 _ a.block (h2.symm ▸ h1)).trans (by rw [h2])
    unfold World.cell? at h ⊢
    simp only [e1]
    exact h
   have c3 := hcell _ _ h3
   have cs := hcell _ _ (hs k ⟨e, (mem_left he).1, hval⟩)
   have hk' : ((k : Int) < (n : Int)) := by exact_mod_cast hk
   clear hcell hs h3 h0
   go_wp2
   have hal3 : w2.Alike w := ⟨hal2.1.trans hal.1, hal2.2.1.trans hal.2.1, hal2.2.2.trans hal.2.2⟩
   refine ⟨⟨w2, seen.push e.born, ⟨hal3, htp2⟩, rfl, ?_⟩, ?_⟩
   ·
    have hp := seenSum_push seen (⟨e.key, .int .i64 (lenOfNode g e.val), e.born⟩ : MapEntry) (mem_left he).2 (lens g es.toList) (by rw [lens_born]; exact hst.2.1) (List.mem_map.2 ⟨e, (mem_left he).1, rfl⟩)
    have hp' : seenSum (lens g es.toList) (seen.push e.born) = seenSum (lens g es.toList) seen + ((g k).size : Int) := by
     refine hp.trans ?_
     rw [hval]
     simp [valOf, lenOfNode]
    rw [hp']
    congr 1
    simp only [wrap64, wr64]
    omega
   ·
    rw [<- hsz2, World.iterSeen_alloc, hsz2, <- hsz, World.iterSeen_alloc]
    exact left_shrinks es seen e he
end Go.Proofs
namespace Go.Proofs
open Go.RowKit Go.Shelf
def Tryz.prefix116_ren : Go.Shelf.Ren := ⟨fun | 99 => 116 | 206 => 139 | n => n, fun | 9 => 9 | 4 => 4 | 3 => 3 | n => n, fun | n => n⟩
theorem Tryz.prefix116 : Go.Proofs.Lays.n99 Tryz.prog Tryz.prefix116_ren := {mixed := by kernel_rfl, f99 := Tryz.func116.trans (congrArg some (by kernel_rfl)), f206 := Tryz.func139.trans (congrArg some (by kernel_rfl)), t3 := Tryz.underlying3, a3 := Tryz.isAgg3, z3 := Tryz.sizeOf3, v3 := Tryz.zeroValue3, t4 := Tryz.underlying4, a4 := Tryz.isAgg4, z4 := Tryz.sizeOf4, v4 := Tryz.zeroValue4, t9 := Tryz.underlying9, a9 := Tryz.isAgg9, z9 := Tryz.sizeOf9, v9 := Tryz.zeroValue9}
theorem enters83 : Go.Ev.Enters Tryz.prog 83 := enters_of Tryz.func83 (by kernel_rfl) rfl
theorem enters33 : Go.Ev.Enters Tryz.prog 33 := enters_of Tryz.func33 (by kernel_rfl) rfl
theorem kids83 [Go.Ev.Sg] {tab : List (Value × Nat)} (ht : Go.Ev.SzOk tab) : Go.Ev.SpecOk Tryz.prog 83 (Go.Ev.sKidsS tab) :=
 Go.Ev.kidsS_ok enters83 ht fun bm es clock p hp w hb hst hv => kids_walk (fun s p w => Any.strings_HasPrefix Tryz.prefix116 s p w) bm es clock p hp w hb hst hv
theorem wr64_small {s : Nat} (h : s <= 1099511627776) : wr64 (s : Int) = s := by
 unfold wr64; omega
theorem used33 [Go.Ev.Sg] {tab : List (Value × Nat)} (ht : Go.Ev.SzOk tab) : Go.Ev.SpecOk Tryz.prog 33 (Go.Ev.sUsedS tab) :=
 Go.Ev.usedS_ok enters33 ht fun bm es clock fb fo nb no n c g w hb hst h0 h3 hv hs =>
  Calls.mono (used_walk bm es clock fb fo nb no n c g w hb hst h0 h3 hv hs) fun e w' ⟨he, hw⟩ => ⟨fun s hs1 hs2 => by
   have e1 : ((lens g es.toList).map fun e => valOf e.val).sum = (s : Int) := by
    rw [<- hs2]
    simp only [lens, List.map_map]
    congr 1
   rw [he, e1, wr64_small hs1], hw⟩
end Go.Proofs
namespace Go.Proofs
open Go.RowKit Go.Ev Go.Lib Go.Shelf
attribute [local go_sem] Oper.semAt_some
section
variable {W : World} {fb : Nat} {L : Lay} {s : St} {bm n : Nat} {M : Nm}
def NoKids (M : Nm) (q : ByteArray) : Prop := ∀ k, (M k).isSome = true -> Lib.hasPrefix k.data.toList (q ++ ⟨#[47]⟩ : ByteArray).data.toList = false
theorem kids_none (hM : MapF W bm n M) {q : ByteArray} (hq : q.size <= 1000) (hno : NoKids M q) : Calls Tryz.prog 83 #[.map (some bm), .string q] W fun e w' => e = .returned (.bool false) /\ Below W.heap.size W w' := by
 obtain ⟨es, clock, hb, hst, _, hes, _⟩ := hM.raw
 refine (kids_walk (fun s p w => Any.strings_HasPrefix Tryz.prefix116 s p w) bm es clock q (by omega) W hb hst fun x hx => ?_).mono ?_
 ·
  obtain ⟨k, j, h1, _⟩ := hes x hx
  exact ⟨k, h1⟩
 ·
  rintro e w' ⟨rfl, w1, seen, ⟨hal, htp⟩, rfl⟩
  have hB : Below W.heap.size W w1 := ⟨hal.2.1, htp, hal.2.2, by rw [hal.1]; exact Nat.le_refl _, fun k _ => by rw [hal.1]⟩
  refine ⟨?_, hB.alloc (by rw [hal.1]; exact Nat.le_refl _) _⟩
  congr 2
  rw [List.any_eq_false]
  intro x hx
  obtain ⟨k, j, h1, _, h3⟩ := hes x hx
  rw [h1]
  show ¬ Lib.hasPrefix k.data.toList _ = true
  rw [hno k (by rw [h3]; rfl)]
  decide
set_option maxRecDepth 1000000 in
set_option maxHeartbeats 8000000 in
theorem do_goes (hM : MapF W bm n M) {p : ByteArray} (hp : p.size <= 1000) {j : Nat} (hj : M p = some j) (hk : NoKids M p) :
  Calls Tryz.prog 48 #[.map (some bm), .agg #[.int .i64 1, .string p, .string ⟨#[]⟩, ni 0], dirV fb] W fun e w' => (∃ v, e = .returned v) /\ MapTo W bm n (delF M p) w' := by
 have hb0 := boxW_below W bm fb 1 p ⟨#[]⟩ 0
 have hl := (hM.kept (hb0.block bm hM.lt)).look hp
 rw [hj] at hl
 have hc := Lib.hid (kids_none (hM.kept (hb0.block bm hM.lt)) hp hk)
 have hX := Lib.hid (And.intro hM hp)
 have hbm : Hid (bm < W.heap.size) := Lib.hid hM.lt
 clear hM hp hj hk hb0
 go_enter Tryz.func48, Tryz.ntmps48
 go_wp2_with (first
  | (go_at_call 83; refine hc.out.mono ?_; rintro r w1 ⟨rfl, hb⟩; obtain ⟨b0, b1, b2, _, b3, _⟩ := box_cells hb; have hbH := Lib.hid ((boxW_below W bm fb 1 p ⟨#[]⟩ 0).trans (hb.mono (boxW_below W bm fb 1 p ⟨#[]⟩ 0).size)); clear hb)
  | (refine mapF_delete (hX.out.1.kept (hbH.out.block bm hbm.out)) rfl _ _ rfl rfl _ hX.out.2 rfl ?_; intro w2 hM2 hg2; have hM2' := Lib.hid hM2; have hg2' := Lib.hid hg2.grown; clear hM2 hg2))
 go_end0
 exact ⟨⟨_, rfl⟩, hM2'.out, grown_of hbH.out hg2'.out⟩
set_option maxRecDepth 1000000 in
set_option maxHeartbeats 8000000 in
theorem do_moves_no (h : FsAt W fb L s) (hM : MapF W bm n M) (hn : n <= 1000000) {p q : ByteArray} (hp : p.size <= 1000) (hq : q.size <= 1000) {j : Nat} (hj : M p = none) (hjj : j <= 1000000) (hk : NoKids M q) (hh : HomeOk s M q) :
  Calls Tryz.prog 48 #[.map (some bm), .agg #[.int .i64 2, .string p, .string q, ni j], dirV fb] W fun e w' => (∃ v, e = .returned v) /\ MapTo W bm (n + 1) (putF' M q j) w' := by
 have hb0 := boxW_below W bm fb 2 p q j
 have hl := (hM.kept (hb0.block bm hM.lt)).look hp
 rw [hj] at hl
 have hc := Lib.hid (box_home h hM 2 (p := p) (q := q) j hh)
 have hX := Lib.hid (And.intro hM (And.intro hp (And.intro hq (And.intro hk (And.intro hjj (And.intro hn hj))))))
 have hbm : Hid (bm < W.heap.size) := Lib.hid hM.lt
 clear hM hp hq hj hk h hh hjj hn hb0
 go_enter Tryz.func48, Tryz.ntmps48
 go_wp2_with (first
  | (go_at_call 85; refine hc.out.mono ?_; rintro r w1 ⟨rfl, hb⟩; obtain ⟨b0, b1, b2, b3, b4, _⟩ := box_cells hb; have hbB := Lib.hid hb; have hbH := Lib.hid ((boxW_below W bm fb 2 p q j).trans (hb.mono (boxW_below W bm fb 2 p q j).size)); clear hb)
  | (go_at_call 83; refine (kids_none (hX.out.1.kept (hbH.out.block bm hbm.out)) hX.out.2.2.1 hX.out.2.2.2.1).mono ?_; rintro r w2 ⟨rfl, hb⟩; obtain ⟨b0, b1, b2, b3, b4, _⟩ := box_cells (hbB.out.trans (hb.mono hbB.out.size)); have hbH2 := Lib.hid (hbH.out.trans (hb.mono hbH.out.size)); clear hb; skip)
  | (refine mapF_update (hX.out.1.kept (hbH2.out.block bm hbm.out)) rfl _ _ _ rfl rfl _ hX.out.2.2.1 rfl j hX.out.2.2.2.2.1 rfl hX.out.2.2.2.2.2.1 ?_; intro w4 hM4 hg4; have hM4' := Lib.hid hM4; have hg4' := Lib.hid hg4; clear hM4 hg4))
 go_end0
 exact ⟨⟨_, rfl⟩, hM4'.out, grown_of hbH2.out hg4'.out⟩
set_option maxRecDepth 1000000 in
set_option maxHeartbeats 8000000 in
theorem do_moves_other (h : FsAt W fb L s) (hM : MapF W bm n M) (hn : n <= 1000000) {p q : ByteArray} (hp : p.size <= 1000) (hq : q.size <= 1000) {j : Nat} {k : Nat} (hj : M p = some k) (hkj : ¬ (k : Int) = (j : Int)) (hjj : j <= 1000000) (hk : NoKids M q) (hh : HomeOk s M q) :
  Calls Tryz.prog 48 #[.map (some bm), .agg #[.int .i64 2, .string p, .string q, ni j], dirV fb] W fun e w' => (∃ v, e = .returned v) /\ MapTo W bm (n + 1) (putF' M q j) w' := by
 have hb0 := boxW_below W bm fb 2 p q j
 have hl := (hM.kept (hb0.block bm hM.lt)).look hp
 rw [hj] at hl
 have hc := Lib.hid (box_home h hM 2 (p := p) (q := q) j hh)
 have hX := Lib.hid (And.intro hM (And.intro hp (And.intro hq (And.intro hk (And.intro hjj (And.intro hn hj))))))
 have hbm : Hid (bm < W.heap.size) := Lib.hid hM.lt
 clear hM hp hq hj hk h hh hjj hn hb0
 go_enter Tryz.func48, Tryz.ntmps48
 go_wp2_with (first
  | (go_at_call 85; refine hc.out.mono ?_; rintro r w1 ⟨rfl, hb⟩; obtain ⟨b0, b1, b2, b3, b4, _⟩ := box_cells hb; have hbB := Lib.hid hb; have hbH := Lib.hid ((boxW_below W bm fb 2 p q j).trans (hb.mono (boxW_below W bm fb 2 p q j).size)); clear hb)
  | (go_at_call 83; refine (kids_none (hX.out.1.kept (hbH.out.block bm hbm.out)) hX.out.2.2.1 hX.out.2.2.2.1).mono ?_; rintro r w2 ⟨rfl, hb⟩; obtain ⟨b0, b1, b2, b3, b4, _⟩ := box_cells (hbB.out.trans (hb.mono hbB.out.size)); have hbH2 := Lib.hid (hbH.out.trans (hb.mono hbH.out.size)); clear hb; have hl1 := (hX.out.1.kept (hbH2.out.block bm hbm.out)).look1 hX.out.2.1; rw [hX.out.2.2.2.2.2.2] at hl1; simp only [Option.getD_some] at hl1)
  | (refine mapF_update (hX.out.1.kept (hbH2.out.block bm hbm.out)) rfl _ _ _ rfl rfl _ hX.out.2.2.1 rfl j hX.out.2.2.2.2.1 rfl hX.out.2.2.2.2.2.1 ?_; intro w4 hM4 hg4; have hM4' := Lib.hid hM4; have hg4' := Lib.hid hg4; clear hM4 hg4))
 go_end0
 exact ⟨⟨_, rfl⟩, hM4'.out, grown_of hbH2.out hg4'.out⟩
set_option maxRecDepth 1000000 in
set_option maxHeartbeats 8000000 in
theorem do_moves_own (h : FsAt W fb L s) (hM : MapF W bm n M) (hn : n <= 1000000) {p q : ByteArray} (hp : p.size <= 1000) (hq : q.size <= 1000) {j : Nat} (hj : M p = some j) (hjj : j <= 1000000) (hk : NoKids M q) (hh : HomeOk s M q) :
  Calls Tryz.prog 48 #[.map (some bm), .agg #[.int .i64 2, .string p, .string q, ni j], dirV fb] W fun e w' => (∃ v, e = .returned v) /\ MapTo W bm (n + 1) (putF' (delF M p) q j) w' := by
 have hb0 := boxW_below W bm fb 2 p q j
 have hl := (hM.kept (hb0.block bm hM.lt)).look hp
 rw [hj] at hl
 have hc := Lib.hid (box_home h hM 2 (p := p) (q := q) j hh)
 have hX := Lib.hid (And.intro hM (And.intro hp (And.intro hq (And.intro hk (And.intro hjj (And.intro hn hj))))))
 have hbm : Hid (bm < W.heap.size) := Lib.hid hM.lt
 have hne0 : Hid (some W.heap.size ≠ some bm) := Lib.hid (fun e => by injection e with e; have := hM.lt; omega)
 have hne1 : Hid (some (W.heap.size + 1) ≠ some bm) := Lib.hid (fun e => by injection e with e; have := hM.lt; omega)
 clear hM hp hq hj hk h hh hjj hn hb0
 go_enter Tryz.func48, Tryz.ntmps48
 go_wp2_with (first
  | (go_at_call 85; refine hc.out.mono ?_; rintro r w1 ⟨rfl, hb⟩; obtain ⟨b0, b1, b2, b3, b4, _⟩ := box_cells hb; have hbB := Lib.hid hb; have hbH := Lib.hid ((boxW_below W bm fb 2 p q j).trans (hb.mono (boxW_below W bm fb 2 p q j).size)); clear hb)
  | (go_at_call 83; refine (kids_none (hX.out.1.kept (hbH.out.block bm hbm.out)) hX.out.2.2.1 hX.out.2.2.2.1).mono ?_; rintro r w2 ⟨rfl, hb⟩; obtain ⟨b0, b1, b2, b3, b4, _⟩ := box_cells (hbB.out.trans (hb.mono hbB.out.size)); have hbH2 := Lib.hid (hbH.out.trans (hb.mono hbH.out.size)); clear hb; have hl1 := (hX.out.1.kept (hbH2.out.block bm hbm.out)).look1 hX.out.2.1; rw [hX.out.2.2.2.2.2.2] at hl1; simp only [Option.getD_some] at hl1)
  | (refine mapF_delete (hX.out.1.kept (hbH2.out.block bm hbm.out)) rfl _ _ rfl rfl _ hX.out.2.1 rfl ?_; intro w3 hM3 hg3; have hg3' := hg3.grown; have b0 := hg3'.cell b0 hne0.out; have b2 := hg3'.cell b2 hne1.out; have b3 := hg3'.cell b3 hne1.out; have b4 := hg3'.cell b4 hne1.out; have hM3' := Lib.hid hM3; have hg3H := Lib.hid hg3'; clear hM3 hg3 hg3' hl1)
  | (refine mapF_update hM3'.out rfl _ _ _ rfl rfl _ hX.out.2.2.1 rfl j hX.out.2.2.2.2.1 rfl hX.out.2.2.2.2.2.1 ?_; intro w4 hM4 hg4; have hM4' := Lib.hid hM4; have hg4' := Lib.hid (hg3H.out.trans hg4); clear hM4 hg4))
 go_end0
 exact ⟨⟨_, rfl⟩, hM4'.out, grown_of hbH2.out hg4'.out⟩
end
end Go.Proofs
