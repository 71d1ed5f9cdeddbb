/- do: what is done to names. -/
import Derived.Test.YthnojgpobfpgeaaGreatDoorTFsM
import Derived.Deep.RegionHeld3
import Derived.Deep.DrawnRows
namespace Go.Proofs
open Go.RowKit Go.Ev Go.Lib
attribute [local go_sem] Oper.semAt_some
attribute [local go_sem ↓] Go.wp_at_zero Go.wp_at_succ
abbrev dirV (fb : Nat) : Value := .func (.func 49) #[pt fb] #[]
section
variable {W : World} {fb : Nat} {L : Lay} {s : St} {bm n : Nat} {M : Nm}
theorem keep_look (hM : MapF W bm n M) {c1 : Nat} (h1 : W.cell? ⟨c1, 0, none⟩ = some (.map (some bm))) (hl : c1 < W.heap.size) {k : ByteArray} (hk : k.size <= 1000) {w' : World} (hb : Sb W w') :
  Sb W w' /\ w'.cell? ⟨c1, 0, none⟩ = some (.map (some bm)) /\ (Instr.lookup 54 (.map (some bm)) (.string k) true).run Tryz.prog w' = .ok (.tuple #[.int .i64 (((M k).getD 0 : Nat) : Int), .bool (M k).isSome]) w' :=
 ⟨hb, ((bcell hb).1 c1 0 hl).trans h1, (hM.kept (hb.block _ hM.lt)).look hk⟩
set_option maxRecDepth 1000000 in
set_option maxHeartbeats 1000000 in
theorem home_root {c1 c2 : Nat} (hM : MapF W bm n M) (h1 : W.cell? ⟨c1, 0, none⟩ = some (.map (some bm))) {p : ByteArray} (hup : UpIs p ⟨#[]⟩) (hl1 : c1 < W.heap.size) :
  Calls Tryz.prog 85 #[.string p, pt c1, pt c2] W fun e w' => e = .returned (.bool true) /\ Below W.heap.size W w' := by
 have hu := Lib.hid hup
 have hMH := Lib.hid hM
 clear hup hM
 go_enter Tryz.func85, Tryz.ntmps85
 go_wp2_with (fail)
 go_region_held3 (fun w' => Sb W w' /\ w'.cell? ⟨c1, 0, none⟩ = some (.map (some bm)) /\ (Instr.lookup 54 (.map (some bm)) (.string ⟨#[]⟩) true).run Tryz.prog w' = .ok (.tuple #[.int .i64 (((M ⟨#[]⟩).getD 0 : Nat) : Int), .bool (M ⟨#[]⟩).isSome]) w')
  (exact keep_look hMH.out h1 hl1 (by decide) (by repeat (first | exact Sb.refl _ | apply Sb.drew | (refine Sb.trans ?_ (by assumption)))))
  ((go_at_call 32; refine (hu.out _).mono ?_; rintro r w1 ⟨rfl, hb⟩))
 rename_i hH
 have hS := Lib.hid hH.1
 clear hH hb
 go_wp2_with ((go_at_call 32; refine (hu.out _).mono ?_; rintro r w2 ⟨rfl, hb2⟩; have hS2 := Lib.hid (Sb.trans hS.out hb2); clear hb2))
 go_ret
 exact ⟨rfl, hS2.out⟩
set_option maxRecDepth 1000000 in
set_option maxHeartbeats 1000000 in
theorem home_dir (h : FsAt W fb L s) {c1 c2 : Nat} (hM : MapF W bm n M) (h1 : W.cell? ⟨c1, 0, none⟩ = some (.map (some bm))) (h2 : W.cell? ⟨c2, 0, none⟩ = some (dirV fb)) {p u : ByteArray} (hup : UpIs p u) (hus : u.size <= 1000) (hne : ¬ u = ⟨#[]⟩) {j : Nat} {d : Nd} (hj : M u = some j) (hd : s.nodes[j]? = some d) (hdd : d.dir = true) :
  Calls Tryz.prog 85 #[.string p, pt c1, pt c2] W fun e w' => e = .returned (.bool true) /\ Below W.heap.size W w' := by
 have hu := Lib.hid hup
 have hMH := Lib.hid hM
 obtain ⟨hne1, hne2⟩ := ne_str hne
 have hX := Lib.hid (And.intro h (And.intro hus (And.intro hd hdd)))
 have hl1 : c1 < W.heap.size := World.block_lt_of_cell? W _ h1
 have hl2 : c2 < W.heap.size := World.block_lt_of_cell? W _ h2
 have hjj : (((M u).getD 0 : Nat) : Int) = (j : Int) := by rw [hj]; rfl
 have hjs : (M u).isSome = true := by rw [hj]; rfl
 have hkeep : Hid (∀ w' : World, Sb W w' -> Sb W w' /\ w'.cell? ⟨c1, 0, none⟩ = some (.map (some bm)) /\ (Instr.lookup 54 (.map (some bm)) (.string u) true).run Tryz.prog w' = .ok (.tuple #[.int .i64 (j : Int), .bool true]) w') := Lib.hid fun w' hb => by
  have := keep_look hMH.out h1 hl1 hX.out.2.1 hb
  rwa [hjj, hjs] at this
 have h2H := Lib.hid h2
 clear hup hM h hd hdd hus hne h1 h2 hj hjj hjs
 go_enter Tryz.func85, Tryz.ntmps85
 go_wp2_with (fail)
 go_region_held3 (fun w' => Sb W w' /\ w'.cell? ⟨c1, 0, none⟩ = some (.map (some bm)) /\ (Instr.lookup 54 (.map (some bm)) (.string u) true).run Tryz.prog w' = .ok (.tuple #[.int .i64 (j : Int), .bool true]) w')
  (exact hkeep.out _ (by repeat (first | exact Sb.refl _ | apply Sb.drew | (refine Sb.trans ?_ (by assumption)))))
  ((go_at_call 32; refine (hu.out _).mono ?_; rintro r w1 ⟨rfl, hb⟩))
 rename_i hH
 have hS := Lib.hid hH.1
 clear hH hb
 go_wp2_with (first
  | (go_at_call 32; refine (hu.out _).mono ?_; rintro r w2 ⟨rfl, hb2⟩; have hS2 := Lib.hid (Sb.trans hS.out hb2); clear hb2; have c2' := ((bcell hS2.out).1 c2 0 hl2).trans h2H.out)
  | (go_at_call 49; refine (dir_calls (hX.out.1.below hS2.out) hX.out.2.2.1).mono ?_; rintro r w3 ⟨rfl, hw⟩; rw [hw, hX.out.2.2.2]; clear hw))
 go_ret
 exact ⟨rfl, hS2.out⟩
end
end Go.Proofs
namespace Go.Proofs
open Go.RowKit Go.Ev Go.Lib
attribute [local go_sem] Oper.semAt_some
def Ac.val (a : Ac) : Value := .agg #[ni a.kind, .string a.path, .string a.to, ni a.node]
def HomeOk (s : St) (M : Nm) (p : ByteArray) : Prop := ∃ u, UpIs p u /\ u.size <= 1000 /\ (u = ⟨#[]⟩ \/ (¬ u = ⟨#[]⟩ /\ ∃ j d, M u = some j /\ s.nodes[j]? = some d /\ d.dir = true))
section
variable {W : World} {fb : Nat} {L : Lay} {s : St} {bm n : Nat} {M : Nm}
theorem home_ok (h : FsAt W fb L s) {c1 c2 : Nat} (hM : MapF W bm n M) (h1 : W.cell? ⟨c1, 0, none⟩ = some (.map (some bm))) (h2 : W.cell? ⟨c2, 0, none⟩ = some (dirV fb)) {p : ByteArray} (hh : HomeOk s M p) :
  Calls Tryz.prog 85 #[.string p, pt c1, pt c2] W fun e w' => e = .returned (.bool true) /\ Below W.heap.size W w' := by
 obtain ⟨u, hu, hus, rfl | ⟨hne, j, d, hj, hd, hdd⟩⟩ := hh
 ·
  exact home_root hM h1 hu (World.block_lt_of_cell? W _ h1)
 ·
  exact home_dir h hM h1 h2 hu hus hne hj hd hdd
abbrev boxW (W : World) (bm fb : Nat) (k : Int) (p q : ByteArray) (j : Nat) : World := ((W.alloc (.cells #[.map (some bm)] 54)).alloc (.cells #[.int .i64 k, .string p, .string q, ni j] 67)).alloc (.cells #[dirV fb] 77)
theorem boxW_below (W : World) (bm fb : Nat) (k : Int) (p q : ByteArray) (j : Nat) : Below W.heap.size W (boxW W bm fb k p q j) :=
 (((Below.refl _ _).alloc (Nat.le_refl _) _).alloc (by simp) _).alloc (by simp; omega) _
theorem box_cells {k : Int} {p q : ByteArray} {j : Nat} {w1 : World} (hb : Below (boxW W bm fb k p q j).heap.size (boxW W bm fb k p q j) w1) :
  w1.cell? ⟨W.heap.size, 0, none⟩ = some (.map (some bm)) /\ w1.cell? ⟨W.heap.size + 1, 0, none⟩ = some (.int .i64 k) /\ w1.cell? ⟨W.heap.size + 1, 1, none⟩ = some (.string p) /\ w1.cell? ⟨W.heap.size + 1, 2, none⟩ = some (.string q) /\ w1.cell? ⟨W.heap.size + 1, 3, none⟩ = some (.int .i64 (j : Int)) /\ w1.cell? ⟨W.heap.size + 1 + 1, 0, none⟩ = some (dirV fb) := by
 have hs : (boxW W bm fb k p q j).heap.size = W.heap.size + 1 + 1 + 1 := by simp
 have g0 : (boxW W bm fb k p q j).heap[W.heap.size]? = some (.cells #[.map (some bm)] 54 (0, 0)) := ((heap_alloc_old _ _ (by simp; omega)).trans (heap_alloc_old _ _ (by simp))).trans (heap_alloc_new W _)
 have g1 : (boxW W bm fb k p q j).heap[W.heap.size + 1]? = some (.cells #[.int .i64 k, .string p, .string q, ni j] 67 (0, 0)) := (heap_alloc_old _ _ (by simp)).trans (by
  have := heap_alloc_new (W.alloc (.cells #[.map (some bm)] 54)) (.cells #[.int .i64 k, .string p, .string q, ni j] 67)
  rwa [show (W.alloc (.cells #[.map (some bm)] 54)).heap.size = W.heap.size + 1 by simp] at this)
 have g2 : (boxW W bm fb k p q j).heap[W.heap.size + 1 + 1]? = some (.cells #[dirV fb] 77 (0, 0)) := by
  have := heap_alloc_new ((W.alloc (.cells #[.map (some bm)] 54)).alloc (.cells #[.int .i64 k, .string p, .string q, ni j] 67)) (.cells #[dirV fb] 77)
  rwa [show ((W.alloc (.cells #[.map (some bm)] 54)).alloc (.cells #[.int .i64 k, .string p, .string q, ni j] 67)).heap.size = W.heap.size + 1 + 1 by simp] at this
 have k0 := (hb.block W.heap.size (by omega)).trans g0
 have k1 := (hb.block (W.heap.size + 1) (by omega)).trans g1
 have k2 := (hb.block (W.heap.size + 1 + 1) (by omega)).trans g2
 refine ⟨?_, ?_, ?_, ?_, ?_, ?_⟩
 ·
  rw [Lib.cell_of_heap k0]; rfl
 ·
  rw [Lib.cell_of_heap k1]; rfl
 ·
  rw [Lib.cell_of_heap k1]; rfl
 ·
  rw [Lib.cell_of_heap k1]; rfl
 ·
  rw [Lib.cell_of_heap k1]; rfl
 ·
  rw [Lib.cell_of_heap k2]; rfl
theorem box_home (h : FsAt W fb L s) (hM : MapF W bm n M) (k : Int) {p q r : ByteArray} (j : Nat) (hh : HomeOk s M r) : Calls Tryz.prog 85 #[.string r, pt W.heap.size, pt (W.heap.size + 1 + 1)] (boxW W bm fb k p q j) fun e w' => e = .returned (.bool true) /\ Below (boxW W bm fb k p q j).heap.size (boxW W bm fb k p q j) w' := by
 have hb := boxW_below W bm fb k p q j
 obtain ⟨c0, _, _, _, _, c2⟩ := box_cells (Below.refl _ (boxW W bm fb k p q j))
 exact home_ok (h.below hb) (hM.kept (hb.block bm hM.lt)) c0 c2 hh
set_option maxRecDepth 1000000 in
set_option maxHeartbeats 1000000 in
theorem do_there (hM : MapF W bm n M) {p : ByteArray} (hp : p.size <= 1000) {j k : Nat} (hj : M p = some k) :
  Calls Tryz.prog 48 #[.map (some bm), .agg #[.int .i64 0, .string p, .string ⟨#[]⟩, ni j], dirV fb] W fun e w' => (∃ v, e = .returned v) /\ Below W.heap.size W w' := by
 have hl := (hM.kept ((boxW_below W bm fb 0 p ⟨#[]⟩ j).block bm hM.lt)).look hp
 rw [hj] at hl
 have hb := Lib.hid (boxW_below W bm fb 0 p ⟨#[]⟩ j)
 clear hM hp hj
 go_enter Tryz.func48, Tryz.ntmps48
 go_wp2
 go_end0
 exact ⟨⟨_, rfl⟩, hb.out⟩
def MapTo (W : World) (bm n : Nat) (M : Nm) (w' : World) : Prop := MapF w' bm n M /\ W.grownBy w' (some bm)
theorem grown_of {W w1 w2 : World} {b : Nat} (h1 : Below W.heap.size W w1) (h2 : w1.grownBy w2 (some b)) : W.grownBy w2 (some b) :=
 ⟨h2.os.trans h1.os, h2.tape.trans h1.tape, h2.output.trans h1.output, Nat.le_trans h1.size h2.size, fun k hk hn => (h2.block k (Nat.lt_of_lt_of_le hk h1.size) hn).trans (h1.block k hk)⟩
set_option maxRecDepth 1000000 in
set_option maxHeartbeats 1000000 in
theorem do_comes (h : FsAt W fb L s) (hM : MapF W bm n M) (hn : n <= 1000000) {p : ByteArray} (hp : p.size <= 1000) {j : Nat} (hj : M p = none) (hjj : j <= 1000000) (hh : HomeOk s M p) :
  Calls Tryz.prog 48 #[.map (some bm), .agg #[.int .i64 0, .string p, .string ⟨#[]⟩, ni j], dirV fb] W fun e w' => (∃ v, e = .returned v) /\ MapTo W bm (n + 1) (putF' M p j) w' := by
 have hb0 := boxW_below W bm fb 0 p ⟨#[]⟩ j
 have hl := (hM.kept (hb0.block bm hM.lt)).look hp
 rw [hj] at hl
 have hc := Lib.hid (box_home h hM 0 (p := p) (q := ⟨#[]⟩) j hh)
 have hX := Lib.hid (And.intro hM (And.intro hp (And.intro hjj hn)))
 have hbm : Hid (bm < W.heap.size) := Lib.hid hM.lt
 clear hM hp hj h hh hjj hn hb0
 go_enter Tryz.func48, Tryz.ntmps48
 go_wp2_with (first
  | (go_at_call 85; refine hc.out.mono ?_; rintro r w1 ⟨rfl, hb⟩; obtain ⟨b0, b1, b2, _, b3, _⟩ := box_cells hb; have hbH := Lib.hid ((boxW_below W bm fb 0 p ⟨#[]⟩ j).trans (hb.mono (boxW_below W bm fb 0 p ⟨#[]⟩ j).size)); clear hb)
  | (refine mapF_update (hX.out.1.kept (hbH.out.block bm hbm.out)) rfl _ _ _ rfl rfl _ hX.out.2.1 rfl j hX.out.2.2.1 rfl hX.out.2.2.2 ?_; intro w2 hM2 hg2; have hM2' := Lib.hid hM2; have hg2' := Lib.hid hg2; clear hM2 hg2))
 go_end0
 exact ⟨⟨_, rfl⟩, hM2'.out, grown_of hbH.out hg2'.out⟩
end
end Go.Proofs
