/- The middle of Press: what a match puts. -/
import Derived.Test.YthnojgpobfpgeaaGreatDoorTFind
import Derived.Test.YthnojgpobfpgeaaGreatDoorEvBytes
import Derived.Test.YthnojgpobfpgeaaGreatDoorTSumD
import Derived.Deep.RegionWith
import Derived.Deep.RegionLaw
namespace Go.Proofs
open Go.Ev Go.RowKit Go.Lib
open Go.Proofs.YthnojgpobfpgeaaGreatDoor.PLa Go.Proofs.YthnojgpobfpgeaaGreatDoorW.PrintWords
noncomputable def L28 : List Code := codes (Tryz.f28.body.getD .skip)
noncomputable def L28a : List Code := codes (loopB (itemN L28 6))
noncomputable def L28b : List Code := codes (blockB (itemN L28a 2))
theorem id28 : loopId (itemN L28 6) = some 0 := by kernel_rfl
theorem blk28 : itemN L28a 2 = .block 1 (blockB (itemN L28a 2)) := by rfl
theorem num_calls {n : Nat} (h : n < 16512) (w : World) : Calls Tryz.prog 64 #[.int .u64 (n : Int)] w fun e w' => e = .returned (.string ⟨⟨numL n⟩⟩) /\ Below w.heap.size w w' :=
 code_Num.calls 2 (n : Int) _ w (num_pure h 0)
def Sb (w w' : World) : Prop := Below w.heap.size w w'
theorem Sb.alloc {w w' : World} (h : Sb w w') (o : Obj) : Sb w (w'.alloc o) := Below.alloc h (Below.size h) o
theorem Sb.drew {w w' : World} (h : Sb w w') : Sb w w'.drew := Below.drew h
theorem Sb.trans {w w' w'' : World} (h : Sb w w') (k : Below w'.heap.size w' w'') : Sb w w'' := Below.trans h (k.mono (Below.size h))
theorem Sb.refl (w : World) : Sb w w := Below.refl _ _
theorem Sb.grown {w w' : World} (h : Sb w w') (row : Option Nat) : w.grownBy w' row := ⟨h.os, h.tape, h.output, h.size, fun k hk _ => h.block k hk⟩
def Nrm (T : Act -> World -> Prop) : Exit -> Act -> World -> Prop
 | .normal, a, w => T a w
 | _, _, _ => False
theorem list_range {α : Type} (d : α) (l : List α) (n : Nat) (h : l.length = n) : l = (List.range n).map fun i => l.getD i d := by
 apply List.ext_getElem?
 intro i
 by_cases hi : i < n
 ·
  rw [List.getElem?_map, List.getElem?_range hi]
  show l[i]? = some (l.getD i d)
  rw [List.getD_eq_getElem?_getD, List.getElem?_eq_getElem (by omega)]; rfl
 ·
  rw [List.getElem?_eq_none (by omega), List.getElem?_eq_none (by simpa using hi)]
set_option maxRecDepth 100000 in
theorem lit90 {a : Act} (hs : a.tmps.size = 90) (hd : a.defers = []) : ∃ f : Nat -> Value, a = ⟨#[f 0, f 1, f 2, f 3, f 4, f 5, f 6, f 7, f 8, f 9, f 10, f 11, f 12, f 13, f 14, f 15, f 16, f 17, f 18, f 19, f 20, f 21, f 22, f 23, f 24, f 25, f 26, f 27, f 28, f 29, f 30, f 31, f 32, f 33, f 34, f 35, f 36, f 37, f 38, f 39, f 40, f 41, f 42, f 43, f 44, f 45, f 46, f 47, f 48, f 49, f 50, f 51, f 52, f 53, f 54, f 55, f 56, f 57, f 58, f 59, f 60, f 61, f 62, f 63, f 64, f 65, f 66, f 67, f 68, f 69, f 70, f 71, f 72, f 73, f 74, f 75, f 76, f 77, f 78, f 79, f 80, f 81, f 82, f 83, f 84, f 85, f 86, f 87, f 88, f 89], []⟩ := by
 obtain ⟨⟨l⟩, d⟩ := a
 subst hd
 have e := list_range undef l 90 hs
 exact ⟨fun i => l.getD i undef, congrArg (fun l => (⟨⟨l⟩, []⟩ : Act)) e⟩
end Go.Proofs
namespace Go.Proofs
open Go.RowKit Go.Ev
structure InvT (b base : Nat) (T : List UInt8) (w : World) : Prop where
 lt : b < base
 le : base <= w.heap.size
 st : ∃ held, StAt w b (absN (T.length / 64) hw0 T) held T.length /\ BytesAt w base 5 held (T.drop (64 * (T.length / 64)))
theorem bcell {W w1 : World} (hb : Below W.heap.size W w1) : (∀ b o, b < W.heap.size -> w1.cell? ⟨b, o, none⟩ = W.cell? ⟨b, o, none⟩) /\ (∀ b o, b < W.heap.size -> w1.frozen? ⟨b, o, none⟩ = W.frozen? ⟨b, o, none⟩) :=
 ⟨fun b o h => hb.cell (p := ⟨b, o, none⟩) h, fun b o h => hb.frozen (p := ⟨b, o, none⟩) h⟩
theorem write_str {b base : Nat} {T : List UInt8} {w w' : World} (hI : InvT b base T w) (hS : Sb w w') (m : List UInt8) (hm : T.length + m.length <= 1099511627776) :
  Calls Tryz.prog 108 #[.pointer (some ⟨b, 0, none⟩), str m] w' fun e w'' => e = .returned noResult /\ InvT b base (T ++ m) w'' /\ ButB base b w' w'' := by
 obtain ⟨h1, h2, held, hSt, hB⟩ := hI
 have hsz := Below.size hS
 have hSt' := hSt.but (w' := w') (hS.block b (by omega))
 have hB' : BytesAt w' base 5 held (T.drop (64 * (T.length / 64))) := hB.kept fun g hg => hS.block g (hB.lt g hg).2
 have hdl : (T.drop (64 * (T.length / 64))).length = T.length - 64 * (T.length / 64) := List.length_drop
 have hsm : (⟨⟨m⟩⟩ : ByteArray).size = m.length := rfl
 refine (write_calls (absN_lt (T.length / 64) hw0_lt T) h1 (by omega) hSt' hB' ⟨⟨m⟩⟩ (by rw [hsm]; omega) (by rw [hsm, hdl]; omega)).mono ?_
 rintro e w'' ⟨rfl, held', hS2, hB2, hBut⟩
 refine ⟨rfl, ⟨h1, Nat.le_trans (Nat.le_trans h2 hsz) hBut.size, held', ?_, ?_⟩, hBut⟩
 ·
  have e1 : T.drop (64 * (T.length / 64)) ++ m = (T ++ m).drop (64 * (T.length / 64)) := by rw [List.drop_append_of_le_length (by omega)]
  have e2 : absN (T.length / 64) hw0 T = absN (T.length / 64) hw0 (T ++ m) := (absN_app _ _ _ _ (by omega)).symm
  have e3 : (T ++ m).length = T.length + m.length := List.length_append
  have hS2' : StAt w'' b (absN ((T.drop (64 * (T.length / 64)) ++ m).length / 64) (absN (T.length / 64) hw0 T) (T.drop (64 * (T.length / 64)) ++ m)) held' (T.length + m.length) := hS2
  rw [e1, e2, <- absN_add, List.length_drop, e3, show T.length / 64 + (T.length + m.length - 64 * (T.length / 64)) / 64 = (T.length + m.length) / 64 by omega] at hS2'
  rw [e3]; exact hS2'
 ·
  have e3 : (T ++ m).length = T.length + m.length := List.length_append
  have hB2' : BytesAt w'' base 5 held' ((T.drop (64 * (T.length / 64)) ++ m).drop (64 * ((T.drop (64 * (T.length / 64)) ++ m).length / 64))) := hB2
  have e1 : T.drop (64 * (T.length / 64)) ++ m = (T ++ m).drop (64 * (T.length / 64)) := by rw [List.drop_append_of_le_length (by omega)]
  rw [e1, List.drop_drop, List.length_drop, e3, show 64 * (T.length / 64) + 64 * ((T.length + m.length - 64 * (T.length / 64)) / 64) = 64 * ((T.length + m.length) / 64) by omega] at hB2'
  rw [e3]; exact hB2'
set_option maxHeartbeats 1000000 in
set_option maxRecDepth 1000000 in
theorem begin_calls (w : World) : Calls Tryz.prog 135 #[] w fun e w' => e = .returned (.agg ⟨wordsC hw0⟩) /\ Below w.heap.size w w' := by
 go_enter Tryz.func135, Tryz.ntmps135
 go_wp2
 have hres : Tryz.f135.results = #[.cell 0 122] := by kernel_rfl
 refine bodyPost_ret (v := .agg ⟨wordsC hw0⟩) ?_ rfl ⟨rfl, (Below.refl _ _).alloc (Nat.le_refl _) _⟩
 exact results_cell_row hres _ _ w.heap.size 122 _ (0, 0) _ rfl (heap_alloc_new w _) Tryz.underlying122 rfl info83s
set_option maxHeartbeats 1000000 in
set_option maxRecDepth 1000000 in
theorem new_calls (w : World) : Calls Tryz.prog 107 #[] w fun e w' => ∃ b, e = .returned (.pointer (some ⟨b, 0, none⟩)) /\ StAt w' b hw0 (.slice none 0 0) 0 /\ w.heap.size <= b /\ b < w'.heap.size /\ Below w.heap.size w w' := by
 go_enter Tryz.func107, Tryz.ntmps107
 go_wp2_with (go_at_call 135; refine (begin_calls _).mono ?_; rintro e w' ⟨rfl, hb⟩)
 have hres : Tryz.f107.results = #[.tmp 0] := by kernel_rfl
 refine bodyPost_ret (v := .pointer (some ⟨w'.heap.size, 0, none⟩)) ?_ rfl ⟨_, rfl, ⟨(0, 0), ?_, fun j _ => by omega⟩, Below.size hb, ?_, hb.alloc (Below.size hb) _⟩
 ·
  rw [results_tmp hres]; rfl
 ·
  rw [heap_alloc_new]; rfl
 ·
  simp
theorem sum_inv {b base : Nat} {T : List UInt8} {w : World} (hI : InvT b base T w) (hT : T.length <= 1073741824) : Calls Tryz.prog 109 #[.pointer (some ⟨b, 0, none⟩)] w fun e w' => e = .returned (str (shaF T)) /\ Below w.heap.size w w' := by
 obtain ⟨h1, h2, held, hSt, hB⟩ := hI
 have hdl : (T.drop (64 * (T.length / 64))).length = T.length - 64 * (T.length / 64) := List.length_drop
 refine (sum_calls (absN_lt (T.length / 64) hw0_lt T) hSt hB (by omega) (by omega) (by omega)).mono ?_
 rintro e w' ⟨rfl, hb⟩
 refine ⟨?_, hb⟩
 have e1 : T.drop (64 * (T.length / 64)) ++ pad T.length = (T ++ pad T.length).drop (64 * (T.length / 64)) := by rw [List.drop_append_of_le_length (by omega)]
 have e2 : absN (T.length / 64) hw0 T = absN (T.length / 64) hw0 (T ++ pad T.length) := (absN_app _ _ _ _ (by omega)).symm
 have e3 : (T ++ pad T.length).length = T.length + (pad T.length).length := List.length_append
 rw [e1, e2, <- absN_add, List.length_drop, e3, show T.length / 64 + (T.length + (pad T.length).length - 64 * (T.length / 64)) / 64 = (T.length + (pad T.length).length) / 64 by omega]
 unfold shaF
 rw [e3]
set_option maxHeartbeats 1000000 in
set_option maxRecDepth 1000000 in
theorem of_calls (s : ByteArray) (hs : s.size <= 1073741824) (w : World) : Calls Tryz.prog 63 #[.string s] w fun e w' => e = .returned (str (shaF s.data.toList)) /\ Below w.heap.size w w' := by
 have hI1 := @write_str
 have hI2 := @sum_inv
 have hsl : s.data.toList.length = s.size := by simp
 go_enter Tryz.func63, Tryz.ntmps63
 go_wp2_with (first
  | (go_at_call 107; refine (new_calls _).mono ?_; rintro e w1 ⟨b, rfl, hSt, hwb, hb, hbel⟩; have hSt' := Lib.hid hSt; have hbel' := Lib.hid hbel; clear hSt hbel)
  | (go_at_call 108; refine (write_str (T := []) (base := b + 1) (w := w1) ⟨Nat.lt_succ_self _, by omega, .slice none 0 0, by simpa [absN] using hSt'.out, .inl ⟨rfl, rfl⟩⟩ (Sb.refl _) s.data.toList (by simp; omega)).mono ?_; rintro e w2 ⟨rfl, hI, hbut⟩; have hI' := Lib.hid hI; have hbut' := Lib.hid hbut; clear hI hbut)
  | (go_at_call 109; refine (sum_inv hI'.out (by simp; omega)).mono ?_; rintro e w3 ⟨rfl, hb3⟩))
 go_ret
 refine ⟨rfl, ?_⟩
 have hsz := hbut'.out.size
 have hs1 := Below.size hbel'.out
 exact (hbel'.out.trans ⟨hbut'.out.os, hbut'.out.tape, hbut'.out.output, hbut'.out.size, fun k hk => hbut'.out.block k (by omega) (by omega)⟩).trans (hb3.mono (by omega))
end Go.Proofs
namespace Go.Proofs
open Go.Ev Go.RowKit Go.Lib
attribute [local go_sem] Oper.semAt_some
theorem info71 : (Tryz.prog.info? 5).map (fun i => (i.zero, i.size, i.bytes)) = some (some (.int .u8 0), 1, 1) := by kernel_rfl
theorem conv_n (W : World) {n : Nat} (h : n <= 1000) : (convert 3 38 (.int .i64 (n : Int))).run Tryz.prog W = .ok (.int .u64 (n : Int)) W := by
 have e : IntKind.u64.wrap (n : Int) = (n : Int) := wrapU64 _ (by omega)
 simp [convert, run_underlying Tryz.underlying3, run_underlying Tryz.underlying38, Conv.intToInt, e]
theorem Sb.blk {w w' : World} (h : Sb w w') (k : Nat) (hk : k < w.heap.size) : w'.heap[k]? = w.heap[k]? := Below.block h k hk
theorem Sb.siz {w w' : World} (h : Sb w w') : w.heap.size <= w'.heap.size := Below.size h
theorem step_append_text {P : Program} {ops : Array Oper} {o : Oper} {a : Act} {w : World} {K : Act -> World -> Prop} {Q : Exit -> Act -> World -> Prop} {E : Prop}
  (hgd : o.guard = none) (sl x : Operand) (t u : TypeId) (ho : o.op = .call { callee := .builtin .append, args := #[sl, x], argTypes := #[t, u] })
  (base : Nat) (e : TypeId) (i : TypeInfo) (ht : P.underlying t = some (.slice e)) (hu : P.underlying u = some .string) (hi : P.info? e = some i) (hz : i.zero = some (.int .u8 0))
  (hsize : i.size = 1) (hby : i.bytes = 1) (v : Value) (l : List UInt8) (hs : a.eval sl = v) (hown : BytesF w base e v l) (s : ByteArray) (hx : a.eval x = .string s)
  (hbytes : l.length + s.size <= 140737488355328) (hbase : base <= w.heap.size)
  (hK : ∀ v' w', BytesF w' base e v' (l ++ s.data.toList) -> w.grownBy w' v.ownBlock -> (∀ g, v'.ownBlock = some g -> v.ownBlock = some g \/ w.heap.size <= g) -> K (a.put o.dst v') w') :
  if Region.wanted o (yielded ops a.tmps) = true then Oper.wp P o a w K Q else E := by
 have hw : Region.wanted o (yielded ops a.tmps) = true := by simp [Region.wanted, hgd]
 rw [if_pos hw]
 obtain ⟨v', w', hr, h2, h3, h4⟩ := run_append_bytesF (P := P) w base t u o.type e i ht hi hz hsize hby v l hown (a.eval x) s.data.toList (by rw [hx]; exact Src.ofString w hu s) hbytes hbase
 unfold Oper.wp execOp
 simp only [ho, resolve, invoke, builtin, Sem.run_bind, Sem.run_pure, Result.andThen_ok, List.map_toArray, List.map_cons, List.map_nil, hs, hr]
 exact hK _ _ h2 h3 h4
set_option maxHeartbeats 2000000 in
set_option maxRecDepth 1000000 in
theorem mid11 {s : ByteArray} {fr a b n m base : Nat} {out : List UInt8} {vout : Value} {w : World} {A : Act} (hs : s.size <= 1000) (hfa : fr <= a) (ha : a <= s.size) (hb : b <= 1000) (hn4 : 4 <= n) (hn : n <= 1000)
  (hB : BytesF w base 5 vout out) (hol : out.length <= 100000) (hbase : base <= w.heap.size)
  (hF : Fr 90 A [(0, .string s), (4, vout), (5, .map (some m)), (6, .int .i64 (fr : Int)), (7, .int .i64 (a : Int)), (8, .int .i64 (b : Int)), (9, .int .i64 (n : Int))]) {Q : Exit -> Act -> World -> Prop}
  (hQ : ∀ A' w' v', Fr 90 A' [(0, .string s), (4, v'), (5, .map (some m)), (6, .int .i64 (fr : Int)), (7, .int .i64 (a : Int)), (8, .int .i64 (b : Int)), (9, .int .i64 (n : Int))] ->
   BytesF w' base 5 v' (out ++ (numL (a - fr) ++ cutL s.data.toList fr (a - fr) ++ numL b ++ numL (n - 4))) -> w.grownBy w' vout.ownBlock -> (∀ g, v'.ownBlock = some g -> vout.ownBlock = some g \/ w.heap.size <= g) -> Q .normal A' w') :
  wpL Tryz.prog [itemN L28b 3] Q A w := by
 obtain ⟨i0, hi, hz0, hz1, hz2⟩ := info_parts info71
 obtain ⟨hsz, hd, hsl⟩ := hF
 have h0 := hsl (0, .string s) (by simp)
 have h4 := hsl (4, vout) (by simp)
 have h5 := hsl (5, .map (some m)) (by simp)
 have h6 := hsl (6, .int .i64 (fr : Int)) (by simp)
 have h7 := hsl (7, .int .i64 (a : Int)) (by simp)
 have h8 := hsl (8, .int .i64 (b : Int)) (by simp)
 have h9 := hsl (9, .int .i64 (n : Int)) (by simp)
 clear hsl
 obtain ⟨f, rfl⟩ := lit90 hsz hd
 replace h0 : f 0 = .string s := h0
 replace h4 : f 4 = vout := h4
 replace h5 : f 5 = .map (some m) := h5
 replace h6 : f 6 = .int .i64 (fr : Int) := h6
 replace h7 : f 7 = .int .i64 (a : Int) := h7
 replace h8 : f 8 = .int .i64 (b : Int) := h8
 replace h9 : f 9 = .int .i64 (n : Int) := h9
 rw [h0, h4, h5, h6, h7, h8, h9]
 clear h0 h4 h5 h6 h7 h8 h9 hsz hd
 obtain ⟨d, hd⟩ : ∃ d, d = a - fr := ⟨_, rfl⟩
 obtain ⟨q, hq⟩ : ∃ q, q = n - 4 := ⟨_, rfl⟩
 have hd1 : (a : Int) - (fr : Int) = (d : Int) := by omega
 have hq1 : (n : Int) - 4 = (q : Int) := by omega
 have hd2 : d <= 1000 := by omega
 have hq2 : q <= 1000 := by omega
 rw [<- hd, <- hq] at hQ
 have hcut : (s.extract fr a).data.toList = cutL s.data.toList fr d := by
  unfold cutL
  rw [ByteArray.data_extract, Array.toList_extract, List.extract_eq_take_drop, <- hd]
 have hx : (s.extract fr a).size <= 1000 := by rw [ByteArray.size_extract]; omega
 have nd := numL_le d
 have nb := numL_le b
 have nq := numL_le q
 obtain ⟨Nd, hNd⟩ : ∃ x : ByteArray, x = ⟨⟨numL d⟩⟩ := ⟨_, rfl⟩
 obtain ⟨Nb, hNb⟩ : ∃ x : ByteArray, x = ⟨⟨numL b⟩⟩ := ⟨_, rfl⟩
 obtain ⟨Nq, hNq⟩ : ∃ x : ByteArray, x = ⟨⟨numL q⟩⟩ := ⟨_, rfl⟩
 obtain ⟨X, hX⟩ : ∃ x : ByteArray, s.extract fr a = x := ⟨_, rfl⟩
 have zd : Nd.size = (numL d).length := by rw [hNd]; rfl
 have zb : Nb.size = (numL b).length := by rw [hNb]; rfl
 have zq : Nq.size = (numL q).length := by rw [hNq]; rfl
 rw [hX] at hx
 have b1 : Nd.size + X.size <= 9223372036854775807 := by omega
 have b2 : Nd.size + X.size + Nb.size <= 9223372036854775807 := by omega
 have b3 : Nd.size + X.size + Nb.size + Nq.size <= 9223372036854775807 := by omega
 have e1 : (9223372036854775807 < Nd.size + X.size) = False := eq_false (Nat.not_lt.2 b1)
 have e2 : (9223372036854775807 < Nd.size + X.size + Nb.size) = False := eq_false (Nat.not_lt.2 b2)
 have e3 : (9223372036854775807 < Nd.size + X.size + Nb.size + Nq.size) = False := eq_false (Nat.not_lt.2 b3)
 have hS : Hid ((Nd ++ X ++ Nb ++ Nq).data.toList = numL d ++ cutL s.data.toList fr d ++ numL b ++ numL q) := Lib.hid (by
  rw [ByteArray.data_append, ByteArray.data_append, ByteArray.data_append, Array.toList_append, Array.toList_append, Array.toList_append, hNd, hNb, hNq, <- hX, hcut])
 have z3 : (Nd ++ X ++ Nb ++ Nq).size = Nd.size + X.size + Nb.size + Nq.size := by rw [ByteArray.size_append, ByteArray.size_append, ByteArray.size_append]
 have cd := fun W => conv_n W hd2
 have cb := fun W => conv_n W hb
 have cq := fun W => conv_n W hq2
 have wd1 : IntKind.i64.wrap (d : Int) = (d : Int) := wrapI64 _ (by omega)
 have wq1 : IntKind.i64.wrap (q : Int) = (q : Int) := wrapI64 _ (by omega)
 have wd2 : IntKind.u64.wrap (d : Int) = (d : Int) := wrapU64 _ (by omega)
 have wb2 : IntKind.u64.wrap (b : Int) = (b : Int) := wrapU64 _ (by omega)
 have wq2 : IntKind.u64.wrap (q : Int) = (q : Int) := wrapU64 _ (by omega)
 have kd : Hid (∀ W, Calls Tryz.prog 64 #[.int .u64 (d : Int)] W fun e w' => e = .returned (.string Nd) /\ Below W.heap.size W w') := Lib.hid (fun W => hNd ▸ num_calls (show d < 16512 by omega) W)
 have kb : Hid (∀ W, Calls Tryz.prog 64 #[.int .u64 (b : Int)] W fun e w' => e = .returned (.string Nb) /\ Below W.heap.size W w') := Lib.hid (fun W => hNb ▸ num_calls (show b < 16512 by omega) W)
 have kq : Hid (∀ W, Calls Tryz.prog 64 #[.int .u64 (q : Int)] W fun e w' => e = .returned (.string Nq) /\ Below W.heap.size W w') := Lib.hid (fun W => hNq ▸ num_calls (show q < 16512 by omega) W)
 have hB' := Lib.hid hB
 have hQ' := Lib.hid hQ
 obtain ⟨tl, htl⟩ : ∃ l, l = (Nd ++ X ++ Nb ++ Nq).data.toList := ⟨_, rfl⟩
 rw [<- htl] at hS
 have htl' := Lib.hid htl
 have hlen : Hid (out.length + (Nd ++ X ++ Nb ++ Nq).size <= 140737488355328) := Lib.hid (by omega)
 clear htl hB hQ hcut hol hq hd nd nb nq hx hNd hNb hNq zd zb zq z3
 refine wpL_lit (L' := [.region 11 _ true]) (by rfl) ?_
 simp only [wpL]
 refine wp_mono (Q := Nrm fun A' w' => ∃ v', Fr 90 A' [(0, .string s), (4, v'), (5, .map (some m)), (6, .int .i64 (fr : Int)), (7, .int .i64 (a : Int)), (8, .int .i64 (b : Int)), (9, .int .i64 (n : Int))] /\ BytesF w' base 5 v' (out ++ tl) /\ w.grownBy w' vout.ownBlock /\ (∀ g, v'.ownBlock = some g -> vout.ownBlock = some g \/ w.heap.size <= g)) ?_ ?_
 ·
  go_region_law (first
   | (with_reducible (show (if Region.wanted _ _ = true then Oper.wp _ (Oper.mk _ (Op.call { callee := Callee.builtin Builtin.append, args := _, argTypes := _ }) _ _ _ _) _ _ _ _ else _)); go_loud (refine step_append_text rfl (.tmp 40) (.tmp 59) 71 9 rfl base 5 i0 Tryz.underlying71 Tryz.underlying9 hi hz0 hz1 hz2 vout out rfl (hB'.out.kept fun g hg => Sb.blk (show Sb w _ from by repeat (first | exact Sb.refl _ | apply Sb.drew | (refine Sb.trans ?_ (by assumption)))) g (hB'.out.lt g hg).2) (Nd ++ X ++ Nb ++ Nq) rfl hlen.out (Nat.le_trans hbase (Sb.siz (show Sb w _ from by repeat (first | exact Sb.refl _ | apply Sb.drew | (refine Sb.trans ?_ (by assumption)))))) ?_); intro v' w1 hB1 hg1 hn1; rw [<- htl'.out] at hB1; have hB2 := Lib.hid hB1; have hg2 := Lib.hid ((Sb.grown (show Sb w _ from by repeat (first | exact Sb.refl _ | apply Sb.drew | (refine Sb.trans ?_ (by assumption)))) vout.ownBlock).trans hg1); have hn2 : Hid (∀ g, v'.ownBlock = some g -> vout.ownBlock = some g \/ w.heap.size <= g) := Lib.hid (fun g hg => (hn1 g hg).imp id (fun h => Nat.le_trans (Sb.siz (show Sb w _ from by repeat (first | exact Sb.refl _ | apply Sb.drew | (refine Sb.trans ?_ (by assumption))))) h)); clear hB1 hg1 hn1)
   | (go_simp; go_wp2_with (first
    | (go_at_call_of 64 (d : Int); refine (kd.out _).mono ?_; rintro e w' ⟨rfl, hb⟩)
    | (go_at_call_of 64 (b : Int); refine (kb.out _).mono ?_; rintro e w' ⟨rfl, hb⟩)
    | (go_at_call_of 64 (q : Int); refine (kq.out _).mono ?_; rintro e w' ⟨rfl, hb⟩))))
  all_goals
   refine ⟨v', ⟨rfl, rfl, fun p hp => ?_⟩, hB2.out, hg2.out, hn2.out⟩
   simp only [List.mem_cons, List.not_mem_nil, or_false] at hp
   rcases hp with rfl | rfl | rfl | rfl | rfl | rfl | rfl <;> rfl
 ·
  intro e A1 w1 h
  cases e with
  | normal =>
   obtain ⟨v', h1, h2, h3, h4⟩ := h
   refine hQ'.out A1 w1 v' h1 ?_ h3 h4
   rwa [hS.out] at h2
  | _ => exact h.elim
end Go.Proofs
