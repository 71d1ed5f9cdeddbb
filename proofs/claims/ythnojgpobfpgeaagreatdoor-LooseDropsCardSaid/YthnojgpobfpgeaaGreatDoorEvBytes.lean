/- Slices of bytes of the call's own, wherever they begin in their row; a text is put behind. -/
import Derived.Lib.AppendStr
import Derived.Room.AppendStr
import Derived.Below
import Derived.Deep.AppendSrc
import Derived.Laws.CopyRow
import Derived.Lib.ConvBytes
namespace Go.Ev
open Go.RowKit Go.Lib
def BytesAt (w : World) (base : Nat) (e : TypeId) (v : Value) (l : List UInt8) : Prop :=
 (v = .slice none 0 0 /\ l = []) \/
 ∃ g off cap cur, v = .slice (some ⟨g, off, none⟩) l.length cap /\ base <= g /\ w.heap[g]? = some (.cells cur e (0, 0)) /\ l.length <= cap /\ cap <= maxLen /\ (off + cap <= cur.size /\ (0 < cap -> cur.size = off + cap)) /\
  (cur.toList.drop off).take l.length = l.map fun b => Value.int .u8 b.toNat
theorem BytesAt.kept {w w' : World} {base : Nat} {e : TypeId} {v : Value} {l : List UInt8} (h : BytesAt w base e v l) (hk : ∀ g, v.ownBlock = some g -> w'.heap[g]? = w.heap[g]?) : BytesAt w' base e v l := by
 rcases h with h | ⟨g, off, cap, cur, hv, hb, hg, h1, h2, h3, h4⟩
 ·
  exact .inl h
 ·
  refine .inr ⟨g, off, cap, cur, hv, hb, ?_, h1, h2, h3, h4⟩
  rw [hk g (by rw [hv]; rfl), hg]
theorem BytesAt.lt {w : World} {base : Nat} {e : TypeId} {v : Value} {l : List UInt8} (h : BytesAt w base e v l) : ∀ g, v.ownBlock = some g -> base <= g /\ g < w.heap.size := by
 intro k hk
 rcases h with ⟨rfl, _⟩ | ⟨g, off, cap, cur, rfl, hb, hg, _⟩
 ·
  simp [Value.ownBlock] at hk
 ·
  simp [Value.ownBlock] at hk
  subst hk
  exact ⟨hb, (Array.getElem?_eq_some_iff.1 hg).1⟩
theorem BytesAt.len {w : World} {base : Nat} {e : TypeId} {v : Value} {l : List UInt8} (h : BytesAt w base e v l) : ∃ a c, v = .slice a l.length c /\ l.length <= c := by
 rcases h with ⟨rfl, rfl⟩ | ⟨g, off, cap, cur, rfl, _, _, h1, _⟩
 ·
  exact ⟨_, _, rfl, Nat.le_refl _⟩
 ·
  exact ⟨_, _, rfl, h1⟩
def bcells (l : List UInt8) : List Value := l.map fun b => Value.int .u8 b.toNat
theorem bcells_len (l : List UInt8) : (bcells l).length = l.length := by simp [bcells]
theorem bcells_one (l : List UInt8) : ∀ u ∈ bcells l, u.oneCell' = true := by
 intro u hu
 obtain ⟨b, _, rfl⟩ := List.mem_map.1 hu
 rfl
section
variable {P : Program} (w : World)
theorem run_append_room_at (t u ty e : TypeId) (i : TypeInfo) (ht : P.underlying t = some (.slice e)) (hi : P.info? e = some i) (hs1 : i.size = 1)
  (g off sLen sCap : Nat) (cur : Array Value) (hg : w.heap[g]? = some (.cells cur e (0, 0))) (x : Value) (m : List UInt8) (hs : Src P 1 u x m.length (bcells m) w)
  (hroom : sLen + m.length <= sCap) (hfit : off + sLen + m.length <= cur.size) :
  (Builtin.append_ #[t, u] ty #[.slice (some ⟨g, off, none⟩) sLen sCap, x]).run P w =
   .ok (.slice (some ⟨g, off, none⟩) (sLen + m.length) sCap) (w.setRow g (cur.toList.take (off + sLen) ++ bcells m ++ cur.toList.drop (off + sLen + m.length)).toArray) := by
 have hst := run_storeCells_at P g (off + sLen) e (bcells m) 0 cur w hg (by simpa [bcells_len] using hfit) (bcells_one m)
 simp only [Nat.add_zero, bcells_len] at hst
 rcases hs.kind with ⟨e', hk⟩ | hk <;> simp [Builtin.append_, run_underlying ht, run_underlying hk, sizeOf, typeInfo, hi, hs1, hs.len, hroom, hs.cells, Addr.add_lit, hst]
theorem grown_bytes (base : Nat) (e : TypeId) (olds m : List UInt8) (old : Nat) (hb : olds.length + m.length <= maxLen) (hbase : base <= w.heap.size) :
  BytesAt (w.drew.alloc (.cells ((bcells olds ++ bcells m).toArray ++ Builtin.zeroCells (Value.int .u8 0).cells (grownCap w (olds.length + m.length) old e - (olds.length + m.length))) e)) base e
   (.slice (some ⟨w.heap.size, 0, none⟩) (olds.length + m.length) (grownCap w (olds.length + m.length) old e)) (olds ++ m) := by
 have hge := grownCap_ge w (olds.length + m.length) old e
 have hl : (olds ++ m).length = olds.length + m.length := List.length_append
 refine .inr ⟨w.heap.size, 0, _, _, by rw [hl], hbase, heap_alloc_new w.drew _, by rw [hl]; exact hge, grownCap_le_maxLen w _ old e hb, ?_, ?_⟩
 ·
  have hz1 : (Value.int IntKind.u8 0).cells.size = 1 := rfl
  simp only [Array.size_append, List.size_toArray, size_zeroCells, hz1, List.length_append, bcells_len]
  constructor
  ·
   omega
  ·
   intro _; omega
 ·
  simp only [Array.toList_append, List.drop_zero]
  rw [hl]
  have : (bcells olds ++ bcells m).length = olds.length + m.length := by rw [List.length_append, bcells_len, bcells_len]
  rw [<- this, List.take_left]
  simp [bcells]
theorem run_append_bytes (base : Nat) (t u ty e : TypeId) (i : TypeInfo) (ht : P.underlying t = some (.slice e)) (hi : P.info? e = some i) (hz : i.zero = some (.int .u8 0))
  (hsize : i.size = 1) (hby : i.bytes = 1) (v : Value) (l : List UInt8) (hown : BytesAt w base e v l) (x : Value) (m : List UInt8) (hs : Src P 1 u x m.length (bcells m) w) (hbytes : l.length + m.length <= 140737488355328) (hbase : base <= w.heap.size) :
  ∃ v' w', (Builtin.append_ #[t, u] ty #[v, x]).run P w = .ok v' w' /\ BytesAt w' base e v' (l ++ m) /\ w.grownBy w' v.ownBlock /\ (∀ g, v'.ownBlock = some g -> v.ownBlock = some g \/ w.heap.size <= g) := by
 have hmax : l.length + m.length <= maxLen := by unfold maxLen; omega
 have hgrow : ∀ (X : Obj) (row : Option Nat), w.grownBy (w.drew.alloc X) row := fun X row => ⟨rfl, rfl, rfl, by simp, fun k hk _ => heap_alloc_old w.drew _ k hk⟩
 rcases hown with ⟨rfl, rfl⟩ | ⟨g, off, cap, cur, rfl, hbg, hg, hnc, hcm, hcs, htake⟩
 ·
  by_cases hm : m.length = 0
  ·
   have hn : m = [] := List.eq_nil_of_length_eq_zero hm
   subst hn
   refine ⟨.slice none 0 0, w, ?_, .inl ⟨rfl, rfl⟩, ⟨rfl, rfl, rfl, Nat.le_refl _, fun _ _ _ => rfl⟩, fun g h => by simp [Value.ownBlock] at h⟩
   have h1 := hs.len w
   have h2 := hs.cells
   simp only [bcells, List.map_nil, List.length_nil] at h1 h2
   rcases hs.kind with ⟨e', hk⟩ | hk <;> simp [Builtin.append_, run_underlying ht, run_underlying hk, sizeOf, typeInfo, hi, hsize, h1, h2]
  ·
   have hr := run_append_grow_src (P := P) w t u ty e i (.int .u8 0) ht hi hz none 0 0 [] (run_firstCells_none w.drew i.size 0 0 0) x m.length (bcells m) (by rw [hsize]; exact hs) (by omega) (by unfold maxLen at hmax; simp at hmax; omega)
    (by rw [hby]; exact growslice_fits (by omega) (by simp at hbytes; omega))
   have hgr := grown_bytes w base e [] m 0 hmax hbase
   simp only [List.length_nil, Nat.zero_add, List.nil_append, bcells, List.map_nil] at hgr hr ⊢
   exact ⟨_, _, hr, hgr, hgrow _ _, fun g h => .inr (by simp [Value.ownBlock] at h; omega)⟩
 ·
  by_cases hroom : l.length + m.length <= cap
  ·
   have hr := run_append_room_at (P := P) w t u ty e i ht hi hsize g off l.length cap cur hg x m hs hroom (by omega)
   have hll : (l ++ m).length = l.length + m.length := List.length_append
   refine ⟨_, _, hr, .inr ⟨g, off, cap, _, by rw [hll], hbg, setRow_heap w g cur _ e _ hg, by rw [hll]; exact hroom, hcm, ?_, ?_⟩, ⟨rfl, rfl, rfl, by simp, fun k _ hk => setRow_other w g k _ (fun e => hk (by simp [Value.ownBlock, e]))⟩, fun g' h => .inl h⟩
   ·
    simp only [List.size_toArray, List.length_append, List.length_take, List.length_drop, Array.length_toList, bcells_len]
    constructor
    ·
     omega
    ·
     intro h; have := hcs.2 h; omega
   ·
    have hcl : cur.toList.length = cur.size := Array.length_toList
    rw [hll, List.map_append]
    show _ = (l.map fun b => Value.int .u8 b.toNat) ++ bcells m
    rw [<- htake]
    have hlen : ((cur.toList.drop off).take l.length).length = l.length := by rw [List.length_take, List.length_drop, hcl]; omega
    have e2 : (cur.toList.take (off + l.length)).drop off = (cur.toList.drop off).take l.length := by rw [List.drop_take, Nat.add_sub_cancel_left]
    have e3 : (cur.toList.take (off + l.length) ++ bcells m ++ cur.toList.drop (off + l.length + m.length)).drop off = (cur.toList.drop off).take l.length ++ (bcells m ++ cur.toList.drop (off + l.length + m.length)) := by
     rw [List.append_assoc, List.drop_append_of_le_length (by rw [List.length_take, hcl]; omega), e2]
    show (List.drop off (cur.toList.take (off + l.length) ++ bcells m ++ cur.toList.drop (off + l.length + m.length))).take (l.length + m.length) = _
    rw [e3, <- List.append_assoc]
    have : ((cur.toList.drop off).take l.length ++ bcells m).length = l.length + m.length := by rw [List.length_append, hlen, bcells_len]
    rw [<- this, List.take_left]
  ·
   have holds : ∀ j v, (bcells l)[j]? = some v -> w.cell? ((⟨g, off, none⟩ : Addr).add j) = some v := fun j v hj => by
    rw [Addr.add_lit, cell_of_row w g (off + j) cur e (0, 0) hg]
    unfold bcells at hj
    rw [<- htake, List.getElem?_take] at hj
    split at hj
    ·
     rw [List.getElem?_drop] at hj; simpa using hj
    ·
     cases hj
   have hr := run_append_grow_src (P := P) w t u ty e i (.int .u8 0) ht hi hz (some ⟨g, off, none⟩) l.length cap (bcells l) (run_firstCells_some w.drew i.size l.length ⟨g, off, none⟩ l.length cap (bcells l) (by rw [hsize, bcells_len, Nat.mul_one]) (by simpa using holds)) x m.length (bcells m) (by rw [hsize]; exact hs) (by omega) (by unfold maxLen at hmax; omega)
    (by rw [hby]; exact growslice_fits (by omega) (by omega))
   exact ⟨_, _, hr, grown_bytes w base e l m cap hmax hbase, hgrow _ _, fun g' h => .inr (by simp [Value.ownBlock] at h; omega)⟩
theorem wpList_append_src {ops : Array Oper} {rest : List Oper} {o : Oper} {a : Act} {Q : Exit -> Act -> World -> Prop} (hgd : o.guard = none) (sl x : Operand) (t u : TypeId)
  (ho : o.op = .call { callee := .builtin .append, args := #[sl, x], argTypes := #[t, u] })
  (base : Nat) (e : TypeId) (i : TypeInfo) (ht : P.underlying t = some (.slice e)) (hi : P.info? e = some i) (hz : i.zero = some (.int .u8 0))
  (hsize : i.size = 1) (hby : i.bytes = 1) (v : Value) (l : List UInt8) (hs : a.eval sl = v) (hown : BytesAt w base e v l) (m : List UInt8) (hx : Src P 1 u (a.eval x) m.length (bcells m) w)
  (hbytes : l.length + m.length <= 140737488355328) (hbase : base <= w.heap.size)
  (h : ∀ v' w', BytesAt w' base e v' (l ++ m) -> w.grownBy w' v.ownBlock -> (∀ g, v'.ownBlock = some g -> v.ownBlock = some g \/ w.heap.size <= g) -> wpList P ops Q rest (a.put o.dst v') w') : wpList P ops Q (o :: rest) a w := by
 refine wpList_plain hgd fun K hK => ?_
 obtain ⟨v', w', hr, h2, h3, h4⟩ := run_append_bytes (P := P) w base t u o.type e i ht hi hz hsize hby v l hown (a.eval x) m hx hbytes hbase
 unfold Oper.wp execOp
 simp only [ho, resolve, invoke, builtin, Sem.run_bind, Sem.run_pure, Result.andThen_ok, List.map_toArray, List.map_cons, List.map_nil, hs, hr]
 exact hK _ _ (h v' w' h2 h3 h4)
theorem wpList_append_bytes {ops : Array Oper} {rest : List Oper} {o : Oper} {a : Act} {Q : Exit -> Act -> World -> Prop} (hgd : o.guard = none) (sl x : Operand) (t u : TypeId)
  (ho : o.op = .call { callee := .builtin .append, args := #[sl, x], argTypes := #[t, u] })
  (base : Nat) (e : TypeId) (i : TypeInfo) (ht : P.underlying t = some (.slice e)) (hu : P.underlying u = some .string) (hi : P.info? e = some i) (hz : i.zero = some (.int .u8 0))
  (hsize : i.size = 1) (hby : i.bytes = 1) (v : Value) (l : List UInt8) (hs : a.eval sl = v) (hown : BytesAt w base e v l) (s : ByteArray) (hx : a.eval x = .string s)
  (hbytes : l.length + s.size <= 140737488355328) (hbase : base <= w.heap.size)
  (h : ∀ v' w', BytesAt w' base e v' (l ++ s.data.toList) -> w.grownBy w' v.ownBlock -> (∀ g, v'.ownBlock = some g -> v.ownBlock = some g \/ w.heap.size <= g) -> wpList P ops Q rest (a.put o.dst v') w') : wpList P ops Q (o :: rest) a w :=
 wpList_append_src w hgd sl x t u ho base e i ht hi hz hsize hby v l hs hown s.data.toList (by rw [hx]; exact Src.ofString w hu s) hbytes hbase h
theorem BytesAt.src {base : Nat} {e tx e' : TypeId} {v : Value} {l : List UInt8} (hk : P.underlying tx = some (.slice e')) (h : BytesAt w base e v l) : Src P 1 tx v l.length (bcells l) w := by
 rcases h with ⟨rfl, rfl⟩ | ⟨g, off, cap, cur, rfl, hbg, hg, hnc, hcm, hcs, htake⟩
 ·
  exact Src.ofNil w hk 0
 ·
  refine Src.ofSlice w hk _ _ _ _ (by rw [bcells_len, Nat.mul_one]) (fun j v hj => ?_) (bcells_one l)
  rw [Addr.add_lit, cell_of_row w g (off + j) cur e (0, 0) hg]
  unfold bcells at hj
  rw [<- htake, List.getElem?_take] at hj
  split at hj
  ·
   rw [List.getElem?_drop] at hj; simpa using hj
  ·
   cases hj
end
end Go.Ev
namespace Go.Ev
open Go.RowKit Go.Lib
def NoFr (fr : Nat × Nat) (n : Nat) : Prop := ∀ j, j < n -> (decide (fr.1 <= j) && decide (j < fr.2)) = false
theorem NoFr.zero (n : Nat) : NoFr (0, 0) n := fun j _ => by simp
theorem NoFr.le {fr : Nat × Nat} {n k : Nat} (h : NoFr fr n) (hk : k <= n) : NoFr fr k := fun j hj => h j (by omega)
theorem NoFr.mark (n : Nat) : NoFr (n, n + 1) n := fun j hj => by simp; omega
theorem run_storeCells_f (P : Program) (g o : Nat) (t : TypeId) (fr : Nat × Nat) : ∀ (vs : List Value) (i : Nat) (cur : Array Value) (w : World), w.heap[g]? = some (.cells cur t fr) -> NoFr fr cur.size -> o + i + vs.length <= cur.size -> (∀ v ∈ vs, v.oneCell' = true) ->
  (storeCells ⟨g, o, none⟩ vs i).run P w = .ok () (w.setRow g (cur.toList.take (o + i) ++ vs ++ cur.toList.drop (o + i + vs.length)).toArray)
 | [], i, cur, w, hg, _, _, _ => by
  simp only [storeCells, List.append_nil, List.length_nil, Nat.add_zero, List.take_append_drop, Array.toArray_toList]
  rw [setRow_self w g cur t fr hg]
  rfl
 | v :: rest, i, cur, w, hg, hf, hl, h1 => by
  have hi : o + i < cur.size := by simp at hl; omega
  have hadd : (⟨g, o, none⟩ : Addr).add i = ⟨g, o + i, none⟩ := by unfold Addr.add; split <;> simp_all
  have hcell : w.cell? ⟨g, o + i, none⟩ = some cur[o + i] := by simp [World.cell?, hg, hi]
  have hfro : w.frozen? ⟨g, o + i, none⟩ = false := by
   obtain ⟨lo, hi'⟩ := fr
   have := hf (o + i) hi
   simpa [World.frozen?, hg] using this
  have hst : (store ((⟨g, o, none⟩ : Addr).add i) v).run P w = .ok () (w.setRow g (cur.setIfInBounds (o + i) v)) := by
   rw [hadd, run_store P w _ v _ (h1 v (by simp)), hcell]
   simp [hfro, setCell_eq_setRow w g (o + i) cur t fr v hg]
  have ih := run_storeCells_f P g o t fr rest (i + 1) (cur.setIfInBounds (o + i) v) (w.setRow g (cur.setIfInBounds (o + i) v)) (setRow_heap w g cur _ t _ hg) (by simpa using hf) (by simp at hl ⊢; omega) (fun x hx => h1 x (by simp [hx]))
  simp only [storeCells, Sem.run_bind, hst, Result.andThen_ok, ih, setRow_setRow]
  congr 3
  have e := list_seg_step cur.toList (o + i) v rest (by simp at hl ⊢; omega)
  simpa [Array.toList_setIfInBounds, Nat.add_assoc] using e
def BytesF (w : World) (base : Nat) (e : TypeId) (v : Value) (l : List UInt8) : Prop :=
 (v = .slice none 0 0 /\ l = []) \/
 ∃ g off cap cur, v = .slice (some ⟨g, off, none⟩) l.length cap /\ base <= g /\ (∃ fr, NoFr fr cur.size /\ w.heap[g]? = some (.cells cur e fr)) /\ l.length <= cap /\ cap <= maxLen /\ (off + cap <= cur.size /\ (0 < cap -> cur.size = off + cap)) /\
  (cur.toList.drop off).take l.length = l.map fun b => Value.int .u8 b.toNat
theorem BytesF.kept {w w' : World} {base : Nat} {e : TypeId} {v : Value} {l : List UInt8} (h : BytesF w base e v l) (hk : ∀ g, v.ownBlock = some g -> w'.heap[g]? = w.heap[g]?) : BytesF w' base e v l := by
 rcases h with h | ⟨g, off, cap, cur, hv, hb, ⟨fr, hfr, hg⟩, h1, h2, h3, h4⟩
 ·
  exact .inl h
 ·
  refine .inr ⟨g, off, cap, cur, hv, hb, ⟨fr, hfr, ?_⟩, h1, h2, h3, h4⟩
  rw [hk g (by rw [hv]; rfl), hg]
theorem BytesF.lt {w : World} {base : Nat} {e : TypeId} {v : Value} {l : List UInt8} (h : BytesF w base e v l) : ∀ g, v.ownBlock = some g -> base <= g /\ g < w.heap.size := by
 intro k hk
 rcases h with ⟨rfl, _⟩ | ⟨g, off, cap, cur, rfl, hb, ⟨fr, hfr, hg⟩, _⟩
 ·
  simp [Value.ownBlock] at hk
 ·
  simp [Value.ownBlock] at hk
  subst hk
  exact ⟨hb, (Array.getElem?_eq_some_iff.1 hg).1⟩
theorem BytesF.len {w : World} {base : Nat} {e : TypeId} {v : Value} {l : List UInt8} (h : BytesF w base e v l) : ∃ a c, v = .slice a l.length c /\ l.length <= c := by
 rcases h with ⟨rfl, rfl⟩ | ⟨g, off, cap, cur, rfl, _, _, h1, _⟩
 ·
  exact ⟨_, _, rfl, Nat.le_refl _⟩
 ·
  exact ⟨_, _, rfl, h1⟩
section
variable {P : Program} (w : World)
theorem run_append_room_f (t u ty e : TypeId) (i : TypeInfo) (ht : P.underlying t = some (.slice e)) (hi : P.info? e = some i) (hs1 : i.size = 1)
  (g off sLen sCap : Nat) (cur : Array Value) (fr : Nat × Nat) (hfr : NoFr fr cur.size) (hg : w.heap[g]? = some (.cells cur e fr)) (x : Value) (m : List UInt8) (hs : Src P 1 u x m.length (bcells m) w)
  (hroom : sLen + m.length <= sCap) (hfit : off + sLen + m.length <= cur.size) :
  (Builtin.append_ #[t, u] ty #[.slice (some ⟨g, off, none⟩) sLen sCap, x]).run P w =
   .ok (.slice (some ⟨g, off, none⟩) (sLen + m.length) sCap) (w.setRow g (cur.toList.take (off + sLen) ++ bcells m ++ cur.toList.drop (off + sLen + m.length)).toArray) := by
 have hst := run_storeCells_f P g (off + sLen) e fr (bcells m) 0 cur w hg hfr (by simpa [bcells_len] using hfit) (bcells_one m)
 simp only [Nat.add_zero, bcells_len] at hst
 rcases hs.kind with ⟨e', hk⟩ | hk <;> simp [Builtin.append_, run_underlying ht, run_underlying hk, sizeOf, typeInfo, hi, hs1, hs.len, hroom, hs.cells, Addr.add_lit, hst]
theorem grown_bytesF (base : Nat) (e : TypeId) (olds m : List UInt8) (old : Nat) (hb : olds.length + m.length <= maxLen) (hbase : base <= w.heap.size) :
  BytesF (w.drew.alloc (.cells ((bcells olds ++ bcells m).toArray ++ Builtin.zeroCells (Value.int .u8 0).cells (grownCap w (olds.length + m.length) old e - (olds.length + m.length))) e)) base e
   (.slice (some ⟨w.heap.size, 0, none⟩) (olds.length + m.length) (grownCap w (olds.length + m.length) old e)) (olds ++ m) := by
 have hge := grownCap_ge w (olds.length + m.length) old e
 have hl : (olds ++ m).length = olds.length + m.length := List.length_append
 refine .inr ⟨w.heap.size, 0, _, _, by rw [hl], hbase, ⟨(0, 0), NoFr.zero _, heap_alloc_new w.drew _⟩, by rw [hl]; exact hge, grownCap_le_maxLen w _ old e hb, ?_, ?_⟩
 ·
  have hz1 : (Value.int IntKind.u8 0).cells.size = 1 := rfl
  simp only [Array.size_append, List.size_toArray, size_zeroCells, hz1, List.length_append, bcells_len]
  constructor
  ·
   omega
  ·
   intro _; omega
 ·
  simp only [Array.toList_append, List.drop_zero]
  rw [hl]
  have : (bcells olds ++ bcells m).length = olds.length + m.length := by rw [List.length_append, bcells_len, bcells_len]
  rw [<- this, List.take_left]
  simp [bcells]
theorem run_append_bytesF (base : Nat) (t u ty e : TypeId) (i : TypeInfo) (ht : P.underlying t = some (.slice e)) (hi : P.info? e = some i) (hz : i.zero = some (.int .u8 0))
  (hsize : i.size = 1) (hby : i.bytes = 1) (v : Value) (l : List UInt8) (hown : BytesF w base e v l) (x : Value) (m : List UInt8) (hs : Src P 1 u x m.length (bcells m) w) (hbytes : l.length + m.length <= 140737488355328) (hbase : base <= w.heap.size) :
  ∃ v' w', (Builtin.append_ #[t, u] ty #[v, x]).run P w = .ok v' w' /\ BytesF w' base e v' (l ++ m) /\ w.grownBy w' v.ownBlock /\ (∀ g, v'.ownBlock = some g -> v.ownBlock = some g \/ w.heap.size <= g) := by
 have hmax : l.length + m.length <= maxLen := by unfold maxLen; omega
 have hgrow : ∀ (X : Obj) (row : Option Nat), w.grownBy (w.drew.alloc X) row := fun X row => ⟨rfl, rfl, rfl, by simp, fun k hk _ => heap_alloc_old w.drew _ k hk⟩
 rcases hown with ⟨rfl, rfl⟩ | ⟨g, off, cap, cur, rfl, hbg, ⟨fr, hfr, hg⟩, hnc, hcm, hcs, htake⟩
 ·
  by_cases hm : m.length = 0
  ·
   have hn : m = [] := List.eq_nil_of_length_eq_zero hm
   subst hn
   refine ⟨.slice none 0 0, w, ?_, .inl ⟨rfl, rfl⟩, ⟨rfl, rfl, rfl, Nat.le_refl _, fun _ _ _ => rfl⟩, fun g h => by simp [Value.ownBlock] at h⟩
   have h1 := hs.len w
   have h2 := hs.cells
   simp only [bcells, List.map_nil, List.length_nil] at h1 h2
   rcases hs.kind with ⟨e', hk⟩ | hk <;> simp [Builtin.append_, run_underlying ht, run_underlying hk, sizeOf, typeInfo, hi, hsize, h1, h2]
  ·
   have hr := run_append_grow_src (P := P) w t u ty e i (.int .u8 0) ht hi hz none 0 0 [] (run_firstCells_none w.drew i.size 0 0 0) x m.length (bcells m) (by rw [hsize]; exact hs) (by omega) (by unfold maxLen at hmax; simp at hmax; omega)
    (by rw [hby]; exact growslice_fits (by omega) (by simp at hbytes; omega))
   have hgr := grown_bytesF w base e [] m 0 hmax hbase
   simp only [List.length_nil, Nat.zero_add, List.nil_append, bcells, List.map_nil] at hgr hr ⊢
   exact ⟨_, _, hr, hgr, hgrow _ _, fun g h => .inr (by simp [Value.ownBlock] at h; omega)⟩
 ·
  by_cases hroom : l.length + m.length <= cap
  ·
   have hr := run_append_room_f (P := P) w t u ty e i ht hi hsize g off l.length cap cur fr hfr hg x m hs hroom (by omega)
   have hll : (l ++ m).length = l.length + m.length := List.length_append
   refine ⟨_, _, hr, .inr ⟨g, off, cap, _, by rw [hll], hbg, ⟨fr, hfr.le (by simp only [List.size_toArray, List.length_append, List.length_take, List.length_drop, Array.length_toList, bcells_len]; omega), setRow_heap w g cur _ e _ hg⟩, by rw [hll]; exact hroom, hcm, ?_, ?_⟩, ⟨rfl, rfl, rfl, by simp, fun k _ hk => setRow_other w g k _ (fun e => hk (by simp [Value.ownBlock, e]))⟩, fun g' h => .inl h⟩
   ·
    simp only [List.size_toArray, List.length_append, List.length_take, List.length_drop, Array.length_toList, bcells_len]
    constructor
    ·
     omega
    ·
     intro h; have := hcs.2 h; omega
   ·
    have hcl : cur.toList.length = cur.size := Array.length_toList
    rw [hll, List.map_append]
    show _ = (l.map fun b => Value.int .u8 b.toNat) ++ bcells m
    rw [<- htake]
    have hlen : ((cur.toList.drop off).take l.length).length = l.length := by rw [List.length_take, List.length_drop, hcl]; omega
    have e2 : (cur.toList.take (off + l.length)).drop off = (cur.toList.drop off).take l.length := by rw [List.drop_take, Nat.add_sub_cancel_left]
    have e3 : (cur.toList.take (off + l.length) ++ bcells m ++ cur.toList.drop (off + l.length + m.length)).drop off = (cur.toList.drop off).take l.length ++ (bcells m ++ cur.toList.drop (off + l.length + m.length)) := by
     rw [List.append_assoc, List.drop_append_of_le_length (by rw [List.length_take, hcl]; omega), e2]
    show (List.drop off (cur.toList.take (off + l.length) ++ bcells m ++ cur.toList.drop (off + l.length + m.length))).take (l.length + m.length) = _
    rw [e3, <- List.append_assoc]
    have : ((cur.toList.drop off).take l.length ++ bcells m).length = l.length + m.length := by rw [List.length_append, hlen, bcells_len]
    rw [<- this, List.take_left]
  ·
   have holds : ∀ j v, (bcells l)[j]? = some v -> w.cell? ((⟨g, off, none⟩ : Addr).add j) = some v := fun j v hj => by
    rw [Addr.add_lit, cell_of_row w g (off + j) cur e fr hg]
    unfold bcells at hj
    rw [<- htake, List.getElem?_take] at hj
    split at hj
    ·
     rw [List.getElem?_drop] at hj; simpa using hj
    ·
     cases hj
   have hr := run_append_grow_src (P := P) w t u ty e i (.int .u8 0) ht hi hz (some ⟨g, off, none⟩) l.length cap (bcells l) (run_firstCells_some w.drew i.size l.length ⟨g, off, none⟩ l.length cap (bcells l) (by rw [hsize, bcells_len, Nat.mul_one]) (by simpa using holds)) x m.length (bcells m) (by rw [hsize]; exact hs) (by omega) (by unfold maxLen at hmax; omega)
    (by rw [hby]; exact growslice_fits (by omega) (by omega))
   exact ⟨_, _, hr, grown_bytesF w base e l m cap hmax hbase, hgrow _ _, fun g' h => .inr (by simp [Value.ownBlock] at h; omega)⟩
theorem wpList_append_srcF {ops : Array Oper} {rest : List Oper} {o : Oper} {a : Act} {Q : Exit -> Act -> World -> Prop} (hgd : o.guard = none) (sl x : Operand) (t u : TypeId)
  (ho : o.op = .call { callee := .builtin .append, args := #[sl, x], argTypes := #[t, u] })
  (base : Nat) (e : TypeId) (i : TypeInfo) (ht : P.underlying t = some (.slice e)) (hi : P.info? e = some i) (hz : i.zero = some (.int .u8 0))
  (hsize : i.size = 1) (hby : i.bytes = 1) (v : Value) (l : List UInt8) (hs : a.eval sl = v) (hown : BytesF w base e v l) (m : List UInt8) (hx : Src P 1 u (a.eval x) m.length (bcells m) w)
  (hbytes : l.length + m.length <= 140737488355328) (hbase : base <= w.heap.size)
  (h : ∀ v' w', BytesF w' base e v' (l ++ m) -> w.grownBy w' v.ownBlock -> (∀ g, v'.ownBlock = some g -> v.ownBlock = some g \/ w.heap.size <= g) -> wpList P ops Q rest (a.put o.dst v') w') : wpList P ops Q (o :: rest) a w := by
 refine wpList_plain hgd fun K hK => ?_
 obtain ⟨v', w', hr, h2, h3, h4⟩ := run_append_bytesF (P := P) w base t u o.type e i ht hi hz hsize hby v l hown (a.eval x) m hx hbytes hbase
 unfold Oper.wp execOp
 simp only [ho, resolve, invoke, builtin, Sem.run_bind, Sem.run_pure, Result.andThen_ok, List.map_toArray, List.map_cons, List.map_nil, hs, hr]
 exact hK _ _ (h v' w' h2 h3 h4)
theorem wpList_append_bytesF {ops : Array Oper} {rest : List Oper} {o : Oper} {a : Act} {Q : Exit -> Act -> World -> Prop} (hgd : o.guard = none) (sl x : Operand) (t u : TypeId)
  (ho : o.op = .call { callee := .builtin .append, args := #[sl, x], argTypes := #[t, u] })
  (base : Nat) (e : TypeId) (i : TypeInfo) (ht : P.underlying t = some (.slice e)) (hu : P.underlying u = some .string) (hi : P.info? e = some i) (hz : i.zero = some (.int .u8 0))
  (hsize : i.size = 1) (hby : i.bytes = 1) (v : Value) (l : List UInt8) (hs : a.eval sl = v) (hown : BytesF w base e v l) (s : ByteArray) (hx : a.eval x = .string s)
  (hbytes : l.length + s.size <= 140737488355328) (hbase : base <= w.heap.size)
  (h : ∀ v' w', BytesF w' base e v' (l ++ s.data.toList) -> w.grownBy w' v.ownBlock -> (∀ g, v'.ownBlock = some g -> v.ownBlock = some g \/ w.heap.size <= g) -> wpList P ops Q rest (a.put o.dst v') w') : wpList P ops Q (o :: rest) a w :=
 wpList_append_srcF w hgd sl x t u ho base e i ht hi hz hsize hby v l hs hown s.data.toList (by rw [hx]; exact Src.ofString w hu s) hbytes hbase h
end
theorem bytesF_conv (w : World) (e : TypeId) (s : ByteArray) (base : Nat) (hb : base <= w.heap.size) (hs : s.size <= 140737488355328) :
  BytesF (bytesWorld w e s) base e (.slice (some ⟨w.heap.size, 0, none⟩) s.size (grownCap w s.size 0 e)) s.data.toList := by
 have hge := grownCap_ge w s.size 0 e
 have hl : s.data.toList.length = s.size := by simp
 have hcs : (bytesCells w e s).size = grownCap w s.size 0 e := by
  have : s.data.size = s.size := rfl
  simp [bytesCells, this]; omega
 refine .inr ⟨w.heap.size, 0, grownCap w s.size 0 e, bytesCells w e s, by rw [hl], hb, ⟨_, NoFr.mark _, bytesWorld_at_new w e s⟩, by rw [hl]; exact hge, grownCap_le_maxLen w _ 0 e (by unfold maxLen; omega), ⟨by rw [hcs]; omega, fun _ => by rw [hcs]; omega⟩, ?_⟩
 rw [hl, List.drop_zero]
 unfold bytesCells
 rw [Array.toList_append, List.take_left' (by simp)]
 simp
theorem bytesWorld_grown (w : World) (e : TypeId) (s : ByteArray) : w.grownBy (bytesWorld w e s) none := ⟨rfl, rfl, rfl, by rw [bytesWorld_size]; omega, fun i hi _ => bytesWorld_at_old w e s i hi⟩
end Go.Ev
