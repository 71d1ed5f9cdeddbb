/- The file system's maps, as functions of names. -/
import Derived.Test.YthnojgpobfpgeaaGreatDoorTSprA
import Derived.Maps.OwnSet
import Derived.Maps.AppendAt
import Derived.Maps.Range
import Derived.Sort.KeysCollected
namespace Go.Proofs
open Go.RowKit Go.Ev Go.Lib Go.WideMaps
open Go.WideElems (rd_key)
attribute [local go_sem] Oper.semAt_some
abbrev Nm := ByteArray -> Option Nat
theorem ba_inj {a b : ByteArray} (h : a.data.toList = b.data.toList) : a = b := by
 obtain ⟨⟨a⟩⟩ := a; obtain ⟨⟨b⟩⟩ := b; simp at h; rw [h]
def View (D : DataW Unit) (M : Nm) : Prop := Maps.IsMap D /\ ∀ k : ByteArray, Maps.has D (.string k.data.toList) = (M k).isSome /\ ∀ j, M k = some j -> ∀ z, D.atKey (.string k.data.toList) z = .lit (.int .i64 (j : Int))
def MapF (w : World) (b n : Nat) (M : Nm) : Prop := ∃ D, w.ownsMap Tryz.prog 9 (plainElem (H := Unit) Tryz.prog 3) b n D /\ View D M
def putF' (M : Nm) (k : ByteArray) (v : Nat) : Nm := fun k' => if k' = k then some v else M k'
def delF (M : Nm) (k : ByteArray) : Nm := fun k' => if k' = k then none else M k'
theorem view_put {D : DataW Unit} {M : Nm} (h : View D M) (k : ByteArray) (v : Nat) : View (D.put (.string k.data.toList) (.lit (.int .i64 (v : Int)))) (putF' M k v) := by
 refine ⟨h.1.put _ _, fun k' => ?_⟩
 unfold putF'
 by_cases e : k' = k
 ·
  subst e
  rw [if_pos rfl]
  exact ⟨Maps.has_put_same h.1 (by trivial) _, fun j hj z => by cases hj; exact Maps.atKey_put_same h.1 (by trivial) _ _⟩
 ·
  have hne : (Lit.string k'.data.toList) ≠ .string k.data.toList := fun he => e (ba_inj (by injection he))
  rw [if_neg e, Maps.has_put_other hne]
  exact ⟨(h.2 k').1, fun j hj z => by rw [Maps.atKey_put_other hne]; exact (h.2 k').2 j hj z⟩
theorem view_del {D : DataW Unit} {M : Nm} (h : View D M) (k : ByteArray) : View (D.del (.string k.data.toList)) (delF M k) := by
 refine ⟨h.1.del _, fun k' => ?_⟩
 unfold delF
 by_cases e : k' = k
 ·
  subst e
  rw [if_pos rfl]
  exact ⟨Maps.has_del_same, fun j hj => by cases hj⟩
 ·
  have hne : (Lit.string k'.data.toList) ≠ .string k.data.toList := fun he => e (ba_inj (by injection he))
  rw [if_neg e, Maps.has_del_other hne]
  exact ⟨(h.2 k').1, fun j hj z => by rw [Maps.atKey_del_other hne]; exact (h.2 k').2 j hj z⟩
theorem view_empty : View (.map []) (fun _ => none) := ⟨Maps.isMap_empty, fun k => ⟨rfl, fun j hj => by cases hj⟩⟩
section
variable {w : World} {b n : Nat} {M : Nm}
theorem MapF.lt (h : MapF w b n M) : b < w.heap.size := by
 obtain ⟨D, ⟨es, clock, hb, _⟩, _⟩ := h
 exact (Array.getElem?_eq_some_iff.1 hb).1
theorem MapF.kept {w' : World} (h : MapF w b n M) (hk : w'.heap[b]? = w.heap[b]?) : MapF w' b n M := by
 obtain ⟨D, ⟨es, clock, hb, h1, h2, h3⟩, hv⟩ := h
 exact ⟨D, ⟨es, clock, hk.trans hb, h1, h2, h3⟩, hv⟩
theorem key_str {k : ByteArray} (h : k.size <= 1000) : keyOf Tryz.prog 9 (.string k) = some (.string k.data.toList) :=
 WideMaps.keyOf_string_mk (P := Tryz.prog) Tryz.underlying9 (by unfold maxLen; omega)
theorem mapF_lookup {ops : Array Oper} {rest : List Oper} {o : Oper} {a : Act} {Q : Exit -> Act -> World -> Prop} (h : MapF w b n M) (hg : o.guard = none) (m x : Operand) (hop : o.op = Op.lookup 54 m x true)
  (hm : a.eval m = .map (some b)) (k : ByteArray) (hk : k.size <= 1000) (hx : a.eval x = .string k)
  (hK : ∀ c : Int, (∀ j, M k = some j -> c = (j : Int)) -> wpList Tryz.prog ops Q rest (a.put o.dst (.tuple #[.int .i64 c, .bool (M k).isSome])) w) : wpList Tryz.prog ops Q (o :: rest) a w := by
 obtain ⟨D, hown, hv⟩ := h
 refine wpList_lookup_own_ok_int w hg m x 54 hop 9 3 .i64 (Maps.string_keyed Tryz.underlying9) Tryz.underlying54 Tryz.underlying3 (Tryz.zeroValue3 _) b n D hm hown _ _ hx (key_str hk) ?_
 intro c hat _
 rw [(hv.2 _).1]
 refine hK c fun j hj => ?_
 have h2 := (hv.2 _).2 j hj (.lit (.int .i64 0))
 rw [h2] at hat
 injection hat with e
 injection e with e1 e2
 exact e2.symm
theorem mapF_update {ops : Array Oper} {rest : List Oper} {o : Oper} {a : Act} {Q : Exit -> Act -> World -> Prop} (h : MapF w b n M) (hg : o.guard = none) (m x v : Operand) (hop : o.op = Op.mapUpdate 54 m x v)
  (hm : a.eval m = .map (some b)) (k : ByteArray) (hk : k.size <= 1000) (hx : a.eval x = .string k) (j : Nat) (hj : j <= 1000000) (hv : a.eval v = .int .i64 (j : Int)) (hn : n <= 1000000)
  (hK : ∀ w', MapF w' b (n + 1) (putF' M k j) -> w.grownBy w' (some b) -> wpList Tryz.prog ops Q rest (a.put o.dst undef) w') : wpList Tryz.prog ops Q (o :: rest) a w := by
 obtain ⟨D, hown, hvw⟩ := h
 refine wpList_mapUpdate_own w hg m x v 54 hop 9 3 (Maps.string_keyed Tryz.underlying9) Tryz.underlying54 _ b n D hm hown (by unfold maxLen; omega) _ _ _ hx hv (key_str hk) _ _ (plainElem_int Tryz.underlying3 (WalkArith.wf_i64 (by omega))) fun w' h1 h2 => hK w' ⟨_, h1, view_put hvw _ _⟩ h2
theorem mapF_delete {ops : Array Oper} {rest : List Oper} {o : Oper} {a : Act} {Q : Exit -> Act -> World -> Prop} (h : MapF w b n M) (hg : o.guard = none) (m x : Operand) (hop : o.op = .call { callee := .builtin .delete, args := #[m, x], argTypes := #[54, 9] })
  (hm : a.eval m = .map (some b)) (k : ByteArray) (hk : k.size <= 1000) (hx : a.eval x = .string k)
  (hK : ∀ w', MapF w' b n (delF M k) -> w.mapTurned w' b -> wpList Tryz.prog ops Q rest (a.put o.dst (.tuple #[])) w') : wpList Tryz.prog ops Q (o :: rest) a w := by
 obtain ⟨D, hown, hvw⟩ := h
 exact wpList_delete_own w hg m x 54 9 hop 3 (Maps.string_keyed Tryz.underlying9) Tryz.underlying54 _ b n D hm hown _ _ hx (key_str hk) fun w' h1 h2 => hK w' ⟨_, h1, view_del hvw _⟩ h2
set_option maxRecDepth 1000000 in
theorem MapF.raw (h : MapF w b n M) : ∃ es clock, w.heap[b]? = some (.map es clock) /\ MapKept.Stamped es clock /\ es.size <= n /\ (∀ x ∈ es.toList, ∃ (k : ByteArray) (j : Nat), x.key = .string k /\ x.val = .int .i64 (j : Int) /\ M k = some j) /\
  ∀ k j, M k = some j -> k.size <= 1000 -> ∃ x ∈ es.toList, x.key = .string k := by
 obtain ⟨D, ⟨es, clock, hb, F, hs, rfl⟩, hv⟩ := h
 have K : Maps.Keyed Tryz.prog 9 := Maps.string_keyed Tryz.underlying9
 refine ⟨es, clock, hb, F.stamped, hs, fun x hx => ?_, fun k j hj hk => ?_⟩
 ·
  obtain ⟨y, hy⟩ := F.reads x hx
  have hkey := rd_key hy
  obtain ⟨s, hs1, hs2, hs3⟩ := WideMaps.string_of_keyOf Tryz.underlying9 hkey
  rcases Maps.fit_look true K Tryz.underlying54 (Tryz.zeroValue3 w) hb F hkey with ⟨_, hno, _⟩ | ⟨e0, y0, he0, hk0, _, hR, hat, _⟩
  ·
   exact absurd rfl (hno x hx)
  ·
   have hhas := Maps.has_true_of_atKey hat
   rw [hs2, (hv.2 _).1] at hhas
   obtain ⟨j, hj⟩ := Option.isSome_iff_exists.1 hhas
   have h2 := (hv.2 _).2 j hj (.lit (.int .i64 0))
   rw [<- hs2, hat] at h2
   obtain ⟨c, hc1, hc2, _⟩ := plainElem_int_inv Tryz.underlying3 hR
   have hex : e0 = x := entry_eq_of_key (by
    have := F.stamped.2.2
    rw [List.nodup_iff_pairwise_ne, List.pairwise_map] at this
    exact this) he0 hx hk0
   subst hex
   rw [hc2] at h2
   injection h2 with h2
   injection h2 with _ h2
   exact ⟨s, j, hs1, by rw [hc1, h2], hj⟩
 ·
  have hkey := key_str hk
  rcases Maps.fit_look true K Tryz.underlying54 (Tryz.zeroValue3 w) hb F hkey with ⟨_, _, hno⟩ | ⟨e0, y0, he0, hk0, _⟩
  ·
   have := Maps.has_false_of_atKey hno
   rw [(hv.2 _).1, hj] at this
   cases this
  ·
   exact ⟨e0, he0, hk0⟩
set_option maxRecDepth 1000000 in
theorem MapF.look (h : MapF w b n M) {k : ByteArray} (hk : k.size <= 1000) : (Instr.lookup 54 (.map (some b)) (.string k) true).run Tryz.prog w = .ok (.tuple #[.int .i64 (((M k).getD 0 : Nat) : Int), .bool (M k).isSome]) w := by
 obtain ⟨D, hown, hv⟩ := h
 obtain ⟨v, ps, hrun, hR⟩ := hown.look_ok (Maps.string_keyed Tryz.underlying9) Tryz.underlying54 (Tryz.zeroValue3 w) (plainElem_int (a := 0) Tryz.underlying3 (by decide)) (key_str hk)
 rw [hrun, (hv.2 k).1]
 obtain ⟨c, rfl, hc, _⟩ := plainElem_int_inv Tryz.underlying3 hR
 have hc2 : D.atKey (.string k.data.toList) (.lit (.int .i64 0)) = .lit (.int .i64 c) := by injection hc
 cases hM : M k with
 | none =>
  have : Maps.has D (.string k.data.toList) = false := by rw [(hv.2 k).1, hM]; rfl
  rw [Maps.atKey_of_not_has this] at hc2
  injection hc2 with e
  injection e with _ e
  subst e
  rfl
 | some j =>
  rw [(hv.2 k).2 j hM] at hc2
  injection hc2 with e
  injection e with _ e
  subst e
  rfl
set_option maxRecDepth 1000000 in
theorem MapF.look1 (h : MapF w b n M) {k : ByteArray} (hk : k.size <= 1000) : (Instr.lookup 54 (.map (some b)) (.string k) false).run Tryz.prog w = .ok (.int .i64 (((M k).getD 0 : Nat) : Int)) w := by
 obtain ⟨D, hown, hv⟩ := h
 obtain ⟨c, hrun, hat, _⟩ := hown.lookup_int (Maps.string_keyed Tryz.underlying9) Tryz.underlying54 Tryz.underlying3 (Tryz.zeroValue3 w) (key_str hk)
 rw [hrun]
 cases hM : M k with
 | none =>
  have : Maps.has D (.string k.data.toList) = false := by rw [(hv.2 k).1, hM]; rfl
  rw [Maps.atKey_of_not_has this] at hat
  injection hat with e
  injection e with _ e
  subst e
  rfl
 | some j =>
  rw [(hv.2 k).2 j hM] at hat
  injection hat with e
  injection e with _ e
  subst e
  rfl
end
end Go.Proofs
namespace Go.Proofs
open Go.RowKit Go.Ev Go.Lib
attribute [local go_sem] Oper.semAt_some
abbrev ni (n : Nat) : Value := .int .i64 (n : Int)
theorem ne_own {v : Value} {g b : Nat} (h1 : v.ownBlock = some g) (h2 : v.ownBlock ≠ some b) : g ≠ b := by
 rintro rfl; exact h2 h1
inductive Ac where
 | comes (p : ByteArray) (n : Nat)
 | goes (p : ByteArray)
 | moves (p q : ByteArray) (n : Nat)
def Ac.kind : Ac -> Nat
 | .comes .. => 0
 | .goes .. => 1
 | .moves .. => 2
def Ac.path : Ac -> ByteArray
 | .comes p _ => p
 | .goes p => p
 | .moves p _ _ => p
def Ac.to : Ac -> ByteArray
 | .moves _ q _ => q
 | _ => ⟨#[]⟩
def Ac.node : Ac -> Nat
 | .comes _ n => n
 | .goes _ => 0
 | .moves _ _ n => n
def Ac.cells (a : Ac) : List Value := [ni a.kind, Value.string a.path, Value.string a.to, ni a.node]
structure Nd where
 dir : Bool
 now : ByteArray
 sure : ByteArray
def Nd.cells (d : Nd) : List Value := [.bool d.dir, Value.string d.now, Value.string d.sure]
structure St where
 now : Nm
 sure : Nm
 acts : List Ac
 nodes : List Nd
 room : Nat
 off : Bool
 k : Nat
structure Lay where
 bn : Nat
 bs : Nat
 av : Value
 nv : Value
 st : Int
def Lay.own (L : Lay) (fb k : Nat) : Prop := k = fb \/ k = L.bn \/ k = L.bs \/ L.av.ownBlock = some k \/ L.nv.ownBlock = some k
structure FsAt (W : World) (fb : Nat) (L : Lay) (s : St) : Prop where
 hp : W.heap[fb]? = some (.cells #[.map (some L.bn), .map (some L.bs), L.av, L.nv, .int .i64 (s.room : Int), .int .i64 L.st, .slice none 0 0, .bool s.off] 59 (0, 0))
 mn : MapF W L.bn s.k s.now
 ms : MapF W L.bs s.k s.sure
 ra : W.ownsRow 0 67 4 L.av s.acts.length (s.acts.flatMap Ac.cells)
 rn : W.ownsRow 0 62 3 L.nv s.nodes.length (s.nodes.flatMap Nd.cells)
 ne : L.bn ≠ L.bs
structure Stp (W : World) (P : Nat -> Prop) (w' : World) (P' : Nat -> Prop) : Prop where
 os : w'.os = W.os
 tape : w'.tape = W.tape
 output : w'.output = W.output
 size : W.heap.size <= w'.heap.size
 blk : ∀ k, k < W.heap.size -> ¬ P k -> w'.heap[k]? = W.heap[k]?
 own : ∀ k, P' k -> P k \/ W.heap.size <= k
theorem Stp.trans {W w1 w2 : World} {P P1 P2 : Nat -> Prop} (h : Stp W P w1 P1) (g : Stp w1 P1 w2 P2) : Stp W P w2 P2 :=
 ⟨g.os.trans h.os, g.tape.trans h.tape, g.output.trans h.output, Nat.le_trans h.size g.size, fun k hk hn => (g.blk k (Nat.lt_of_lt_of_le hk h.size) fun hp => (h.own k hp).elim hn (Nat.not_le_of_lt hk)).trans (h.blk k hk hn),
  fun k hk => (g.own k hk).elim (fun h1 => h.own k h1) (fun h1 => .inr (Nat.le_trans h.size h1))⟩
theorem Stp.below {W w' : World} (P : Nat -> Prop) (h : Below W.heap.size W w') : Stp W P w' P := ⟨h.os, h.tape, h.output, h.size, fun k hk _ => h.block k hk, fun _ hk => .inl hk⟩
theorem Stp.grown {W w' : World} {P P' : Nat -> Prop} {row : Option Nat} (h : W.grownBy w' row) (hr : ∀ k, row = some k -> P k) (ho : ∀ k, P' k -> P k \/ W.heap.size <= k) : Stp W P w' P' :=
 ⟨h.os, h.tape, h.output, h.size, fun k hk hn => h.block k hk fun e => hn (hr k e.symm), ho⟩
theorem Stp.set {W : World} {P : Nat -> Prop} {b o : Nat} (hb : P b) (v : Value) : Stp W P (W.setCell ⟨b, o, none⟩ v) P :=
 ⟨rfl, rfl, rfl, by simp [World.setCell], fun k _ hn => by
  simp only [World.setCell, Array.getElem?_modify]
  rw [if_neg (fun e : b = k => hn (e ▸ hb))], fun _ h => .inl h⟩
theorem row_kept {w w' : World} {base : Nat} {e : TypeId} {n size : Nat} {v : Value} {xs : List Value} (h : w.ownsRow base e size v n xs) (hk : ∀ g, v.ownBlock = some g -> w'.heap[g]? = w.heap[g]?) : w'.ownsRow base e size v n xs := by
 refine ⟨h.1, ?_⟩
 rcases h.2 with hn | ⟨g, cap, cur, rfl, hb, hgg, rest⟩
 ·
  exact .inl hn
 ·
  exact .inr ⟨g, cap, cur, rfl, hb, by rw [hk g rfl]; exact hgg, rest⟩
theorem row_typ {w : World} {base : Nat} {e : TypeId} {n size : Nat} {v : Value} {xs : List Value} (h : w.ownsRow base e size v n xs) {g : Nat} (hg : v.ownBlock = some g) : ∃ cur, w.heap[g]? = some (.cells cur e (0, 0)) := by
 rcases h.2 with ⟨rfl, _⟩ | ⟨g', cap, cur, rfl, hb, hgg, rest⟩
 ·
  cases hg
 ·
  cases hg
  exact ⟨cur, hgg⟩
theorem MapF.typ {w : World} {b n : Nat} {M : Nm} (h : MapF w b n M) : ∃ es c, w.heap[b]? = some (.map es c) := by
 obtain ⟨D, ⟨es, clock, hb, _⟩, _⟩ := h
 exact ⟨es, clock, hb⟩
section
variable {W w' : World} {fb : Nat} {L : Lay} {s : St}
theorem FsAt.kept (h : FsAt W fb L s) (hk : ∀ k, L.own fb k -> w'.heap[k]? = W.heap[k]?) : FsAt w' fb L s :=
 ⟨(hk fb (.inl rfl)).trans h.hp, h.mn.kept (hk _ (.inr (.inl rfl))), h.ms.kept (hk _ (.inr (.inr (.inl rfl)))), row_kept h.ra fun g hg => hk g (.inr (.inr (.inr (.inl hg)))), row_kept h.rn fun g hg => hk g (.inr (.inr (.inr (.inr hg)))), h.ne⟩
theorem FsAt.lt (h : FsAt W fb L s) {k : Nat} (hk : L.own fb k) : k < W.heap.size := by
 rcases hk with rfl | rfl | rfl | hk | hk
 ·
  exact (Array.getElem?_eq_some_iff.1 h.hp).1
 ·
  exact h.mn.lt
 ·
  exact h.ms.lt
 ·
  exact (h.ra.lt k hk).2
 ·
  exact (h.rn.lt k hk).2
theorem FsAt.below (h : FsAt W fb L s) (hb : Below W.heap.size W w') : FsAt w' fb L s := h.kept fun k hk => hb.block k (h.lt hk)
theorem FsAt.fbn (h : FsAt W fb L s) : fb ≠ L.bn := fun e => by
 obtain ⟨es, c, h1⟩ := h.mn.typ
 rw [<- e, h.hp] at h1
 cases h1
theorem FsAt.fbs (h : FsAt W fb L s) : fb ≠ L.bs := fun e => by
 obtain ⟨es, c, h1⟩ := h.ms.typ
 rw [<- e, h.hp] at h1
 cases h1
theorem FsAt.fav (h : FsAt W fb L s) : L.av.ownBlock ≠ some fb := fun e => by
 obtain ⟨c, h1⟩ := row_typ h.ra e
 rw [h.hp] at h1
 injection h1 with h1
 injection h1 with _ h1
 exact absurd h1 (by decide)
theorem FsAt.fnv (h : FsAt W fb L s) : L.nv.ownBlock ≠ some fb := fun e => by
 obtain ⟨c, h1⟩ := row_typ h.rn e
 rw [h.hp] at h1
 injection h1 with h1
 injection h1 with _ h1
 exact absurd h1 (by decide)
theorem FsAt.abn (h : FsAt W fb L s) : L.av.ownBlock ≠ some L.bn := fun e => by
 obtain ⟨c, h1⟩ := row_typ h.ra e
 obtain ⟨es, c', h2⟩ := h.mn.typ
 rw [h2] at h1
 cases h1
theorem FsAt.abs (h : FsAt W fb L s) : L.av.ownBlock ≠ some L.bs := fun e => by
 obtain ⟨c, h1⟩ := row_typ h.ra e
 obtain ⟨es, c', h2⟩ := h.ms.typ
 rw [h2] at h1
 cases h1
theorem FsAt.nbn (h : FsAt W fb L s) : L.nv.ownBlock ≠ some L.bn := fun e => by
 obtain ⟨c, h1⟩ := row_typ h.rn e
 obtain ⟨es, c', h2⟩ := h.mn.typ
 rw [h2] at h1
 cases h1
theorem FsAt.nbs (h : FsAt W fb L s) : L.nv.ownBlock ≠ some L.bs := fun e => by
 obtain ⟨c, h1⟩ := row_typ h.rn e
 obtain ⟨es, c', h2⟩ := h.ms.typ
 rw [h2] at h1
 cases h1
theorem FsAt.anv (h : FsAt W fb L s) {g : Nat} (ha : L.av.ownBlock = some g) : L.nv.ownBlock ≠ some g := fun e => by
 obtain ⟨c, h1⟩ := row_typ h.rn e
 obtain ⟨c', h2⟩ := row_typ h.ra ha
 rw [h2] at h1
 injection h1 with h1
 injection h1 with _ h1
 exact absurd h1 (by decide)
theorem FsAt.c0 (h : FsAt W fb L s) : W.cell? ⟨fb, 0, none⟩ = some (.map (some L.bn)) := by rw [Lib.cell_of_heap h.hp]; rfl
theorem FsAt.c1 (h : FsAt W fb L s) : W.cell? ⟨fb, 1, none⟩ = some (.map (some L.bs)) := by rw [Lib.cell_of_heap h.hp]; rfl
theorem FsAt.c2 (h : FsAt W fb L s) : W.cell? ⟨fb, 2, none⟩ = some L.av := by rw [Lib.cell_of_heap h.hp]; rfl
theorem FsAt.c3 (h : FsAt W fb L s) : W.cell? ⟨fb, 3, none⟩ = some L.nv := by rw [Lib.cell_of_heap h.hp]; rfl
theorem FsAt.c4 (h : FsAt W fb L s) : W.cell? ⟨fb, 4, none⟩ = some (.int .i64 (s.room : Int)) := by rw [Lib.cell_of_heap h.hp]; rfl
theorem FsAt.c5 (h : FsAt W fb L s) : W.cell? ⟨fb, 5, none⟩ = some (.int .i64 L.st) := by rw [Lib.cell_of_heap h.hp]; rfl
theorem FsAt.c6 (h : FsAt W fb L s) : W.cell? ⟨fb, 6, none⟩ = some (.slice none 0 0) := by rw [Lib.cell_of_heap h.hp]; rfl
theorem FsAt.c7 (h : FsAt W fb L s) : W.cell? ⟨fb, 7, none⟩ = some (.bool s.off) := by rw [Lib.cell_of_heap h.hp]; rfl
theorem FsAt.fz (h : FsAt W fb L s) (o : Nat) : W.frozen? ⟨fb, o, none⟩ = false := Lib.frozen_of_heap h.hp o
theorem set_heap {b o : Nat} {c : Array Value} {t : TypeId} {fr : Nat × Nat} (h : W.heap[b]? = some (.cells c t fr)) (v : Value) : (W.setCell ⟨b, o, none⟩ v).heap[b]? = some (.cells (c.setIfInBounds o v) t fr) := by
 simp [World.setCell, Array.getElem?_modify, h]
theorem set_other {b o k : Nat} (v : Value) (hk : k ≠ b) : (W.setCell ⟨b, o, none⟩ v).heap[k]? = W.heap[k]? := by
 simp only [World.setCell, Array.getElem?_modify]
 rw [if_neg (fun e => hk e.symm)]
theorem FsAt.setSt (h : FsAt W fb L s) (n : Int) : FsAt (W.setCell ⟨fb, 5, none⟩ (.int .i64 n)) fb { L with st := n } s :=
 ⟨(set_heap h.hp _).trans rfl, h.mn.kept (set_other _ (Ne.symm h.fbn)), h.ms.kept (set_other _ (Ne.symm h.fbs)), row_kept h.ra fun _ hg => set_other _ (ne_own hg h.fav), row_kept h.rn fun _ hg => set_other _ (ne_own hg h.fnv), h.ne⟩
theorem FsAt.setOff (h : FsAt W fb L s) (b : Bool) : FsAt (W.setCell ⟨fb, 7, none⟩ (.bool b)) fb L { s with off := b } :=
 ⟨(set_heap h.hp _).trans rfl, h.mn.kept (set_other _ (Ne.symm h.fbn)), h.ms.kept (set_other _ (Ne.symm h.fbs)), row_kept h.ra fun _ hg => set_other _ (ne_own hg h.fav), row_kept h.rn fun _ hg => set_other _ (ne_own hg h.fnv), h.ne⟩
theorem FsAt.setAv (h : FsAt W fb L s) {w1 : World} {v : Value} {acts : List Ac} (hg : W.grownBy w1 L.av.ownBlock) (hr : w1.ownsRow 0 67 4 v acts.length (acts.flatMap Ac.cells)) : FsAt (w1.setCell ⟨fb, 2, none⟩ v) fb { L with av := v } { s with acts := acts } := by
 have hk : ∀ k, k < W.heap.size -> L.av.ownBlock ≠ some k -> w1.heap[k]? = W.heap[k]? := fun k h1 h2 => hg.block k h1 (Ne.symm h2)
 have hfb := (hk fb (h.lt (.inl rfl)) h.fav).trans h.hp
 refine ⟨(set_heap hfb _).trans rfl, h.mn.kept ((set_other _ (Ne.symm h.fbn)).trans (hk _ h.mn.lt h.abn)), h.ms.kept ((set_other _ (Ne.symm h.fbs)).trans (hk _ h.ms.lt h.abs)), row_kept hr fun g hgg => set_other _ fun e => ?_,
  row_kept h.rn fun g hgg => (set_other _ (ne_own hgg h.fnv)).trans (hk g (h.rn.lt g hgg).2 fun e => h.anv e hgg), h.ne⟩
 subst e
 obtain ⟨c, h1⟩ := row_typ hr hgg
 rw [hfb] at h1
 injection h1 with h1
 injection h1 with _ h1
 exact absurd h1 (by decide)
theorem FsAt.setNv (h : FsAt W fb L s) {w1 : World} {v : Value} {nodes : List Nd} (hg : W.grownBy w1 L.nv.ownBlock) (hr : w1.ownsRow 0 62 3 v nodes.length (nodes.flatMap Nd.cells)) : FsAt (w1.setCell ⟨fb, 3, none⟩ v) fb { L with nv := v } { s with nodes := nodes } := by
 have hk : ∀ k, k < W.heap.size -> L.nv.ownBlock ≠ some k -> w1.heap[k]? = W.heap[k]? := fun k h1 h2 => hg.block k h1 (Ne.symm h2)
 have hfb := (hk fb (h.lt (.inl rfl)) h.fnv).trans h.hp
 refine ⟨(set_heap hfb _).trans rfl, h.mn.kept ((set_other _ (Ne.symm h.fbn)).trans (hk _ h.mn.lt h.nbn)), h.ms.kept ((set_other _ (Ne.symm h.fbs)).trans (hk _ h.ms.lt h.nbs)),
  row_kept h.ra fun g hgg => (set_other _ (ne_own hgg h.fav)).trans (hk g (h.ra.lt g hgg).2 fun e => h.anv hgg e), row_kept hr fun g hgg => set_other _ fun e => ?_, h.ne⟩
 subst e
 obtain ⟨c, h1⟩ := row_typ hr hgg
 rw [hfb] at h1
 injection h1 with h1
 injection h1 with _ h1
 exact absurd h1 (by decide)
theorem FsAt.setNow (h : FsAt W fb L s) {M : Nm} {k : Nat} (hm : MapF w' L.bn k M) (hk : s.k <= k) (ho : ∀ j, j < W.heap.size -> j ≠ L.bn -> w'.heap[j]? = W.heap[j]?) : FsAt w' fb L { s with now := M, k := k } := by
 have hms := h.ms
 refine ⟨(ho fb (h.lt (.inl rfl)) h.fbn).trans h.hp, hm, ?_, row_kept h.ra fun g hg => ho g (h.ra.lt g hg).2 (ne_own hg h.abn), row_kept h.rn fun g hg => ho g (h.rn.lt g hg).2 (ne_own hg h.nbn), h.ne⟩
 obtain ⟨D, ho1, hv⟩ := hms.kept (ho _ h.ms.lt (Ne.symm h.ne))
 exact ⟨D, ho1.mono hk, hv⟩
theorem FsAt.setSure (h : FsAt W fb L s) {M : Nm} {k : Nat} (hm : MapF w' L.bs k M) (hk : s.k <= k) (ho : ∀ j, j < W.heap.size -> j ≠ L.bs -> w'.heap[j]? = W.heap[j]?) : FsAt w' fb L { s with sure := M, k := k } := by
 have hmn := h.mn
 refine ⟨(ho fb (h.lt (.inl rfl)) h.fbs).trans h.hp, ?_, hm, row_kept h.ra fun g hg => ho g (h.ra.lt g hg).2 (ne_own hg h.abs), row_kept h.rn fun g hg => ho g (h.rn.lt g hg).2 (ne_own hg h.nbs), h.ne⟩
 obtain ⟨D, ho1, hv⟩ := hmn.kept (ho _ h.mn.lt h.ne)
 exact ⟨D, ho1.mono hk, hv⟩
end
theorem flat_get {α : Type} (f : α -> List Value) {m : Nat} (hf : ∀ a, (f a).length = m) : ∀ (l : List α) (n i : Nat) (hn : n < l.length), i < m -> (l.flatMap f)[n * m + i]? = (f l[n])[i]?
 | [], _, _, h, _ => absurd h (Nat.not_lt_zero _)
 | a :: l, 0, i, _, hi => by
  rw [List.flatMap_cons, Nat.zero_mul, Nat.zero_add, List.getElem?_append_left (by rw [hf]; exact hi)]
  rfl
 | a :: l, n + 1, i, h, hi => by
  rw [List.flatMap_cons, List.getElem?_append_right (by rw [hf, Nat.succ_mul]; omega), hf]
  have := flat_get f hf l n i (by simpa using h) hi
  rw [show (n + 1) * m + i - m = n * m + i by rw [Nat.succ_mul]; omega, this]
  rfl
theorem add_none (g j : Nat) : (⟨g, 0, none⟩ : Addr).add j = ⟨g, j, none⟩ := by unfold Addr.add; split <;> simp_all
theorem FsAt.node {W : World} {fb : Nat} {L : Lay} {s : St} (h : FsAt W fb L s) {n : Nat} {d : Nd} (hd : s.nodes[n]? = some d) :
  ∃ g m cap, L.nv = .slice (some ⟨g, 0, none⟩) m cap /\ (n : Int) < (m : Int) /\ W.cell? ⟨g, n * 3, none⟩ = some (.bool d.dir) /\ W.cell? ⟨g, n * 3 + 1, none⟩ = some (.string d.now) /\ W.cell? ⟨g, n * 3 + 2, none⟩ = some (.string d.sure) /\ (∀ o, W.frozen? ⟨g, o, none⟩ = false) := by
 have hr := h.rn
 obtain ⟨hn, rfl⟩ := List.getElem?_eq_some_iff.1 hd
 rcases h.rn.2 with ⟨_, h0⟩ | ⟨g, cap, cur, hv, _, hg, _⟩
 ·
  omega
 ·
  refine ⟨g, s.nodes.length, cap, hv, by omega, ?_, ?_, ?_, fun o => Lib.frozen_of_heap hg o⟩
  ·
   have := hr.cells (g := g) (by rw [hv]; rfl) (n * 3 + 0) _ ((flat_get Nd.cells (fun _ => rfl) s.nodes n 0 hn (by decide)).trans rfl)
   rwa [add_none] at this
  ·
   have := hr.cells (g := g) (by rw [hv]; rfl) (n * 3 + 1) _ ((flat_get Nd.cells (fun _ => rfl) s.nodes n 1 hn (by decide)).trans rfl)
   rwa [add_none] at this
  ·
   have := hr.cells (g := g) (by rw [hv]; rfl) (n * 3 + 2) _ ((flat_get Nd.cells (fun _ => rfl) s.nodes n 2 hn (by decide)).trans rfl)
   rwa [add_none] at this
end Go.Proofs
namespace Go.Proofs
open Go.RowKit Go.Ev Go.Lib
attribute [local go_sem] Oper.semAt_some
abbrev pt (b : Nat) : Value := .pointer (some ⟨b, 0, none⟩)
def PathOk (p : ByteArray) : Prop := ∀ w, Calls Tryz.prog 69 #[Value.string p] w fun e w' => e = .returned (.bool true) /\ Below w.heap.size w w'
def UpIs (p u : ByteArray) : Prop := ∀ w, Calls Tryz.prog 32 #[Value.string p] w fun e w' => e = .returned (Value.string u) /\ Below w.heap.size w w'
theorem ne_str {p : ByteArray} (h : ¬ p = ⟨#[]⟩) : ¬ p.toList = [] /\ p.toList.isEmpty = false := by
 have e : p.toList = p.data.toList := ByteArray.toList_eq p
 have h2 : ¬ p.toList = [] := fun he => h (ba_inj (by rw [<- e, he]))
 exact ⟨h2, by simpa using h2⟩
theorem below_alloc (W : World) (o : Obj) : Below W.heap.size W (W.alloc o) := (Below.refl _ _).alloc (Nat.le_refl _) _
section
variable {W : World} {fb : Nat} {L : Lay} {s : St}
set_option maxRecDepth 1000000 in
theorem dead_calls (h : FsAt W fb L s) : Calls Tryz.prog 46 #[pt fb] W fun e w' => e = .returned (.bool s.off) /\ w' = W := by
 have c7 := h.c7
 clear h
 go_enter Tryz.func46, Tryz.ntmps46
 go_wp2
 go_ret
 exact ⟨rfl, rfl⟩
set_option maxRecDepth 1000000 in
theorem dir_calls (h : FsAt W fb L s) {n : Nat} {d : Nd} (hd : s.nodes[n]? = some d) : Calls Tryz.prog 49 #[pt fb, ni n] W fun e w' => e = .returned (.bool d.dir) /\ w' = W := by
 obtain ⟨g, m, cap, hv, hlt, d0, _⟩ := h.node hd
 have c3 := h.c3
 rw [hv] at c3
 clear h hv hd
 go_enter Tryz.func49, Tryz.ntmps49
 go_wp2
 go_ret
 exact ⟨rfl, rfl⟩
set_option maxRecDepth 1000000 in
theorem fol_yes (h : FsAt W fb L s) {p : ByteArray} (hp : p.size <= 1000) (hne : ¬ p = ⟨#[]⟩) {n : Nat} {d : Nd} (hn : s.now p = some n) (hd : s.nodes[n]? = some d) : Calls Tryz.prog 31 #[pt fb, Value.string p] W fun e w' => e = .returned (.bool d.dir) /\ w' = W := by
 obtain ⟨g, m, cap, hv, hlt, d0, _⟩ := h.node hd
 have c3 := h.c3
 have c0 := h.c0
 rw [hv] at c3
 have hm := Lib.hid h.mn
 have hn' := Lib.hid hn
 have hps := Lib.hid hp
 obtain ⟨hne1, hne2⟩ := ne_str hne
 clear hne
 clear h hv hd hn hp
 go_enter Tryz.func31, Tryz.ntmps31
 go_wp2_with (first | (refine mapF_lookup hm.out rfl _ _ rfl rfl _ hps.out rfl ?_; intro c hc; have e := hc n hn'.out; subst e; clear hc; rw [hn'.out]) | fail)
 go_ret
 exact ⟨rfl, rfl⟩
set_option maxRecDepth 1000000 in
theorem fol_root (h : FsAt W fb L s) (hn : s.now ⟨#[]⟩ = none) : Calls Tryz.prog 31 #[pt fb, .string ⟨#[]⟩] W fun e w' => e = .returned (.bool true) /\ w' = W := by
 have c0 := h.c0
 have hm := Lib.hid h.mn
 have hn' := Lib.hid hn
 clear h hn
 go_enter Tryz.func31, Tryz.ntmps31
 go_wp2_with (first | (refine mapF_lookup hm.out rfl _ _ rfl rfl _ (by decide) rfl ?_; intro c hc; clear hc; rw [hn'.out]) | fail)
 go_ret
 exact ⟨rfl, rfl⟩
set_option maxRecDepth 1000000 in
theorem indexFunc71 (w : World) (v : Value) : Calls Tryz.prog 71 #[.slice none 0 0, v] w fun e w' => e = .returned (.int .i64 (-1)) /\ w' = w := by
 go_enter Tryz.func71, Tryz.ntmps71
 go_wp2
 go_loopw [8] (fun i w' => i = .int .i64 0 /\ w' = w) (fun _ _ => 0)
 case atStart => exact ⟨rfl, rfl⟩
 case round =>
  obtain ⟨rfl, rfl⟩ := hrel
  go_wp2
  go_ret
  exact ⟨rfl, rfl⟩
def FsTo (W : World) (fb : Nat) (L : Lay) (s' : St) (w' : World) : Prop := ∃ L', FsAt w' fb L' s' /\ Stp W (L.own fb) w' (L'.own fb)
set_option maxRecDepth 1000000 in
theorem step_calls (h : FsAt W fb L s) : Calls Tryz.prog 34 #[pt fb] W fun e w' => e = .returned (.int .i64 0) /\ FsTo W fb L s w' := by
 have hlt := h.lt (.inl rfl)
 have hH := Lib.hid h
 have h1 := h.below (below_alloc W (.cells #[pt fb] 22))
 have c5 := h1.c5
 have c6 := h1.c6
 have f5 := h1.fz 5
 clear h h1
 go_enter Tryz.func34, Tryz.ntmps34
 go_wp2_with (go_at_call 71; refine (indexFunc71 _ _).mono ?_; rintro r w1 ⟨rfl, rfl⟩)
 go_ret
 exact ⟨rfl, _, (hH.out.setSt _).below (below_alloc _ _), (Stp.set (P := L.own fb) (.inl rfl) _).trans (Stp.below _ (below_alloc _ _))⟩
set_option maxRecDepth 1000000 in
theorem may_calls (h : FsAt W fb L s) (hoff : s.off = false) (l : List ByteArray) (hlen : l.length <= 100) (hl : ∀ p ∈ l, PathOk p) {b c : Nat} (hb : b < W.heap.size) (hc : ∀ j p, l[j]? = some p -> W.cell? ⟨b, j, none⟩ = some (.string p)) :
  Calls Tryz.prog 30 #[pt fb, .slice (some ⟨b, 0, none⟩) l.length c] W fun e w' => e = .returned (.int .i64 0) /\ Below W.heap.size W w' := by
 have hd : Hid (Calls Tryz.prog 46 #[pt fb] W fun e w' => e = .returned (.bool false) /\ w' = W) := Lib.hid (by have := dead_calls h; rwa [hoff] at this)
 have hc' := Lib.hid hc
 have hl' := Lib.hid hl
 clear h hoff hc hl
 go_enter Tryz.func30, Tryz.ntmps30
 go_wp2_with (go_at_call 46; refine hd.out.mono ?_; rintro r w1 ⟨rfl, hw⟩; rw [hw]; clear hw)
 go_loopw [11, 6] (fun i _ w' => ∃ k : Nat, k <= l.length /\ i = .int .i64 (k : Int) /\ Below W.heap.size W w') (fun i _ _ => l.length - (intOf i).toNat)
 case atStart => exact ⟨0, Nat.zero_le _, rfl, Below.refl _ _⟩
 case round =>
  obtain ⟨k, hk, rfl, hbel⟩ := hrel
  by_cases hlt : k < l.length
  ·
   have hlt' : (k : Int) < (l.length : Int) := by omega
   have hcell := ((bcell hbel).1 b k hb).trans (hc'.out k l[k] (List.getElem?_eq_getElem hlt))
   have hp := Lib.hid (hl'.out l[k] (List.getElem_mem hlt))
   go_wp2_with (go_at_call 69; refine (hp.out _).mono ?_; rintro r w1 ⟨rfl, hb1⟩)
   go_roundw
   case rel => exact ⟨k + 1, hlt, by go_num, hbel.trans (hb1.mono hbel.size)⟩
   case measure => simp [intOf]; omega
  ·
   have hlt' : ¬ (k : Int) < (l.length : Int) := by omega
   go_wp2
   go_ret
   exact ⟨rfl, hbel⟩
end
end Go.Proofs
namespace Go.Proofs
open Go.RowKit Go.Ev Go.Lib
attribute [local go_sem] Oper.semAt_some
section
variable {W : World} {fb : Nat} {L : Lay} {s : St}
theorem may_one (h : FsAt W fb L s) (hoff : s.off = false) {p : ByteArray} (hp : PathOk p) : Calls Tryz.prog 30 #[pt fb, .slice (some ⟨W.heap.size, 0, none⟩) 1 1] (W.alloc (.cells #[.string p] 9)) fun e w' => e = .returned (.int .i64 0) /\ Below W.heap.size W w' := by
 refine (may_calls (h.below (below_alloc W (.cells #[.string p] 9))) hoff [p] (by simp) (fun q hq => by rw [List.mem_singleton.1 hq]; exact hp) (b := W.heap.size) (c := 1) (by simp) ?_).mono fun e w' ⟨h1, h2⟩ => ⟨h1, (below_alloc W _).trans (h2.mono (by simp))⟩
 intro j q hq
 match j, hq with
 | 0, hq =>
  obtain rfl : p = q := by simpa using hq
  rw [Lib.cell_of_heap (heap_alloc_new W _)]
  rfl
theorem may_two (h : FsAt W fb L s) (hoff : s.off = false) {p q : ByteArray} (hp : PathOk p) (hq : PathOk q) : Calls Tryz.prog 30 #[pt fb, .slice (some ⟨W.heap.size, 0, none⟩) 2 2] (W.alloc (.cells #[.string p, .string q] 9)) fun e w' => e = .returned (.int .i64 0) /\ Below W.heap.size W w' := by
 refine (may_calls (h.below (below_alloc W (.cells #[.string p, .string q] 9))) hoff [p, q] (by simp) (fun r hr => by rcases List.mem_cons.1 hr with rfl | hr; exact hp; rw [List.mem_singleton.1 hr]; exact hq) (b := W.heap.size) (c := 2) (by simp) ?_).mono fun e w' ⟨h1, h2⟩ => ⟨h1, (below_alloc W _).trans (h2.mono (by simp))⟩
 intro j r hr
 match j, hr with
 | 0, hr =>
  obtain rfl : p = r := by simpa using hr
  rw [Lib.cell_of_heap (heap_alloc_new W _)]
  rfl
 | 1, hr =>
  obtain rfl : q = r := by simpa using hr
  rw [Lib.cell_of_heap (heap_alloc_new W _)]
  rfl
set_option maxRecDepth 1000000 in
theorem file_yes (h : FsAt W fb L s) (hoff : s.off = false) {p : ByteArray} (hp : PathOk p) (hps : p.size <= 1000) {n : Nat} {d : Nd} (hn : s.now p = some n) (hd : s.nodes[n]? = some d) (hf : d.dir = false) :
  Calls Tryz.prog 75 #[pt fb, .string p] W fun e w' => e = .returned (.tuple #[ni n, .int .i64 0]) /\ Below W.heap.size W w' := by
 have hm := Lib.hid (may_one h hoff hp)
 have hH := Lib.hid h
 have hX := Lib.hid (And.intro hps (And.intro hn (And.intro hd hf)))
 clear h hoff hp hps hn hd hf
 go_enter Tryz.func75, Tryz.ntmps75
 go_wp2_with (first
  | (go_at_call 30; refine hm.out.mono ?_; rintro r w1 ⟨rfl, hb⟩; have h1 := hH.out.below hb; obtain ⟨g, m, cap, hv, hlt, d0, _, _, _⟩ := h1.node hX.out.2.2.1; have c3 := h1.c3; have c0 := h1.c0; rw [hv] at c3; rw [hX.out.2.2.2] at d0; have h1H := Lib.hid h1.mn; have hbH := Lib.hid hb; clear h1 hb hv)
  | (refine mapF_lookup h1H.out rfl _ _ rfl rfl _ hX.out.1 rfl ?_; intro c hc; have e := hc n hX.out.2.1; subst e; clear hc; rw [hX.out.2.1]))
 go_ret2
 exact ⟨rfl, hbH.out⟩
set_option maxRecDepth 1000000 in
theorem file_no (h : FsAt W fb L s) (hoff : s.off = false) {p : ByteArray} (hp : PathOk p) (hps : p.size <= 1000) (hn : s.now p = none) :
  Calls Tryz.prog 75 #[pt fb, .string p] W fun e w' => e = .returned (.tuple #[.int .i64 0, .int .i64 2]) /\ Below W.heap.size W w' := by
 have hm := Lib.hid (may_one h hoff hp)
 have hH := Lib.hid h
 have hX := Lib.hid (And.intro hps hn)
 clear h hoff hp hps hn
 go_enter Tryz.func75, Tryz.ntmps75
 go_wp2_with (first
  | (go_at_call 30; refine hm.out.mono ?_; rintro r w1 ⟨rfl, hb⟩; have h1 := hH.out.below hb; have c0 := h1.c0; have h1H := Lib.hid h1.mn; have hbH := Lib.hid hb; clear h1 hb)
  | (refine mapF_lookup h1H.out rfl _ _ rfl rfl _ hX.out.1 rfl ?_; intro c hc; clear hc; rw [hX.out.2]))
 go_ret2
 exact ⟨rfl, hbH.out⟩
end
end Go.Proofs
