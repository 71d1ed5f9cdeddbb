/- 'slices.Sorted(maps.Keys(m))', the keys strings: contracts of the two functions. -/
import Derived.Test.YtildicgoadiodaaGreatDoorEvSpecs
import Derived.Shelf.SlIter.Nil
/-! 'slices.Sorted(maps.Keys(m))', the keys strings: contracts of the two functions. -/
namespace Go.Ev
open Go.RowKit Go.Maps Go.Sort
open Go.WideElems (Fit rd rg)
open Go.Proofs (encStr)
variable [Sg]

omit [Sg] in
theorem less_lt : ∀ (x y : List UInt8), less x y = true ↔ x < y
  | [], [] => by simp [less]
  | [], b :: y => by
    have : less [] (b :: y) = true := rfl
    simp [this]
  | a :: x, [] => by
    have : less (a :: x) [] = false := rfl
    simp [this]
  | a :: x, b :: y => by
    have ih := less_lt x y
    show ifB (Nat.beq a.toNat b.toNat) (less x y) (Nat.ble (Nat.succ a.toNat) b.toNat) = true ↔ _
    rw [beq_u8, List.cons_lt_cons_iff]
    cases h : (a == b) with
    | true =>
      rw [beq_iff_eq] at h; subst h
      rw [ifB_true, ih]
      have : ¬ a < a := by simp
      simp
    | false =>
      have hne : a ≠ b := by intro e; subst e; simp at h
      rw [ifB_false, Nat.ble_eq, UInt8.lt_iff_toNat_lt]
      simp [hne, Nat.succ_le_iff]

noncomputable def insS (a : List UInt8) (l : List (List UInt8)) : List (List UInt8) :=
  List.rec (motive := fun _ => List (List UInt8)) [a] (fun b t ih => ifB (less b a) (b :: ih) (a :: b :: t)) l
noncomputable def sortS (l : List (List UInt8)) : List (List UInt8) := List.rec (motive := fun _ => List (List UInt8)) [] (fun a _ ih => insS a ih) l

omit [Sg] in
theorem insS_perm (a : List UInt8) : ∀ l, (insS a l).Perm (a :: l)
  | [] => .refl _
  | b :: t => by
    show (ifB (less b a) (b :: insS a t) (a :: b :: t)).Perm _
    cases less b a with
    | true => exact ((insS_perm a t).cons b).trans (List.Perm.swap a b t)
    | false => exact .refl _
omit [Sg] in
theorem sortS_perm : ∀ l, (sortS l).Perm l
  | [] => .refl _
  | a :: l => (insS_perm a (sortS l)).trans ((sortS_perm l).cons a)

omit [Sg] in
theorem insS_sorted (a : List UInt8) : ∀ l, l.Pairwise (fun x y : List UInt8 => x ≤ y) → (insS a l).Pairwise fun x y : List UInt8 => x ≤ y
  | [], _ => List.pairwise_singleton _ _
  | b :: t, h => by
    show (ifB (less b a) (b :: insS a t) (a :: b :: t)).Pairwise _
    obtain ⟨h1, h2⟩ := List.pairwise_cons.1 h
    cases hl : less b a with
    | true =>
      rw [ifB_true]
      refine List.pairwise_cons.2 ⟨fun x hx => ?_, insS_sorted a t h2⟩
      rcases List.mem_cons.1 ((insS_perm a t).mem_iff.1 hx) with rfl | hx
      · exact List.le_of_lt ((less_lt b x).1 hl)
      · exact h1 x hx
    | false =>
      rw [ifB_false]
      have hab : a ≤ b := by
        rw [← List.not_lt]
        intro e
        rw [(less_lt b a).2 e] at hl; cases hl
      refine List.pairwise_cons.2 ⟨fun x hx => ?_, h⟩
      rcases List.mem_cons.1 hx with rfl | hx
      · exact hab
      · exact List.le_trans hab (h1 x hx)
omit [Sg] in
theorem sortS_sorted : ∀ l, (sortS l).Pairwise fun x y : List UInt8 => x ≤ y
  | [] => List.Pairwise.nil
  | a :: l => insS_sorted a _ (sortS_sorted l)

omit [Sg] in
theorem sortS_eq {ks ss : List (List UInt8)} (h : ss.Perm ks) : ss.mergeSort (fun x y => decide (x ≤ y)) = sortS ks := by
  refine List.Perm.eq_of_pairwise (le := fun x y : List UInt8 => x ≤ y) (fun a b _ _ h1 h2 => List.le_antisymm h1 h2) ?_ (sortS_sorted ks) (((List.mergeSort_perm ss _).trans h).trans (sortS_perm ks).symm)
  have := List.pairwise_mergeSort (le := fun x y : List UInt8 => decide (x ≤ y)) (fun a b c h1 h2 => by
    simp only [decide_eq_true_eq] at h1 h2 ⊢; exact List.le_trans h1 h2) (fun a b => by
    rcases List.le_total a b with h | h <;> simp [h]) ss
  simpa using this

/-! ### maps.Keys -/
noncomputable def sKeys (g : FuncId) (args : List Value) (H : Heap) : Res := bnd (one args) fun x => bnd (mapRef x) fun r => bnd (bump H 1) fun H1 => fN H.next fun id =>
  some (.func (.func g) #[] #[.pointer (some ⟨id, 0, none⟩)], H1.set id (.box (.map r)))

theorem keys_ok {P : Program} {f g : FuncId} {t : TypeId} (he : Enters P f)
    (hw : ∀ (mb : Option Nat) (W : World), Calls P f #[.map mb] W fun e w' => e = .returned (.func (.func g) #[] #[.pointer (some ⟨W.heap.size, 0, none⟩)]) ∧ w' = W.alloc (.cells #[.map mb] t)) : SpecOk P f (sKeys g) := by
  intro args H v H' hs ρ w args' hA hH
  unfold sKeys at hs
  simp only [bnd_eq, fN_eq] at hs
  obtain ⟨x, hx, r, hr, H1, hb, e⟩ := hs
  cases e
  have := one_inv hx; subst this
  have := mapRef_inv hr; subst this
  have hH1 := HR.bump hH hb (fun b => H.next ≤ b)
  have hid : ρ H.next = none := by
    cases h : ρ H.next with
    | none => rfl
    | some e => exact absurd (hH.dom _ _ h) (Nat.lt_irrefl _)
  have hlt : H.next < H1.next := by rw [(bump_inv hb).2.1]; omega
  match args', hA with
  | [x'], .cons h1 .nil =>
    have hx' : ∃ mb, x' = .map mb := by cases h1 <;> exact ⟨_, rfl⟩
    obtain ⟨mb, rfl⟩ := hx'
    refine spec_calls he (Calls.mono (hw mb w) ?_)
    rintro e w' ⟨rfl, rfl⟩
    obtain ⟨hH', hSt⟩ := hH1.1.fresh (S := fun b => H.next ≤ b) hid hlt (x := .box (.map r)) (e := ⟨w.heap.size, 0, 0, 0, 0⟩) (w' := w.alloc (.cells #[.map mb] t)) (Nat.le_refl _) (Nat.le_refl _) rfl rfl rfl (by simp) (by
      show BR P _ _ _ (w.alloc _).heap[w.heap.size]?
      rw [heap_alloc_new]; exact .box rfl (h1.mono (by intro b e hb; unfold ins; rw [if_neg]; exact hb; rintro rfl; rw [hid] at hb; cases hb))) (fun k hk => Below.heap_alloc _ _ _ hk)
    refine ⟨_, rfl, _, .func _ .nil (.cons (.ptr (ins_same _ _ _)) .nil), hH', hH1.2.trans hSt⟩

/-! ### slices.Sorted -/
noncomputable def boxOf : Blk → Option Value
  | .box v => some v
  | _ => none
noncomputable def allShort (l : List (List UInt8)) : Bool := List.rec (motive := fun _ => Bool) true (fun a _ ih => ifB (Nat.ble (lenL a) 1099511627776) ih false) l
omit [Sg] in
theorem allShort_eq : ∀ {l : List (List UInt8)}, allShort l = true → ∀ k ∈ l, k.length ≤ 1099511627776
  | [], _, _, h => by cases h
  | a :: l, h, k, hk => by
    have h' : ifB (Nat.ble (lenL a) 1099511627776) (allShort l) false = true := h
    cases hb : Nat.ble (lenL a) 1099511627776 with
    | false => rw [hb] at h'; cases h'
    | true =>
      rw [hb, ifB_true] at h'
      have := Nat.le_of_ble_eq_true hb
      rw [lenL_eq] at this
      rcases List.mem_cons.1 hk with rfl | hk
      · exact this
      · exact allShort_eq h' k hk
noncomputable def sSorted (g : FuncId) (elem : TypeId) (args : List Value) (H : Heap) : Res := bnd (one args) fun x => bnd (fnOf x) fun p => chk (Nat.beq p.1 g && nilB p.2.1) (bnd (one p.2.2) fun c => bnd (addrOf c) fun a => chk (Nat.beq a.off 0) (bnd (H.get a.block) fun b =>
  bnd (boxOf b) fun m => bnd (mapRef m) fun r => bnd r fun r => bnd (mapAt H r) fun es => bnd (strKeysOf es.1) fun ks => chk (goodMap es.1 es.2 ks && Nat.ble (lenL es.1) 1048576 && allShort ks)
    (ifB (nilB ks) (some (.slice none 0 0, H)) (bnd (bump H 1) fun H1 => fN H.next fun id => fN (lenL ks) fun n => some (.slice (some ⟨id, 0, none⟩) n U, H1.set id (.cells (mapL str (sortS ks)) elem .rw))))))

def readAny : Value → Option (DataW Unit × List MemPlace) := fun _ => some (.lit (.bool false), [])

omit [Sg] in
theorem ownsMap_of {P : Program} {elem : TypeId} (hel : P.underlying elem = some .string) {w : World} {b : Nat} {es' : Array MapEntry} {clock : Nat} {ks : List (List UInt8)} (hw : w.heap[b]? = some (.map es' clock)) (hst : MapKept.Stamped es' clock)
    (hk : es'.toList.map (·.key) = ks.map str) (hs : ∀ k ∈ ks, k.length ≤ 1099511627776) (hn : es'.size ≤ 1048576) :
    ∃ D0 : DataW Unit, w.ownsMap P elem readAny b es'.size D0 ∧ Maps.size D0 = es'.size ∧ (strKeys D0).Perm ks := by
  have hread : ∀ x ∈ es'.toList, ∃ k ∈ ks, x.key = str k ∧ rd P elem readAny x = some (.string k, .lit (.bool false)) := by
    intro x hx
    have : x.key ∈ es'.toList.map (·.key) := List.mem_map.2 ⟨x, hx, rfl⟩
    rw [hk] at this
    obtain ⟨k, hk1, e⟩ := List.mem_map.1 this
    refine ⟨k, hk1, e.symm, ?_⟩
    unfold rd
    rw [← e]
    have hsz : (⟨⟨k⟩⟩ : ByteArray).size ≤ maxLen := by
      have := hs k hk1
      show k.length ≤ maxLen
      unfold maxLen; omega
    have : keyOf P elem (str k) = some (.string k) := Go.WideMaps.keyOf_string_mk hel hsz
    rw [this]; rfl
  have hrg : ∀ l : List MapEntry, (∀ x ∈ l, x ∈ es'.toList) → ∀ kl : List (List UInt8), l.map (·.key) = kl.map str → (l.map (rg P elem readAny)).map (fun p => Go.strOf p.1) = kl := by
    intro l
    induction l with
    | nil => intro _ kl h; cases kl with
      | nil => rfl
      | cons _ _ => cases h
    | cons x l ih =>
      intro hm kl h
      cases kl with
      | nil => cases h
      | cons k kl =>
        rw [List.map_cons, List.map_cons] at h
        obtain ⟨h1, h2⟩ := List.cons.inj h
        obtain ⟨k', _, e, hr⟩ := hread x (hm x (by simp))
        rw [List.map_cons, List.map_cons, ih (fun y hy => hm y (by simp [hy])) kl h2]
        congr 1
        unfold rg
        rw [hr]
        show k' = k
        rw [h1] at e
        exact (str_inj e).symm
  refine ⟨_, ⟨es', clock, hw, ⟨?_, hst, fun x hx => ?_⟩, Nat.le_refl _, rfl⟩, ?_, ?_⟩
  · unfold maxLen; omega
  · obtain ⟨k, _, _, h⟩ := hread x hx
    exact ⟨_, h⟩
  · rw [Maps.size_eq, length_sorted]; simp
  · show (List.map (fun p : Lit × DataW Unit => Go.strOf p.1) _).Perm ks
    have h1 := (Go.WideShapes.sorted_perm (es'.toList.map (rg P elem readAny))).map (fun p => Go.strOf p.1)
    rw [hrg es'.toList (fun _ h => h) ks hk] at h1
    exact h1

omit [Sg] in
theorem mapL_str (l : List (List UInt8)) : mapL str l = l.map str := mapL_eq _ _

theorem VL_strs {ρ : Map} : ∀ l : List (List UInt8), VL ρ (l.map str) (l.map str)
  | [] => .nil
  | _ :: l => .cons (.string _) (VL_strs l)

theorem EL.len {ρ : Map} {l l' : List MapEntry} (h : EL ρ l l') : l.length = l'.length := by
  induction h with
  | nil => rfl
  | cons _ _ _ ih => simp [ih]

theorem sorted_ok {P : Program} {f g : FuncId} {elem : TypeId} {i : TypeInfo} (hel : P.underlying elem = some .string) (hi : P.info? elem = some i) (hi1 : i.size = 1) (he : Enters P f)
    (hw : ∀ (b nn Bm : Nat) (D0 : DataW Unit) (R : Value → Option (DataW Unit × List MemPlace)) (w : World), w.cell? ⟨Bm, 0, none⟩ = some (.map (some b)) → w.ownsMap P elem R b nn D0 → Maps.size D0 ≤ maxLen → Maps.size D0 * 16 ≤ 140737488355328 →
      Calls P f #[.func (.func g) #[] #[.pointer (some ⟨Bm, 0, none⟩)]] w fun e w' => ∃ (v : Value) (ss : List (List UInt8)), e = .returned v ∧ ss.Perm (strKeys D0) ∧
        w'.ownsRow w.heap.size elem 1 v ss.length ((ss.mergeSort (fun x y => decide (x ≤ y))).map encStr) ∧ (v = .slice none 0 0 ↔ ss = []) ∧ Below w.heap.size w w') : SpecOk P f (sSorted g elem) := by
  intro args H v H' hs ρ w args' hA hH
  unfold sSorted at hs
  simp only [bnd_eq, chk_eq, Bool.and_eq_true] at hs
  obtain ⟨x, hx, p, hp, ⟨hg, hnil⟩, c, hc, a, ha, hoff, blk, hblk, m, hm, r0, hr0, r, hr, es, hes, ks, hks, ⟨⟨hgood, hlen⟩, hshort⟩, h⟩ := hs
  have := one_inv hx; subst this
  have := fnOf_inv hp; subst this
  obtain ⟨g', fs, cs⟩ := p
  dsimp only at hg hnil hc hA
  have := Nat.eq_of_beq_eq_true hg; subst this
  rw [nilB_eq, List.isEmpty_iff] at hnil; subst hnil
  have := one_inv hc; subst this
  rw [addrOf_eq] at ha; subst ha
  have hoff' := Nat.eq_of_beq_eq_true hoff
  have hb : blk = .box m := by
    cases blk <;> first | (cases hm; done) | (cases hm; rfl)
  subst hb hr
  have := mapRef_inv hr0; subst this
  match args', hA with
  | [_], .cons (.func _ .nil (.cons hptr .nil)) .nil =>
    obtain ⟨a', rfl, e, he', hsp, rfl⟩ := hptr.ptrInv
    have hbr := hH.blk _ _ _ hblk he'
    generalize hgb : w.heap[e.B]? = gb at hbr
    cases hbr with
    | box hb0 hV =>
      rename_i mv t fr
      cases hV with
      | map hmr =>
        rename_i em
        obtain ⟨_, es', hwm, hEL⟩ := mapAt_ok hH hes hmr
        have hst := goodMap_ok hEL hks hgood
        have hkeys := strKeysOf_eq hEL hks
        have hlen' := Nat.le_of_ble_eq_true hlen
        rw [lenL_eq] at hlen'
        have hsz : es'.size ≤ 1048576 := by have := EL.len hEL; simp at this; omega
        obtain ⟨D0, hown, hsize, hperm⟩ := ownsMap_of hel hwm hst hkeys (allShort_eq hshort) hsz
        have hcell : w.cell? ⟨e.B, 0, none⟩ = some (.map (some em.B)) := by rw [cell?_of hgb]; rfl
        have haddr : (⟨e.B, e.base + a.off, none⟩ : Addr) = ⟨e.B, 0, none⟩ := by rw [hb0, hoff']
        rw [haddr]
        refine spec_calls he (Calls.mono (hw em.B es'.size e.B D0 readAny w hcell hown (by rw [hsize]; unfold maxLen; omega) (by rw [hsize]; omega)) ?_)
        rintro e1 w' ⟨v', ss, rfl, hp1, hrow, hnilv, hbel⟩
        have hpk := hp1.trans hperm
        have hsort := sortS_eq hpk
        refine ⟨v', rfl, ?_⟩
        cases hn : nilB ks with
        | true =>
          rw [hn, ifB_true] at h
          cases h
          rw [nilB_eq, List.isEmpty_iff] at hn
          subst hn
          have : ss = [] := List.Perm.eq_nil hpk
          rw [hnilv.2 this]
          exact below_post hH rfl hbel
        | false =>
          rw [hn, ifB_false, bnd_eq] at h
          obtain ⟨H1, hb1, h⟩ := h
          simp only [fN_eq] at h
          cases h
          have hne : ss ≠ [] := by
            rintro rfl
            have := List.Perm.eq_nil hpk.symm
            subst this
            simp [nilB_eq] at hn
          have hH1 := HR.bump hH hb1 (fun b => H.next ≤ b)
          have hid : ρ H.next = none := by
            cases h : ρ H.next with
            | none => rfl
            | some e => exact absurd (hH.dom _ _ h) (Nat.lt_irrefl _)
          have hlt : H.next < H1.next := by rw [(bump_inv hb1).2.1]; omega
          rcases hrow.2 with ⟨hv0, _⟩ | ⟨gg, cap, cur, hv, hbase, hheap, hncap, hcap, hcur, htake⟩
          · exact absurd (hnilv.1 hv0) hne
          · subst hv
            have hlenks : ss.length = ks.length := hpk.length_eq
            have hxs : (ss.mergeSort (fun x y => decide (x ≤ y))).map encStr = (sortS ks).map str := by rw [hsort]; rfl
            rw [hxs] at htake
            rw [Nat.mul_one] at htake hcur
            have hwin : win cur ⟨gg, 0, ss.length, cap, 1⟩ = (sortS ks).map str := by
              unfold win
              rw [List.drop_zero]; exact htake
            obtain ⟨hH', hSt⟩ := hH1.1.fresh (S := fun b => H.next ≤ b) hid hlt (x := .cells (mapL str (sortS ks)) elem .rw) (e := ⟨gg, 0, ss.length, cap, 1⟩) (w' := w') (Nat.le_refl _) hbase hbel.os hbel.tape hbel.output hbel.size (by
              show BR P _ _ _ w'.heap[gg]?
              rw [hheap]
              refine .cells hi hi1 ?_ hncap (by show cur.size = 0 + cap; omega) (fun _ j _ => by dsimp only; omega) ?_ ?_ (Nat.mod_one _)
              · rw [mapL_str, List.length_map, (sortS_perm ks).length_eq]; exact hlenks.symm
              · rw [hwin, mapL_str]; exact VL_strs _
              · rw [hwin]
                intro v hv
                obtain ⟨s, _, rfl⟩ := List.mem_map.1 hv
                rfl) (fun k hk => hbel.block k hk)
            refine ⟨_, ?_, hH', hH1.2.trans hSt⟩
            rw [lenL_eq, ← hlenks]
            have := V.sliceU (ρ := ins ρ H.next ⟨gg, 0, ss.length, cap, 1⟩) (b := H.next) (o := 0) (n := ss.length) (c := cap) (ins_same _ _ _) hncap (by show 0 + cap * 1 = cap; omega)
            exact this
end Go.Ev
