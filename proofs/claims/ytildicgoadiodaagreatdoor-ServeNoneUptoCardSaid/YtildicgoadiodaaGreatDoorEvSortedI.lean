/- 'slices.Sorted(maps.Keys(m))', the keys ints that are not below 0. -/
import Derived.Test.YtildicgoadiodaaGreatDoorEvSorted
import Derived.Shelf.SlIterI.Nil
/-! 'slices.Sorted(maps.Keys(m))', the keys ints that are not below 0. -/
namespace Go.Ev
open Go.RowKit Go.Maps Go.Sort
open Go.WideElems (Fit rd rg)
variable [Sg]

def natOf : Value → Option Nat
  | .int .i64 (.ofNat n) => some n
  | _ => none
def intV (n : Nat) : Value := .int .i64 (.ofNat n)
omit [Sg] in
theorem natOf_eq {v : Value} {n : Nat} (h : natOf v = some n) : v = intV n := by
  unfold natOf at h
  split at h
  · cases h; rfl
  · cases h
noncomputable def intKeysOf (l : List MapEntry) : Option (List Nat) :=
  List.rec (motive := fun _ => Option (List Nat)) (some []) (fun e _ ih => bnd (natOf e.key) fun s => bnd ih fun r => some (s :: r)) l
noncomputable def memN (s : Nat) (l : List Nat) : Bool := List.rec (motive := fun _ => Bool) false (fun a _ ih => ifB (Nat.beq s a) true ih) l
noncomputable def distinctN (l : List Nat) : Bool := List.rec (motive := fun _ => Bool) true (fun a t ih => ifB (memN a t) false ih) l

omit [Sg] in
theorem memN_eq (s : Nat) : ∀ l, memN s l = true ↔ s ∈ l
  | [] => by simp [memN]
  | a :: l => by
    show ifB (Nat.beq s a) true (memN s l) = true ↔ _
    cases h : Nat.beq s a with
    | true => rw [ifB_true]; have := Nat.eq_of_beq_eq_true h; subst this; simp
    | false =>
      rw [ifB_false, memN_eq s l]
      have hne : s ≠ a := by rintro rfl; rw [Nat.beq_refl] at h; cases h
      simp [hne]
omit [Sg] in
theorem distinctN_eq : ∀ {l}, distinctN l = true → l.Nodup
  | [], _ => List.nodup_nil
  | a :: l, h => by
    have h' : ifB (memN a l) false (distinctN l) = true := h
    cases hm : memN a l with
    | true => rw [hm] at h'; cases h'
    | false =>
      rw [hm, ifB_false] at h'
      refine List.nodup_cons.2 ⟨fun hmem => ?_, distinctN_eq h'⟩
      rw [(memN_eq a l).2 hmem] at hm; cases hm
theorem intKeysOf_eq {ρ : Map} : ∀ {l l' : List MapEntry} {ks : List Nat}, EL ρ l l' → intKeysOf l = some ks → l'.map (·.key) = ks.map intV
  | _, _, _, .nil, h => by cases h; rfl
  | _, _, ks, .cons (k := k) (n := n) (v := v) (l := l) hk hv ht, h => by
    have h' : bnd (natOf k) (fun s => bnd (intKeysOf l) fun r => some (s :: r)) = some ks := h
    simp only [bnd_eq] at h'
    obtain ⟨s, hs, r, hr, e⟩ := h'
    cases e
    have := natOf_eq hs
    subst this
    rw [List.map_cons, List.map_cons, intKeysOf_eq ht hr]
    congr 1
    exact plain_inv rfl hk
omit [Sg] in
theorem intV_inj {a b : Nat} (h : intV a = intV b) : a = b := by
  unfold intV at h
  injection h with _ h
  exact Int.ofNat.inj h
noncomputable def goodMapI (es : List MapEntry) (clock : Nat) (ks : List Nat) : Bool := ascB clock es 0 && distinctN ks
theorem goodMapI_ok {ρ : Map} {l : List MapEntry} {es' : Array MapEntry} {clock : Nat} {ks : List Nat} (hE : EL ρ l es'.toList) (hk : intKeysOf l = some ks) (h : goodMapI l clock ks = true) : MapKept.Stamped es' clock := by
  unfold goodMapI at h
  rw [Bool.and_eq_true] at h
  obtain ⟨h1, h2⟩ := ascB_eq hE h.1
  refine ⟨fun x hx => (h1 x hx).2, h2, ?_⟩
  rw [intKeysOf_eq hE hk]
  have := distinctN_eq h.2
  exact this.map intV (fun a b hab h => hab (intV_inj h))

noncomputable def insN (a : Nat) (l : List Nat) : List Nat :=
  List.rec (motive := fun _ => List Nat) [a] (fun b t ih => ifB (Nat.ble (Nat.succ b) a) (b :: ih) (a :: b :: t)) l
noncomputable def sortN (l : List Nat) : List Nat := List.rec (motive := fun _ => List Nat) [] (fun a _ ih => insN a ih) l
omit [Sg] in
theorem insN_perm (a : Nat) : ∀ l, (insN a l).Perm (a :: l)
  | [] => .refl _
  | b :: t => by
    show (ifB (Nat.ble (Nat.succ b) a) (b :: insN a t) (a :: b :: t)).Perm _
    cases Nat.ble (Nat.succ b) a with
    | true => exact ((insN_perm a t).cons b).trans (List.Perm.swap a b t)
    | false => exact .refl _
omit [Sg] in
theorem sortN_perm : ∀ l, (sortN l).Perm l
  | [] => .refl _
  | a :: l => (insN_perm a (sortN l)).trans ((sortN_perm l).cons a)
omit [Sg] in
theorem insN_sorted (a : Nat) : ∀ l, l.Pairwise (fun x y : Nat => x ≤ y) → (insN a l).Pairwise fun x y : Nat => x ≤ y
  | [], _ => List.pairwise_singleton _ _
  | b :: t, h => by
    show (ifB (Nat.ble (Nat.succ b) a) (b :: insN a t) (a :: b :: t)).Pairwise _
    obtain ⟨h1, h2⟩ := List.pairwise_cons.1 h
    cases hl : Nat.ble (Nat.succ b) a with
    | true =>
      rw [ifB_true]
      have := Nat.le_of_ble_eq_true hl
      refine List.pairwise_cons.2 ⟨fun x hx => ?_, insN_sorted a t h2⟩
      rcases List.mem_cons.1 ((insN_perm a t).mem_iff.1 hx) with rfl | hx
      · omega
      · exact h1 x hx
    | false =>
      rw [ifB_false]
      have hab : a ≤ b := by
        rcases Nat.lt_or_ge b a with h | h
        · rw [Nat.ble_eq_true_of_le h] at hl; cases hl
        · exact h
      refine List.pairwise_cons.2 ⟨fun x hx => ?_, h⟩
      rcases List.mem_cons.1 hx with rfl | hx
      · exact hab
      · exact Nat.le_trans hab (h1 x hx)
omit [Sg] in
theorem sortN_sorted : ∀ l, (sortN l).Pairwise fun x y : Nat => x ≤ y
  | [] => List.Pairwise.nil
  | a :: l => insN_sorted a _ (sortN_sorted l)
omit [Sg] in
theorem sortN_eq {ks : List Nat} {ss : List Int} (h : ss.Perm (ks.map Int.ofNat)) : ss.mergeSort (fun x y => decide (x ≤ y)) = (sortN ks).map Int.ofNat := by
  refine List.Perm.eq_of_pairwise (le := fun x y : Int => x ≤ y) (fun a b _ _ h1 h2 => Int.le_antisymm h1 h2) ?_ ?_ (((List.mergeSort_perm ss _).trans h).trans ((sortN_perm ks).symm.map _))
  · have := List.pairwise_mergeSort (le := fun x y : Int => decide (x ≤ y)) (fun a b c h1 h2 => by
      simp only [decide_eq_true_eq] at h1 h2 ⊢; omega) (fun a b => by
      rcases Int.le_total a b with h | h <;> simp [h]) ss
    simpa using this
  · rw [List.pairwise_map]
    exact (sortN_sorted ks).imp fun h => Int.ofNat_le.2 h

noncomputable def allSmall (l : List Nat) : Bool := List.rec (motive := fun _ => Bool) true (fun a _ ih => ifB (Nat.ble a 4611686018427387904) ih false) l
omit [Sg] in
theorem allSmall_eq : ∀ {l : List Nat}, allSmall l = true → ∀ k ∈ l, k ≤ 4611686018427387904
  | [], _, _, h => by cases h
  | a :: l, h, k, hk => by
    have h' : ifB (Nat.ble a 4611686018427387904) (allSmall l) false = true := h
    cases hb : Nat.ble a 4611686018427387904 with
    | false => rw [hb] at h'; cases h'
    | true =>
      rw [hb, ifB_true] at h'
      rcases List.mem_cons.1 hk with rfl | hk
      · exact Nat.le_of_ble_eq_true hb
      · exact allSmall_eq h' k hk

noncomputable def sSortedI (g : FuncId) (elem : TypeId) (args : List Value) (H : Heap) : Res := bnd (one args) fun x => bnd (fnOf x) fun p => chk (Nat.beq p.1 g && nilB p.2.1) (bnd (one p.2.2) fun c => bnd (addrOf c) fun a => chk (Nat.beq a.off 0) (bnd (H.get a.block) fun b =>
  bnd (boxOf b) fun m => bnd (mapRef m) fun r => bnd r fun r => bnd (mapAt H r) fun es => bnd (intKeysOf es.1) fun ks => chk (goodMapI es.1 es.2 ks && Nat.ble (lenL es.1) 1048576 && allSmall ks)
    (ifB (nilB ks) (some (.slice none 0 0, H)) (bnd (bump H 1) fun H1 => fN H.next fun id => fN (lenL ks) fun n => some (.slice (some ⟨id, 0, none⟩) n U, H1.set id (.cells (mapL intV (sortN ks)) elem .rw))))))

omit [Sg] in
theorem ownsMapI_of {P : Program} {elem : TypeId} (hel : P.underlying elem = some (.int .i64)) {w : World} {b : Nat} {es' : Array MapEntry} {clock : Nat} {ks : List Nat} (hw : w.heap[b]? = some (.map es' clock)) (hst : MapKept.Stamped es' clock)
    (hk : es'.toList.map (·.key) = ks.map intV) (hs : ∀ k ∈ ks, k ≤ 4611686018427387904) (hn : es'.size ≤ 1048576) :
    ∃ D0 : DataW Unit, w.ownsMap P elem readAny b es'.size D0 ∧ Maps.size D0 = es'.size ∧ (Go.intKeys D0).Perm (ks.map Int.ofNat) := by
  have hread : ∀ x ∈ es'.toList, ∃ k ∈ ks, x.key = intV k ∧ rd P elem readAny x = some (.int .i64 (Int.ofNat k), .lit (.bool false)) := by
    intro x hx
    have : x.key ∈ es'.toList.map (·.key) := List.mem_map.2 ⟨x, hx, rfl⟩
    rw [hk] at this
    obtain ⟨k, hk1, e⟩ := List.mem_map.1 this
    refine ⟨k, hk1, e.symm, ?_⟩
    unfold rd
    rw [← e]
    have hk2 := hs k hk1
    have hwf : (Lit.int .i64 (Int.ofNat k)).wf = true := by
      have h1 : IntKind.min .i64 = -9223372036854775808 := by decide
      have h2 : IntKind.max .i64 = 9223372036854775807 := by decide
      simp only [Lit.wf, h1, h2, Bool.and_eq_true, decide_eq_true_eq, Int.ofNat_eq_natCast]
      omega
    have : keyOf P elem (intV k) = some (.int .i64 (Int.ofNat k)) := Go.Maps.keyOf_int_mk hel hwf
    rw [this]; rfl
  have hrg : ∀ l : List MapEntry, (∀ x ∈ l, x ∈ es'.toList) → ∀ kl : List Nat, l.map (·.key) = kl.map intV → (l.map (rg P elem readAny)).map (fun p => Go.intOf p.1) = kl.map Int.ofNat := by
    intro l
    induction l with
    | nil => intro _ kl h; cases kl with
      | nil => rfl
      | cons _ _ => cases h
    | cons x l ih =>
      intro hm kl h
      cases kl with
      | nil => cases h
      | cons k kl =>
        rw [List.map_cons, List.map_cons] at h
        obtain ⟨h1, h2⟩ := List.cons.inj h
        obtain ⟨k', _, e, hr⟩ := hread x (hm x (by simp))
        rw [List.map_cons, List.map_cons, ih (fun y hy => hm y (by simp [hy])) kl h2, List.map_cons]
        congr 1
        unfold rg
        rw [hr]
        show Int.ofNat k' = Int.ofNat k
        rw [h1] at e
        rw [intV_inj e]
  refine ⟨_, ⟨es', clock, hw, ⟨?_, hst, fun x hx => ?_⟩, Nat.le_refl _, rfl⟩, ?_, ?_⟩
  · unfold maxLen; omega
  · obtain ⟨k, _, _, h⟩ := hread x hx
    exact ⟨_, h⟩
  · rw [Maps.size_eq, length_sorted]; simp
  · show (List.map (fun p : Lit × DataW Unit => Go.intOf p.1) _).Perm (ks.map Int.ofNat)
    have h1 := (Go.WideShapes.sorted_perm (es'.toList.map (rg P elem readAny))).map (fun p => Go.intOf p.1)
    rw [hrg es'.toList (fun _ h => h) ks hk] at h1
    exact h1

omit [Sg] in
theorem mapL_intV (l : List Nat) : mapL intV l = l.map intV := mapL_eq _ _
theorem VL_ints {ρ : Map} : ∀ l : List Nat, VL ρ (l.map intV) (l.map intV)
  | [] => .nil
  | _ :: l => .cons (.int _ _) (VL_ints l)

theorem sortedI_ok {P : Program} {f g : FuncId} {elem : TypeId} {i : TypeInfo} (hel : P.underlying elem = some (.int .i64)) (hi : P.info? elem = some i) (hi1 : i.size = 1) (he : Enters P f)
    (hw : ∀ (b nn Bm : Nat) (D0 : DataW Unit) (R : Value → Option (DataW Unit × List MemPlace)) (w : World), w.cell? ⟨Bm, 0, none⟩ = some (.map (some b)) → w.ownsMap P elem R b nn D0 → Maps.size D0 ≤ maxLen → Maps.size D0 * 8 ≤ 140737488355328 →
      Calls P f #[.func (.func g) #[] #[.pointer (some ⟨Bm, 0, none⟩)]] w fun e w' => ∃ (v : Value) (ss : List Int), e = .returned v ∧ ss.Perm (Go.intKeys D0) ∧
        w'.ownsRow w.heap.size elem 1 v ss.length ((ss.mergeSort (fun x y => decide (x ≤ y))).map encZ) ∧ (v = .slice none 0 0 ↔ ss = []) ∧ Below w.heap.size w w') : SpecOk P f (sSortedI g elem) := by
  intro args H v H' hs ρ w args' hA hH
  unfold sSortedI at hs
  simp only [bnd_eq, chk_eq, Bool.and_eq_true] at hs
  obtain ⟨x, hx, p, hp, ⟨hg, hnil⟩, c, hc, a, ha, hoff, blk, hblk, m, hm, r0, hr0, r, hr, es, hes, ks, hks, ⟨⟨hgood, hlen⟩, hshort⟩, h⟩ := hs
  have := one_inv hx; subst this
  have := fnOf_inv hp; subst this
  obtain ⟨g', fs, cs⟩ := p
  dsimp only at hg hnil hc hA
  have := Nat.eq_of_beq_eq_true hg; subst this
  rw [nilB_eq, List.isEmpty_iff] at hnil; subst hnil
  have := one_inv hc; subst this
  rw [addrOf_eq] at ha; subst ha
  have hoff' := Nat.eq_of_beq_eq_true hoff
  have hb : blk = .box m := by
    cases blk <;> first | (cases hm; done) | (cases hm; rfl)
  subst hb hr
  have := mapRef_inv hr0; subst this
  match args', hA with
  | [_], .cons (.func _ .nil (.cons hptr .nil)) .nil =>
    obtain ⟨a', rfl, e, he', hsp, rfl⟩ := hptr.ptrInv
    have hbr := hH.blk _ _ _ hblk he'
    generalize hgb : w.heap[e.B]? = gb at hbr
    cases hbr with
    | box hb0 hV =>
      rename_i mv t fr
      cases hV with
      | map hmr =>
        rename_i em
        obtain ⟨_, es', hwm, hEL⟩ := mapAt_ok hH hes hmr
        have hst := goodMapI_ok hEL hks hgood
        have hkeys := intKeysOf_eq hEL hks
        have hlen' := Nat.le_of_ble_eq_true hlen
        rw [lenL_eq] at hlen'
        have hsz : es'.size ≤ 1048576 := by have := EL.len hEL; simp at this; omega
        obtain ⟨D0, hown, hsize, hperm⟩ := ownsMapI_of hel hwm hst hkeys (allSmall_eq hshort) hsz
        have hcell : w.cell? ⟨e.B, 0, none⟩ = some (.map (some em.B)) := by rw [cell?_of hgb]; rfl
        have haddr : (⟨e.B, e.base + a.off, none⟩ : Addr) = ⟨e.B, 0, none⟩ := by rw [hb0, hoff']
        rw [haddr]
        refine spec_calls he (Calls.mono (hw em.B es'.size e.B D0 readAny w hcell hown (by rw [hsize]; unfold maxLen; omega) (by rw [hsize]; omega)) ?_)
        rintro e1 w' ⟨v', ss, rfl, hp1, hrow, hnilv, hbel⟩
        have hpk := hp1.trans hperm
        have hsort := sortN_eq hpk
        refine ⟨v', rfl, ?_⟩
        cases hn : nilB ks with
        | true =>
          rw [hn, ifB_true] at h
          cases h
          rw [nilB_eq, List.isEmpty_iff] at hn
          subst hn
          have : ss = [] := List.Perm.eq_nil hpk
          rw [hnilv.2 this]
          exact below_post hH rfl hbel
        | false =>
          rw [hn, ifB_false, bnd_eq] at h
          obtain ⟨H1, hb1, h⟩ := h
          simp only [fN_eq] at h
          cases h
          have hne : ss ≠ [] := by
            rintro rfl
            have := List.Perm.eq_nil hpk.symm
            rw [List.map_eq_nil_iff] at this
            subst this
            simp [nilB_eq] at hn
          have hH1 := HR.bump hH hb1 (fun b => H.next ≤ b)
          have hid : ρ H.next = none := by
            cases h : ρ H.next with
            | none => rfl
            | some e => exact absurd (hH.dom _ _ h) (Nat.lt_irrefl _)
          have hlt : H.next < H1.next := by rw [(bump_inv hb1).2.1]; omega
          rcases hrow.2 with ⟨hv0, _⟩ | ⟨gg, cap, cur, hv, hbase, hheap, hncap, hcap, hcur, htake⟩
          · exact absurd (hnilv.1 hv0) hne
          · subst hv
            have hlenks : ss.length = ks.length := by have := hpk.length_eq; rwa [List.length_map] at this
            have hxs : (ss.mergeSort (fun x y => decide (x ≤ y))).map encZ = (sortN ks).map intV := by rw [hsort, List.map_map]; rfl
            rw [hxs] at htake
            rw [Nat.mul_one] at htake hcur
            have hwin : win cur ⟨gg, 0, ss.length, cap, 1⟩ = (sortN ks).map intV := by
              unfold win
              rw [List.drop_zero]; exact htake
            obtain ⟨hH', hSt⟩ := hH1.1.fresh (S := fun b => H.next ≤ b) hid hlt (x := .cells (mapL intV (sortN ks)) elem .rw) (e := ⟨gg, 0, ss.length, cap, 1⟩) (w' := w') (Nat.le_refl _) hbase hbel.os hbel.tape hbel.output hbel.size (by
              show BR P _ _ _ w'.heap[gg]?
              rw [hheap]
              refine .cells hi hi1 ?_ hncap (by show cur.size = 0 + cap; omega) (fun _ j _ => by dsimp only; omega) ?_ ?_ (Nat.mod_one _)
              · rw [mapL_intV, List.length_map, (sortN_perm ks).length_eq]; exact hlenks.symm
              · rw [hwin, mapL_intV]; exact VL_ints _
              · rw [hwin]
                intro v hv
                obtain ⟨s, _, rfl⟩ := List.mem_map.1 hv
                rfl) (fun k hk => hbel.block k hk)
            refine ⟨_, ?_, hH', hH1.2.trans hSt⟩
            rw [lenL_eq, ← hlenks]
            have := V.sliceU (ρ := ins ρ H.next ⟨gg, 0, ss.length, cap, 1⟩) (b := H.next) (o := 0) (n := ss.length) (c := cap) (ins_same _ _ _) hncap (by show 0 + cap * 1 = cap; omega)
            exact this
end Go.Ev
