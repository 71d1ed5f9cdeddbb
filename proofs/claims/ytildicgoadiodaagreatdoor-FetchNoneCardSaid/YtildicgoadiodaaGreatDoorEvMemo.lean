/- Contracts out of tables: a function that looks at plain values alone is run once for each. -/
import Derived.Test.YtildicgoadiodaaGreatDoorEvEnv
/-! Contracts out of tables: a function that looks at plain values alone is run once for each. -/
namespace Go.Ev
open Go.RowKit
variable [Sg]

/-- A value without blocks. -/
noncomputable def flat (v : Value) : Bool :=
  match v with
  | .agg cs => allPlain cs.toList
  | .tuple cs => allPlain cs.toList
  | v => plain v

theorem plain_inv {ρ : Map} {v v' : Value} (hp : plain v = true) (h : V ρ v v') : v' = v := by
  cases h <;> first | rfl | (cases hp; done)

theorem allPlain_inv {ρ : Map} : ∀ {l l' : List Value}, allPlain l = true → VL ρ l l' → l' = l
  | [], _, _, .nil => rfl
  | x :: l, x' :: l', h, .cons hx ht => by
    have h' : ifB (plain x) (allPlain l) false = true := h
    cases hp : plain x with
    | false => rw [hp, ifB_false] at h'; cases h'
    | true =>
      rw [hp, ifB_true] at h'
      rw [plain_inv hp hx, allPlain_inv h' ht]

theorem flat_inv {ρ : Map} {v v' : Value} (hf : flat v = true) (h : V ρ v v') : v' = v := by
  cases v with
  | agg cs =>
    cases h with
    | agg ha _ => rw [allPlain_inv hf ha]
  | tuple cs =>
    cases h with
    | tuple ha => rw [allPlain_inv hf ha]
  | _ => exact plain_inv hf h

theorem flat_V {ρ : Map} {v : Value} (hf : flat v = true) : V ρ v v := by
  cases v with
  | agg cs => exact .agg (allPlain_V (ρ := ρ) (l := cs.toList) hf).1 (allPlain_V (ρ := ρ) (l := cs.toList) hf).2
  | tuple cs => exact .tuple (allPlain_V (ρ := ρ) (l := cs.toList) hf).1
  | _ => exact .plain hf

section
variable {P : Program}

/-- What is left of a run in a memory of its own, none of which may be written. -/
theorem frame_post {ρ0 ρ : Map} {H0 H H1 : Heap} {w : World} {v : Value} (hH : HR P ρ H w) (hw : ∀ B, ¬ Wr ρ0 H0 B) (hf : flat v = true) {S0 S : Nat → Prop} {v' : Value} {w' : World}
    (h : Post P S0 ρ0 H0 w v H1 v' w') : Post P S ρ H w v H v' w' := by
  obtain ⟨ρ', hV, hR, hS⟩ := h
  have hb : ∀ B, B < w.heap.size → w'.heap[B]? = w.heap[B]? := fun B hB => hS.keep B hB (hw B)
  refine ⟨ρ, ?_, ⟨fun b x e h1 h2 => ?_, hH.inj, hH.dom, hH.lim, hH.top⟩, ⟨fun _ => .inl rfl, hS.os, hS.tape, hS.output, hS.size, fun B hB _ => hb B hB, fun _ _ h => h, Nat.le_refl _, fun _ _ h => h, fun _ _ _ => rfl, fun _ h _ => h⟩⟩
  · rw [flat_inv hf hV]; exact flat_V hf
  · have h3 := hH.blk b x e h1 h2
    rw [hb]
    · exact h3
    · rcases Nat.lt_or_ge e.B w.heap.size with h | h
      · exact h
      · rw [Array.getElem?_eq_none h] at h3; cases h3

omit [Sg] in
theorem Invokes.mono {f : FuncId} {args : Array Value} {w : World} {R R' : Value → World → Prop} (h : Invokes P f args w R) (k : ∀ v w', R v w' → R' v w') : Invokes P f args w R' := by
  rcases h with ⟨v, w', h1, h2⟩ | ⟨h1, h2⟩
  · exact .inl ⟨v, w', h1, k _ _ h2⟩
  · exact .inr ⟨h1, Calls.mono h2 fun e w' ⟨v, he, hR⟩ => ⟨v, he, k _ _ hR⟩⟩

/-! ### Plain arguments -/
noncomputable def findArgs (tab : List (List Value × Value)) (args : List Value) : Option Value :=
  List.rec (motive := fun _ => Option Value) none (fun e _ ih => ifB (all2 (sameV 3) e.1 args) (some e.2) ih) tab
noncomputable def memo (tab : List (List Value × Value)) (args : List Value) (H : Heap) : Res := bnd (findArgs tab args) fun v => some (v, H)

omit [Sg] in
theorem findArgs_mem {args : List Value} {v : Value} : ∀ {tab : List (List Value × Value)}, findArgs tab args = some v → (args, v) ∈ tab
  | [], h => by cases h
  | e :: tab, h => by
    have h' : ifB (all2 (sameV 3) e.1 args) (some e.2) (findArgs tab args) = some v := h
    cases hb : all2 (sameV 3) e.1 args with
    | true =>
      rw [hb, ifB_true] at h'
      cases h'
      have := all2_ok (sameV_ok 3) hb
      rw [← this]; simp
    | false => rw [hb, ifB_false] at h'; exact List.mem_cons_of_mem _ (findArgs_mem h')

/-- A run, and what it yields, as a test. -/
noncomputable def yields (r : Res) (v : Value) : Bool := sameRes r v && flat v
noncomputable def allFlat (l : List Value) : Bool := List.rec (motive := fun _ => Bool) true (fun v _ ih => ifB (flat v) ih false) l

theorem allFlat_inv {ρ : Map} : ∀ {l l' : List Value}, allFlat l = true → VL ρ l l' → l' = l
  | [], _, _, .nil => rfl
  | x :: l, x' :: l', h, .cons hx ht => by
    have h' : ifB (flat x) (allFlat l) false = true := h
    cases hp : flat x with
    | false => rw [hp, ifB_false] at h'; cases h'
    | true => rw [hp, ifB_true] at h'; rw [flat_inv hp hx, allFlat_inv h' ht]
theorem allFlat_V {ρ : Map} : ∀ {l : List Value}, allFlat l = true → VL ρ l l
  | [], _ => .nil
  | x :: l, h => by
    have h' : ifB (flat x) (allFlat l) false = true := h
    cases hp : flat x with
    | false => rw [hp, ifB_false] at h'; cases h'
    | true => rw [hp, ifB_true] at h'; exact .cons (flat_V hp) (allFlat_V h')

omit [Sg] in
theorem no_Wr {H : Heap} (B : Nat) : ¬ Wr (fun _ => none) H B := fun ⟨_, _, _, _, h, _⟩ => by cases h

theorem memo_ok {call : Call} (hC : CallsOk P call) {f : FuncId} {tab : List (List Value × Value)} (h : ∀ e ∈ tab, (allFlat e.1 && yields (call f e.1 Heap.empty) e.2) = true) : SpecOk P f (memo tab) := by
  intro args H v H' hs ρ w args' hA hH
  unfold memo at hs
  rw [bnd_eq] at hs
  obtain ⟨u, hu, e⟩ := hs
  cases e
  have h1 := h _ (findArgs_mem hu)
  simp only [Bool.and_eq_true] at h1
  obtain ⟨hfl, hy⟩ := h1
  unfold yields at hy
  rw [Bool.and_eq_true] at hy
  obtain ⟨H1, hrun⟩ := sameRes_ok hy.1
  rw [allFlat_inv hfl hA]
  exact (hC f args Heap.empty v H1 hrun _ w args (allFlat_V hfl) (HR.empty w)).mono fun v' w' hP => frame_post hH no_Wr hy.2 hP

/-! ### A slice that is looked at alone -/
structure Win where
  x : Value
  n : Nat
  c : Nat
  cells : List Value
  out : Value

noncomputable def findWin (k : Nat) (H : Heap) (x : Value) (a : Addr) (n c : Nat) (tab : List Win) : Option Value :=
  bnd (cellsAt H a k) fun l => List.rec (motive := fun _ => Option Value) none
    (fun e _ ih => ifB (Nat.beq e.n n) (ifB (sameV 3 e.x x) (ifB (Nat.beq e.c c) (ifB (all2 (sameV 3) e.cells l) (some e.out) ih) ih) ih) ih) tab
noncomputable def sliceA (v : Value) : Option (Addr × Nat × Nat) := bnd (sliceParts v) fun p => bnd p.1 fun a => some (a, p.2)
noncomputable def winSpec (k : Nat) (elem : TypeId) (tab : List Win) (args : List Value) (H : Heap) : Res :=
  bnd (two args) fun p => bnd (sliceA p.2) fun s => bnd (elemAt H s.1.block) fun el => chk (Nat.beq el elem) (bnd (findWin k H p.1 s.1 s.2.1 s.2.2 tab) fun v => some (v, H))

/-- The memory of its own: the slice's cells, not to be written. -/
noncomputable def winHeap (cells : List Value) (elem : TypeId) : Heap := Heap.set ⟨bank none 5, 1⟩ 0 (.cells cells elem .still)
noncomputable def winArgs (e : Win) : List Value := [e.x, .slice (some ⟨0, 0, none⟩) e.n e.c]

omit [Sg] in
theorem findWin_mem {k : Nat} {H : Heap} {x : Value} {a : Addr} {n c : Nat} {l : List Value} (hl : cellsAt H a k = some l) {v : Value} : ∀ {tab : List Win}, findWin k H x a n c tab = some v → ⟨x, n, c, l, v⟩ ∈ tab := by
  intro tab
  unfold findWin
  rw [hl, bnd_some]
  induction tab with
  | nil => intro h; cases h
  | cons e tab ih =>
    intro h
    have rest : ∀ {y : Option Value}, y = some v → y = List.rec (motive := fun _ => Option Value) none
      (fun e _ ih => ifB (Nat.beq e.n n) (ifB (sameV 3 e.x x) (ifB (Nat.beq e.c c) (ifB (all2 (sameV 3) e.cells l) (some e.out) ih) ih) ih) ih) tab → (⟨x, n, c, l, v⟩ : Win) ∈ e :: tab := fun h1 h2 => List.mem_cons_of_mem _ (ih (by rw [← h2]; exact h1))
    cases h1 : Nat.beq e.n n with
    | false => simp only [h1, ifB_false] at h; exact rest h rfl
    | true =>
      cases h2 : sameV 3 e.x x with
      | false => simp only [h1, h2, ifB_true, ifB_false] at h; exact rest h rfl
      | true =>
        cases h3 : Nat.beq e.c c with
        | false => simp only [h1, h2, h3, ifB_true, ifB_false] at h; exact rest h rfl
        | true =>
          cases h4 : all2 (sameV 3) e.cells l with
          | false => simp only [h1, h2, h3, h4, ifB_true, ifB_false] at h; exact rest h rfl
          | true =>
            simp only [h1, h2, h3, h4, ifB_true] at h
            cases h
            have e1 := Nat.eq_of_beq_eq_true h1
            have e2 := sameV_ok 3 _ _ h2
            have e3 := Nat.eq_of_beq_eq_true h3
            have e4 := all2_ok (sameV_ok 3) h4
            obtain ⟨ex, en, ec, el, eo⟩ := e
            dsimp only at e1 e2 e3 e4
            subst e1 e2 e3 e4
            simp

theorem win_ok {call : Call} (hC : CallsOk P call) {f : FuncId} {k : Nat} (hk : k ≠ 0) {elem : TypeId} (hone : ∀ i, P.info? elem = some i → i.size = 1) {tab : List Win}
    (h : ∀ e ∈ tab, (flat e.x && Nat.beq (lenL e.cells) k && allPlain e.cells && yields (call f (winArgs e) (winHeap e.cells elem)) e.out) = true) : SpecOk P f (winSpec k elem tab) := by
  intro args H v H' hs ρ w args' hA hH
  unfold winSpec at hs
  simp only [bnd_eq, chk_eq] at hs
  obtain ⟨⟨x, s⟩, h2, ⟨a, n, c⟩, hsl, el, hel, hee, u, hu, e⟩ := hs
  cases e
  have harg : args = [x, s] := by
    match args, h2 with
    | [y, z], h2 => cases h2; rfl
  subst harg
  dsimp only at hsl hel hee hu
  have hs' : s = .slice (some a) n c := by
    unfold sliceA at hsl
    simp only [bnd_eq] at hsl
    obtain ⟨⟨p1, p2, p3⟩, hp, b, hb, e⟩ := hsl
    dsimp only at hb e
    cases e
    subst hb
    cases s <;> first | (cases hp; done) | skip
    cases hp; rfl
  subst hs'
  have hcell : ∃ l, cellsAt H a k = some l := by
    unfold findWin at hu
    rw [bnd_eq] at hu
    obtain ⟨l, hl, _⟩ := hu
    exact ⟨l, hl⟩
  obtain ⟨l, hl⟩ := hcell
  have hmem := findWin_mem hl hu
  have h1 := h _ hmem
  simp only [Bool.and_eq_true] at h1
  obtain ⟨⟨⟨hfx, hlen⟩, hpl⟩, hy⟩ := h1
  unfold yields at hy
  rw [Bool.and_eq_true] at hy
  obtain ⟨H1, hrun⟩ := sameRes_ok hy.1
  have hll : l.length = k := by
    have := Nat.eq_of_beq_eq_true hlen
    rw [lenL_eq] at this; exact this
  cases hA with
  | cons hx ht =>
  cases ht with
  | cons hsv hnil =>
  cases hnil
  rw [flat_inv hfx hx]
  -- the block
  have hcl := hl
  unfold cellsAt at hcl
  rw [chk_eq] at hcl
  obtain ⟨hns, hcl⟩ := hcl
  simp only [bnd_eq] at hcl
  obtain ⟨b, hb, cc, hcc, htk⟩ := hcl
  rw [cellsOf_eq] at hcc
  subst hcc
  rw [takeN_eq, dropL_eq] at htk
  obtain ⟨hkl, hle⟩ := htk
  have hel' : cc.2.1 = elem := by
    unfold elemAt at hel
    simp only [bnd_eq] at hel
    obtain ⟨y, hy1, z, hz, e⟩ := hel
    rw [hb] at hy1
    cases hy1
    cases hz
    cases e
    exact Nat.eq_of_beq_eq_true hee
  have goal : ∀ (s' : Value) (em : Emb), ρ a.block = some em → (∀ e' : Emb, e'.B = em.B → e'.base = em.base + a.off → e'.room = em.room - a.off → a.off ≤ em.room → e'.k = em.k → V (fun b => if b = 0 then some e' else none) (.slice (some ⟨0, 0, none⟩) n c) s') →
      Invokes P f ⟨[x, s']⟩ w (Post P (fun b => H.next ≤ b) ρ H w v H) := by
    intro s' em hem hV
    have hbr := hH.blk _ _ _ hb hem
    generalize hg : w.heap[em.B]? = g at hbr
    cases hbr with
    | cells hi hk' hss hr hCs hf hv h1 hmodb =>
      rename_i C fr i
      have hoff : a.off + k ≤ em.size := by
        have := hv.length
        simp only [List.length_drop] at hkl
        omega
      let e' : Emb := ⟨em.B, em.base + a.off, k, em.room - a.off, em.k⟩
      have hwin : win C e' = ((win C em).drop a.off).take k := by
        unfold win
        simp only [e']
        rw [List.drop_take, List.take_take, List.drop_drop]
        congr 1
        omega
      have hvl : VL ρ l (win C e') := by rw [hwin, hle]; exact (hv.drop _).take _
      have hwl : win C e' = l := allPlain_inv hpl hvl
      have hR : HR P (fun b => if b = 0 then some e' else none) (winHeap l elem) w := by
        have hget : ∀ b, b ≠ 0 → (winHeap l elem).get b = none := fun b hb => by
          unfold winHeap
          rw [Heap.get_set_ne hb]
          exact getF_bank none 5 b
        refine ⟨fun b y e h1 h2 => ?_, fun b1 b2 y1 y2 e1 e2 h1 h2 h3 h4 _ _ => ?_, fun b e h1 => ?_, (by show 1 ≤ 2 ^ 64; decide), fun b hb => hget b (by have : 1 ≤ b := hb; omega)⟩
        · by_cases hb0 : b = 0
          · subst hb0
            have h1' : (winHeap l elem).get 0 = some (.cells l elem .still) := Heap.get_set_same _ _ _
            rw [h1'] at h1
            cases h1
            simp only [if_true] at h2
            cases h2
            rw [show e'.B = em.B from rfl, hg]
            rw [← hel']
            refine .cells hi hk' (by rw [hll]) ?_ ?_ (fun h => by cases h) ?_ ?_ (by show (em.base + a.off) % em.k = 0; rw [← hk', hone i (by rw [← hel']; exact hi), Nat.mod_one])
            · show k ≤ em.room - a.off; omega
            · show C.size = em.base + a.off + (em.room - a.off); omega
            · rw [hwl]; exact (allPlain_V hpl).1
            · rw [hwl]; exact (allPlain_V (ρ := ρ) hpl).2
          · rw [hget b hb0] at h1; cases h1
        · by_cases hb1 : b1 = 0
          · by_cases hb2 : b2 = 0
            · omega
            · rw [hget b2 hb2] at h2; cases h2
          · rw [hget b1 hb1] at h1; cases h1
        · by_cases hb0 : b = 0
          · subst hb0; exact Nat.one_pos
          · simp [hb0] at h1
      have hnw : ∀ B, ¬ Wr (fun b => if b = 0 then some e' else none) (winHeap l elem) B := by
        rintro B ⟨b, y, e, h1, h2, _, h4⟩
        by_cases hb0 : b = 0
        · subst hb0
          have h1' : (winHeap l elem).get 0 = some (.cells l elem .still) := Heap.get_set_same _ _ _
          rw [h1'] at h1
          cases h1
          cases h4
        · simp [hb0] at h2
      refine (hC f _ _ v H1 hrun _ w _ (.cons (flat_V hfx) (.cons (hV e' rfl rfl rfl (by omega) rfl) .nil)) hR).mono fun v' w' hP => frame_post hH hnw hy.2 hP
  cases hsv with
  | slice hρ hn hc =>
    refine goal _ _ hρ fun e' e1 e2 _ _ _ => ?_
    have := V.slice (ρ := fun b => if b = 0 then some e' else none) (b := 0) (o := 0) (e := e') rfl hn hc
    rw [e1, e2] at this
    exact this
  | sliceU hρ hn hc =>
    refine goal _ _ hρ fun e' e1 e2 e3 e4 e5 => ?_
    have hc' := hc
    dsimp only at e3 e4
    have := V.sliceU (ρ := fun b => if b = 0 then some e' else none) (b := 0) (o := 0) (e := e') rfl hn (by rw [e5, e3, ← hc']; omega)
    rw [e1, e2] at this
    exact this
  | empty hρ ho =>
    exfalso
    have hbr := hH.blk _ _ _ hb hρ
    rename_i em _
    generalize w.heap[em.B]? = g at hbr
    cases hbr with
    | cells hi hk' hss hr hCs hf hv h1 hmodb =>
      simp only [List.length_drop] at hkl
      omega
end
end Go.Ev
