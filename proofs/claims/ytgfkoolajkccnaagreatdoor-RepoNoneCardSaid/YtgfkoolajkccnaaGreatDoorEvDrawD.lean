/- Drawn regions, part 4: the invariant of a schedule, and DrawOk. -/
import Derived.Test.YtgfkoolajkccnaaGreatDoorEvDrawC
/-! Drawn regions, part 4: the invariant of a schedule, and DrawOk. -/
namespace Go.Ev
open Go.RowKit
open Classical

def lis (listed : Array Bool) (i : Nat) : Prop := listed.getD i false = true

theorem lis_set {listed : Array Bool} {j : Nat} (hj : j < listed.size) (i : Nat) : lis (listed.setIfInBounds j true) i ↔ (lis listed i ∨ i = j) := by
  unfold lis
  by_cases e : i = j
  · subst e; simp [hj]
  · rw [getD_set_ne _ (Ne.symm e)]; simp [e]

theorem lis_lt {listed : Array Bool} {i : Nat} (h : lis listed i) : i < listed.size := by
  unfold lis at h
  rcases Nat.lt_or_ge i listed.size with hl | hl
  · exact hl
  · simp [Array.getD_eq_getD_getElem?, Array.getElem?_eq_none hl] at h

theorem not_lis {listed : Array Bool} {i : Nat} : listed.getD i true = false ↔ (i < listed.size ∧ ¬ lis listed i) := by
  unfold lis
  rcases Nat.lt_or_ge i listed.size with hl | hl
  · simp [hl]
  · simp [Array.getD_eq_getD_getElem?, Array.getElem?_eq_none hl]; omega

def left (listed : Array Bool) : Nat := listed.toList.count false

theorem left_set {listed : Array Bool} {j : Nat} (h : listed.getD j true = false) : left (listed.setIfInBounds j true) + 1 = left listed := by
  have hj := (not_lis.1 h).1
  have hv : listed[j] = false := by simpa [hj] using h
  unfold left
  simp only [Array.toList_setIfInBounds]
  have hlt : j < listed.toList.length := by simpa using hj
  have hm : listed.toList[j] = false := by simpa using hv
  have hpos : 0 < listed.toList.count false := List.count_pos_iff.2 (by rw [← hm]; exact List.getElem_mem hlt)
  rw [List.count_set hlt, hm]
  have e1 : (if ((false : Bool) == false) = true then 1 else 0) = 1 := rfl
  have e2 : (if ((true : Bool) == false) = true then 1 else 0) = 0 := rfl
  rw [e1, e2]
  omega

theorem left_zero {listed : Array Bool} (h : left listed = 0) (i : Nat) (hi : i < listed.size) : lis listed i := by
  have := List.count_eq_zero.1 h
  unfold lis
  have hm : listed[i] ∈ listed.toList := by
    simp
  cases hb : listed[i] with
  | true => simp [hi, hb]
  | false => rw [hb] at hm; exact (this hm).elim

section
variable {P : Program} {env : Env} (hE : EnvOk P env) {call : Call} (hC : CallsOk P call)
variable {ops : Array Oper} {base : Nat} {T : Nat → Tm} {K : Nat → Heap} {vv : Nat → Value} (hF : Facts env call ops base T K vv)
variable {ρ0 : Map} {w0 : World} {a0 : Act}

def Valid (env : Env) (ops : Array Oper) (L : Nat → Prop) (q : Nat) : Prop := q ≤ ops.size ∧ ∀ e o, ops[e]? = some o → kindOf env o.op = 3 → (L e ↔ e < q)

/-- What holds whenever the operations of L are done. -/
structure Inv (P : Program) (env : Env) (call : Call) (ops : Array Oper) (base : Nat) (T : Nat → Tm) (K : Nat → Heap) (vv : Nat → Value) (ρ0 : Map) (w0 : World) (a0 : Act)
    (L : Nat → Prop) (ρ : Map) (X : Nat → Option Blk) (q : Nat) (a : Act) (w : World) : Prop where
  size : a.tmps.size = a0.tmps.size
  defers : a.defers = a0.defers
  down : ∀ i j, Edge0 ops i j → L j → L i
  inb : ∀ i, L i → i < ops.size
  valid : Valid env ops L q
  least : q = 0 ∨ ∃ e o, q = e + 1 ∧ ops[e]? = some o ∧ kindOf env o.op = 3
  slots : ∃ tm, TR ρ tm a.tmps ∧ ∀ t, Holds ops T vv L t (slot tm t)
  hx : HG P ρ X (K q).next w
  un : ∀ i, i < ops.size → ¬ L i → ρ (base + i) = none
  nx : base + ops.size ≤ (K q).next
  part : Part env call ops base T K vv ρ0 L ρ X q
  sx : SX base ρ0 (K 0) w0 ρ X (K q).next w

theorem Anc.down {L : Nat → Prop} (hd : ∀ i j, Edge0 ops i j → L j → L i) {i j : Nat} (h : Anc ops i j) : L j → L i := by
  induction h with
  | one h => exact hd _ _ h
  | step _ h' ih => exact fun hj => ih (hd _ _ h' hj)

/-- What is before an operation whose edges are done is done. -/
theorem Anc.done {L : Nat → Prop} (hd : ∀ i j, Edge0 ops i j → L j → L i) {i j : Nat} (h : Anc ops i j) (hr : ∀ i, Edge0 ops i j → L i) : L i := by
  cases h with
  | one h => exact hr _ h
  | step h h' => exact h.down hd (hr _ h')

variable {L : Nat → Prop} {ρ : Map} {X : Nat → Option Blk} {q : Nat} {a : Act} {w : World}
variable {j : Nat} {o : Oper}

include hF in
/-- Two operations, one done and one not or one just to be done, whose order matters. -/
theorem clash_order (hI : Inv P env call ops base T K vv ρ0 w0 a0 L ρ X q a w) (hj : ops[j]? = some o) (hnj : ¬ L j) (hr : ∀ i, Edge0 ops i j → L i) {k : Nat} {ok : Oper} (hk : ops[k]? = some ok) :
    (k < j → Clash ops ok o → L k) ∧ (j < k → Clash ops o ok → ¬ L k) := by
  refine ⟨fun hkj hc => ?_, fun hjk hc hLk => ?_⟩
  · rcases hF.pairs k j ok o hkj hk hj with h | ⟨h, _⟩
    · exact h.done hI.down hr
    · exact (h hc).elim
  · rcases hF.pairs j k o ok hjk hj hk with h | ⟨h, _⟩
    · exact hnj (h.down hI.down hLk)
    · exact h hc

include hF in
theorem slots_ready (hI : Inv P env call ops base T K vv ρ0 w0 a0 L ρ X q a w) (hj : ops[j]? = some o) (hnj : ¬ L j) (hr : ∀ i, Edge0 ops i j → L i) {tm : Tm} (hs : ∀ t, Holds ops T vv L t (slot tm t))
    {t : Nat} (ht : LooksAt ops o t) : slot tm t = slot (T j) t := by
  refine (hs t).det (holds_text hF.next j (Nat.le_of_lt (lt_size hj)) t) fun k ok hk hkd => ?_
  obtain ⟨h1, h2⟩ := clash_order hF hI hj hnj hr hk
  rcases Nat.lt_trichotomy k j with hkj | rfl | hkj
  · exact ⟨fun _ => hkj, fun _ => h1 hkj ⟨t, .inl ⟨hkd, .inl ht⟩⟩⟩
  · exact ⟨fun h => (hnj h).elim, fun h => (Nat.lt_irrefl _ h).elim⟩
  · exact ⟨fun h => (h2 hkj ⟨t, .inr ⟨hkd, ht⟩⟩ h).elim, fun h => by omega⟩

include hF in
theorem slots_put (hI : Inv P env call ops base T K vv ρ0 w0 a0 L ρ X q a w) (hj : ops[j]? = some o) (hnj : ¬ L j) (hr : ∀ i, Edge0 ops i j → L i) {L' : Nat → Prop} (hL' : ∀ i, L' i ↔ (L i ∨ i = j))
    {tm : Tm} (hs : ∀ t, Holds ops T vv L t (slot tm t)) (t : Nat) : Holds ops T vv L' t (slot (putT tm o.dst (vv j)) t) := by
  refine Holds.put hj hL' (fun k ok t ht hLk hk hkd => ?_) hs t
  obtain ⟨h1, h2⟩ := clash_order hF hI hj hnj hr hk
  rcases Nat.lt_trichotomy k j with hkj | rfl | hkj
  · exact Nat.le_of_lt hkj
  · exact Nat.le_refl _
  · exact (h2 hkj ⟨t, .inl ⟨ht, .inr hkd⟩⟩ hLk).elim

theorem down_set (hI : Inv P env call ops base T K vv ρ0 w0 a0 L ρ X q a w) (hr : ∀ i, Edge0 ops i j → L i) {L' : Nat → Prop} (hL' : ∀ i, L' i ↔ (L i ∨ i = j)) : ∀ i k, Edge0 ops i k → L' k → L' i := by
  intro i k he hk
  rcases (hL' k).1 hk with hk | rfl
  · exact (hL' i).2 (.inl (hI.down i k he hk))
  · exact (hL' i).2 (.inl (hr i he))

theorem least_ex {p : Nat → Prop} (h : ∃ e, p e) : ∃ e, p e ∧ ∀ m, m < e → ¬ p m := by
  obtain ⟨e, he⟩ := h
  induction e using Nat.strongRecOn with
  | ind e ih =>
    by_cases hm : ∃ m, m < e ∧ p m
    · obtain ⟨m, h1, h2⟩ := hm; exact ih m h1 h2
    · exact ⟨e, he, fun m h1 h2 => hm ⟨m, h1, h2⟩⟩

include hF in
/-- The text's memory where the operation may be looked at. -/
theorem place (hI : Inv P env call ops base T K vv ρ0 w0 a0 L ρ X q a w) (hj : ops[j]? = some o) (hnj : ¬ L j) (hr : ∀ i, Edge0 ops i j → L i) (hk3 : kindOf env o.op ≠ 3) (hw : wantedB o ops (T j) = true) :
    ∃ d, q + d ≤ ops.size ∧ (∀ e oe, ops[e]? = some oe → q ≤ e → e < q + d → kindOf env oe.op ≠ 3) ∧
      ∃ H', evOp o.op env call (base + j) (T j) (K (q + d)) = some (vv j, H') ∧ (H' = K (q + d) ∧ kindOf env o.op ≠ 1 ∨ ∃ x, H' = (K (q + d)).set (base + j) x ∧ Mk env call ops base T vv j x) := by
  have hle := kindOf_le env o.op
  by_cases h1 : kindOf env o.op = 1
  · obtain ⟨x, hM, _⟩ := hF.made hj h1 hw
    refine ⟨0, hI.valid.1, fun e _ _ _ _ => by omega, _, ?_, .inr ⟨x, rfl, hM⟩⟩
    obtain ⟨o', g1, _, _, g4⟩ := hM
    rw [hj] at g1; cases g1
    exact g4 _
  · by_cases h0 : kindOf env o.op = 0
    · exact ⟨0, hI.valid.1, fun e _ _ _ _ => by omega, _, (pure_ind h0 _ _ _ (hF.run j o hj hw)).2 _, .inl ⟨rfl, h1⟩⟩
    · have h2 : kindOf env o.op = 2 := by omega
      have fin : ∀ {d : Nat} {H'}, evOp o.op env call (base + j) (T j) (K (q + d)) = some (vv j, H') → ∃ H', evOp o.op env call (base + j) (T j) (K (q + d)) = some (vv j, H') ∧ (H' = K (q + d) ∧ kindOf env o.op ≠ 1 ∨ ∃ x, H' = (K (q + d)).set (base + j) x ∧ Mk env call ops base T vv j x) :=
        fun {d H'} h => ⟨H', h, .inl ⟨read_ind h2 _ _ _ h, h1⟩⟩
      by_cases hq : j < q
      · -- a later write is done already
        rcases hI.least with h | ⟨e, oe, rfl, he, hke⟩
        · omega
        · refine ⟨0, hI.valid.1, fun e _ _ _ _ => by omega, ?_⟩
          have hLe : L e := (hI.valid.2 e oe he hke).2 (by omega)
          have hne : j ≠ e := fun h => hnj (h ▸ hLe)
          rcases hF.pairs j e o oe (by omega) hj he with h | ⟨_, _, _, h⟩
          · exact (hnj (h.down hI.down hLe)).elim
          · obtain ⟨H', hH⟩ := h h2 hke hw
            exact fin (d := 0) hH
      · by_cases hex : ∃ e, q ≤ e ∧ e < j ∧ ∃ oe, ops[e]? = some oe ∧ kindOf env oe.op = 3
        · -- a write before it is not done yet
          obtain ⟨e, ⟨e1, e2, oe, he, hke⟩, hlow⟩ := least_ex hex
          refine ⟨e - q, by have := lt_size he; omega, fun m om hm h3 h4 hkm => hlow m (by omega) ⟨h3, by omega, om, hm, hkm⟩, ?_⟩
          have heq : q + (e - q) = e := by omega
          have hnLe : ¬ L e := fun h => by have := (hI.valid.2 e oe he hke).1 h; omega
          rcases hF.pairs e j oe o e2 he hj with h | ⟨_, _, h, _⟩
          · exact (hnLe (h.done hI.down hr)).elim
          · obtain ⟨H', hH⟩ := h hke h2 hw
            rw [← heq] at hH
            exact fin hH
        · refine ⟨j - q, by have := lt_size hj; omega, fun m om hm h3 h4 hkm => hex ⟨m, h3, by omega, om, hm, hkm⟩, ?_⟩
          have heq : q + (j - q) = j := by omega
          have hH := hF.run j o hj hw
          rw [← heq] at hH
          exact fin (by rw [heq] at hH ⊢; exact hH)

theorem Agree.of_looks {tm tm' : Tm} (h : ∀ t, LooksAt ops o t → slot tm t = slot tm' t) : Agree tm tm' (looksL o.op) := fun t ht => h t (.inl ht)

include hE hC hF in
/-- One operation more, that does not write. -/
theorem calm_ok (hI : Inv P env call ops base T K vv ρ0 w0 a0 L ρ X q a w) (hj : ops[j]? = some o) (hnj : ¬ L j) (hr : ∀ i, Edge0 ops i j → L i) (hk3 : kindOf env o.op ≠ 3) (hw : wantedB o ops (T j) = true)
    (hdst : ∀ d, o.dst = some d → d < a0.tmps.size) {L' : Nat → Prop} (hL' : ∀ i, L' i ↔ (L i ∨ i = j)) :
    Does P o a w fun v' w' => ∃ ρ' X', Inv P env call ops base T K vv ρ0 w0 a0 L' ρ' X' q (a.put o.dst v') w' := by
  obtain ⟨d, hd, hno, H', hop, hH'⟩ := place hF hI hj hnj hr hk3 hw
  obtain ⟨hp, hnx⟩ := hI.part.advTo hF hI.un hI.nx d hd hno
  obtain ⟨tm, hT, hs⟩ := hI.slots
  rw [← evOp_congr (Agree.of_looks fun t ht => slots_ready hF hI hj hnj hr hs ht)] at hop
  have hH : HR P ρ (K (q + d)) w := HG.hr (by rw [hnx]; exact hI.hx) hp.sub hp.top
  have hlt := lt_size hj
  have hid : ρ (base + j) = none := hI.un j hlt hnj
  have hdo := evOp_ok (S := fun b => b = base + j) (o := o) (a := a) hE hC hH hid (by rw [hnx]; have := hI.nx; omega) rfl (fun h => (hk3 h).elim) hT hop
  refine hdo.mono ?_
  rintro v' w' ⟨ρ', hv, hR, hS⟩
  have hnx' : H'.next = (K q).next := by
    rcases hH' with ⟨rfl, _⟩ | ⟨x, rfl, _⟩
    · exact hnx
    · exact hnx
  have hget : ∀ b, b ≠ base + j → H'.get b = (K (q + d)).get b := by
    rcases hH' with ⟨rfl, _⟩ | ⟨x, rfl, _⟩
    · exact fun _ _ => rfl
    · exact fun b hb => Heap.get_set_ne hb
  have hρ : ∀ b, b ≠ base + j → ρ' b = ρ b := fun b hb => by
    rcases hS.ext b with e | ⟨_, e⟩
    · exact e
    · exact (hb e).elim
  have hold : ∀ b x, b ≠ base + j → ρ b ≠ none → X b = some x → aug ρ (K (q + d)) H' X b = some x := by
    intro b x hb hr hx
    unfold aug
    rw [hget b hb]
    cases hg : (K (q + d)).get b with
    | none => simp only; rw [if_pos ⟨trivial, hr⟩]; exact hx
    | some y => have := hp.sub b y hg hr; rw [hx] at this; exact this.symm
  have hmade : ∀ x, Mk env call ops base T vv j x → aug ρ (K (q + d)) H' X (base + j) = some x := by
    intro x hM
    rcases hH' with ⟨_, h1⟩ | ⟨y, rfl, hy⟩
    · obtain ⟨o', g1, g2, _⟩ := hM
      rw [hj] at g1; cases g1; exact (h1 g2).elim
    · unfold aug
      rw [Heap.get_set_same, hM.uniq hy]
  refine ⟨ρ', aug ρ (K (q + d)) H' X, ?_⟩
  exact {
    size := by rw [put_size]; exact hI.size
    defers := by rw [put_defers]; exact hI.defers
    down := down_set hI hr hL'
    inb := fun i hi => by
      rcases (hL' i).1 hi with h | rfl
      · exact hI.inb i h
      · exact hlt
    valid := ⟨hI.valid.1, fun e oe he hke => by
      rw [hL' e, ← hI.valid.2 e oe he hke]
      refine ⟨fun h => h.resolve_right ?_, .inl⟩
      rintro rfl
      rw [hj] at he; cases he; exact hk3 hke⟩
    least := hI.least
    slots := ⟨putT tm o.dst (vv j), (hT.mono hS.le).put (fun d hd => by rw [hI.size]; exact hdst d hd) hv, slots_put hF hI hj hnj hr hL' hs⟩
    hx := by
      have := HG.aug (by rw [hnx]; exact hI.hx) hp.sub hR hS
      rw [hnx'] at this; exact this
    un := fun i hi hn => by
      have h1 : ¬ L i := fun h => hn ((hL' i).2 (.inl h))
      have h2 : i ≠ j := fun h => hn ((hL' i).2 (.inr h))
      rw [hρ _ (by omega)]; exact hI.un i hi h1
    nx := hI.nx
    part := {
      sub := fun b x hb hr' => by
        by_cases e : b = base + j
        · subst e
          by_cases hjq : j < q
          · rcases hH' with ⟨_, h1⟩ | ⟨y, rfl, hy⟩
            · rw [hI.part.gone j o hj (.inr ⟨h1, hk3⟩)] at hb; cases hb
            · have h2 := hI.part.late j y hjq hnj hy
              rw [hb] at h2; cases h2
              exact hmade _ hy
          · rw [hI.part.gone j o hj (.inl (by omega))] at hb; cases hb
        · rw [hρ b e] at hr'
          exact hold b x e hr' (hI.part.sub b x hb hr')
      early := fun i x hi hLi hM hr' => by
        by_cases e : i = j
        · subst e; exact hmade x hM
        · rw [hρ _ (by omega)] at hr'
          exact hold _ x (by omega) hr' (hI.part.early i x hi (((hL' i).1 hLi).resolve_right e) hM hr')
      gone := hI.part.gone
      late := fun i x hi hn hM => hI.part.late i x hi (fun h => hn ((hL' i).2 (.inl h))) hM
      abs1 := hI.part.abs1
      abs2 := hI.part.abs2
      top := hI.part.top }
    sx := by
      have := SX.aug (by rw [hnx]; exact hI.sx) hp.sub hS (fun b (hb : b = base + j) => by omega)
      rw [hnx'] at this; exact this }

include hF in
theorem eff_place (hI : Inv P env call ops base T K vv ρ0 w0 a0 L ρ X q a w) (hj : ops[j]? = some o) (hnj : ¬ L j) (hr : ∀ i, Edge0 ops i j → L i) (hk3 : kindOf env o.op = 3) :
    q ≤ j ∧ Part env call ops base T K vv ρ0 L ρ X j ∧ (K j).next = (K q).next ∧ Valid env ops L j := by
  have hlt := lt_size hj
  have hq : q ≤ j := by
    rcases Nat.lt_or_ge j q with h | h
    · exact (hnj ((hI.valid.2 j o hj hk3).2 h)).elim
    · exact h
  have hv : ∀ e oe, ops[e]? = some oe → kindOf env oe.op = 3 → (L e ↔ e < j) := by
    intro e oe he hke
    rcases Nat.lt_trichotomy e j with h | rfl | h
    · refine ⟨fun _ => h, fun _ => ?_⟩
      rcases hF.pairs e j oe o h he hj with h | ⟨_, h, _⟩
      · exact h.done hI.down hr
      · exact (h ⟨hke, hk3⟩).elim
    · exact ⟨fun h => (hnj h).elim, fun h => (Nat.lt_irrefl _ h).elim⟩
    · refine ⟨fun hL => ?_, fun h' => by omega⟩
      rcases hF.pairs j e o oe h hj he with h | ⟨_, h, _⟩
      · exact (hnj (h.down hI.down hL)).elim
      · exact (h ⟨hk3, hke⟩).elim
  have h := hI.part.advTo hF hI.un hI.nx (j - q) (by omega) fun e oe he h1 h2 hke => by
    have h3 := (hv e oe he hke).2 (by omega)
    have h4 := (hI.valid.2 e oe he hke).1 h3
    omega
  rw [show q + (j - q) = j from by omega] at h
  exact ⟨hq, h.1, h.2, ⟨Nat.le_of_lt hlt, hv⟩⟩

include hE hC hF in
/-- One operation more, that may write. -/
theorem eff_ok (hI : Inv P env call ops base T K vv ρ0 w0 a0 L ρ X q a w) (hj : ops[j]? = some o) (hnj : ¬ L j) (hr : ∀ i, Edge0 ops i j → L i) (hk3 : kindOf env o.op = 3) (hw : wantedB o ops (T j) = true)
    (hdst : ∀ d, o.dst = some d → d < a0.tmps.size) {L' : Nat → Prop} (hL' : ∀ i, L' i ↔ (L i ∨ i = j)) :
    Does P o a w fun v' w' => ∃ ρ' X', Inv P env call ops base T K vv ρ0 w0 a0 L' ρ' X' (j + 1) (a.put o.dst v') w' := by
  obtain ⟨hq, hp, hnx, hval⟩ := eff_place hF hI hj hnj hr hk3
  obtain ⟨tm, hT, hs⟩ := hI.slots
  have hop := hF.run j o hj hw
  rw [← evOp_congr (Agree.of_looks fun t ht => slots_ready hF hI hj hnj hr hs ht)] at hop
  have hH : HR P ρ (K j) w := HG.hr (by rw [hnx]; exact hI.hx) hp.sub hp.top
  have hlt := lt_size hj
  have hid : ρ (base + j) = none := hI.un j hlt hnj
  have hnb : base + ops.size ≤ (K j).next := by rw [hnx]; exact hI.nx
  have hdo := evOp_ok (S := fun b => b = base + j ∨ (K j).next ≤ b) (o := o) (a := a) hE hC hH hid (by omega) (.inl rfl) (fun _ b hb => .inr hb) hT hop
  refine hdo.mono ?_
  rintro v' w' ⟨ρ', hv, hR, hS⟩
  have hnS : ∀ i, i < ops.size → i ≠ j → ¬ (base + i = base + j ∨ (K j).next ≤ base + i) := fun i hi hij h => by omega
  have hbS : ∀ b, b < base → ¬ (b = base + j ∨ (K j).next ≤ b) := fun b hb h => by omega
  have hρ : ∀ b, ¬ (b = base + j ∨ (K j).next ≤ b) → ρ' b = ρ b := fun b hb => by
    rcases hS.ext b with e | ⟨_, e⟩
    · exact e
    · exact (hb e).elim
  have hgone : ∀ i oi, ops[i]? = some oi → (j + 1 ≤ i ∨ (kindOf env oi.op ≠ 1 ∧ kindOf env oi.op ≠ 3)) → (K (j + 1)).get (base + i) = none := by
    intro i oi hi hc
    have hij : i ≠ j := by
      rintro rfl
      rw [hj] at hi; cases hi
      rcases hc with hc | hc
      · omega
      · exact hc.2 hk3
    exact hS.abs2 _ (hp.gone i oi hi (hc.imp (by omega) fun h => h)) (hnS i (lt_size hi) hij)
  refine ⟨ρ', aug ρ (K j) (K (j + 1)) X, ?_⟩
  exact {
    size := by rw [put_size]; exact hI.size
    defers := by rw [put_defers]; exact hI.defers
    down := down_set hI hr hL'
    inb := fun i hi => by
      rcases (hL' i).1 hi with h | rfl
      · exact hI.inb i h
      · exact hlt
    valid := ⟨hlt, fun e oe he hke => by
      rw [hL' e, hval.2 e oe he hke]
      omega⟩
    least := .inr ⟨j, o, rfl, hj, hk3⟩
    slots := ⟨putT tm o.dst (vv j), (hT.mono hS.le).put (fun d hd => by rw [hI.size]; exact hdst d hd) hv, slots_put hF hI hj hnj hr hL' hs⟩
    hx := HG.aug (by rw [hnx]; exact hI.hx) hp.sub hR hS
    un := fun i hi hn => by
      have h1 : ¬ L i := fun h => hn ((hL' i).2 (.inl h))
      have h2 : i ≠ j := fun h => hn ((hL' i).2 (.inr h))
      rw [hρ _ (hnS i hi h2)]; exact hI.un i hi h1
    nx := Nat.le_trans hnb hS.next
    part := {
      sub := fun b x hb _ => by unfold aug; rw [hb]
      early := fun i x hi hLi hM hr' => by
        have hM' := hM
        obtain ⟨oi, hoi, _⟩ := hM'
        have hij : i ≠ j := by omega
        have hr2 : ρ (base + i) ≠ none := by rw [← hρ _ (hnS i (lt_size hoi) hij)]; exact hr'
        unfold aug
        rw [hgone i oi hoi (.inl hi)]
        simp only
        rw [if_pos ⟨hp.gone i oi hoi (.inl (by omega)), hr2⟩]
        exact hp.early i x (by omega) (((hL' i).1 hLi).resolve_right hij) hM hr2
      gone := hgone
      late := fun i x hi hn hM => by
        have hij : i ≠ j := fun h => hn ((hL' i).2 (.inr h))
        have hnL : ¬ L i := fun h => hn ((hL' i).2 (.inl h))
        have hM' := hM
        obtain ⟨oi, hoi, _⟩ := hM'
        rw [hS.abs1 _ (hI.un i (lt_size hoi) hnL) (hnS i (lt_size hoi) hij)]
        exact hp.late i x (by omega) hnL hM
      abs1 := fun b hb h0 => by
        have h1 : ρ b = none := by
          rcases hI.sx.ext b with e | ⟨_, e⟩
          · rw [e]; exact h0
          · omega
        rw [hS.abs1 b h1 (hbS b hb)]; exact hp.abs1 b hb h0
      abs2 := fun b hb h0 => hS.abs2 b (hp.abs2 b hb h0) (hbS b hb)
      top := hR.top }
    sx := SX.aug (by rw [hnx]; exact hI.sx) hp.sub hS (fun b hb => by have := Nat.le_trans (Nat.le_add_right base ops.size) hnb; omega) }

include hF in
/-- One operation more, that its guard leaves out. -/
theorem unwanted_ok (hI : Inv P env call ops base T K vv ρ0 w0 a0 L ρ X q a w) (hj : ops[j]? = some o) (hnj : ¬ L j) (hr : ∀ i, Edge0 ops i j → L i) (hw : wantedB o ops (T j) = false)
    (hdst : ∀ d, o.dst = some d → d < a0.tmps.size) {L' : Nat → Prop} (hL' : ∀ i, L' i ↔ (L i ∨ i = j)) :
    ∃ q', Inv P env call ops base T K vv ρ0 w0 a0 L' ρ X q' (a.put o.dst undef) w := by
  obtain ⟨tm, hT, hs⟩ := hI.slots
  obtain ⟨hvv, hK⟩ := hF.skip j o hj hw
  have hlt := lt_size hj
  have hnM : ∀ x, ¬ Mk env call ops base T vv j x := by
    rintro x ⟨o', g1, _, g3, _⟩
    rw [hj] at g1; cases g1; rw [hw] at g3; cases g3
  have core : ∀ q', Valid env ops L' q' → (q' = 0 ∨ ∃ e o, q' = e + 1 ∧ ops[e]? = some o ∧ kindOf env o.op = 3) → (K q').next = (K q).next → Part env call ops base T K vv ρ0 L' ρ X q' →
      Inv P env call ops base T K vv ρ0 w0 a0 L' ρ X q' (a.put o.dst undef) w := fun q' hval hleast hnx hpart => {
    size := by rw [put_size]; exact hI.size
    defers := by rw [put_defers]; exact hI.defers
    down := down_set hI hr hL'
    inb := fun i hi => by
      rcases (hL' i).1 hi with h | rfl
      · exact hI.inb i h
      · exact hlt
    valid := hval
    least := hleast
    slots := ⟨putT tm o.dst (vv j), by rw [hvv]; exact hT.put (fun d hd => by rw [hI.size]; exact hdst d hd) undef_V, slots_put hF hI hj hnj hr hL' hs⟩
    hx := by rw [hnx]; exact hI.hx
    un := fun i hi hn => hI.un i hi fun h => hn ((hL' i).2 (.inl h))
    nx := by rw [hnx]; exact hI.nx
    part := hpart
    sx := by rw [hnx]; exact hI.sx }
  have grow : ∀ {q'}, Part env call ops base T K vv ρ0 L ρ X q' → Part env call ops base T K vv ρ0 L' ρ X q' := fun {q'} h =>
    ⟨h.sub, fun i x hi hLi hM => h.early i x hi (((hL' i).1 hLi).resolve_right (by rintro rfl; exact hnM x hM)) hM, h.gone, fun i x hi hn hM => h.late i x hi (fun h => hn ((hL' i).2 (.inl h))) hM, h.abs1, h.abs2, h.top⟩
  by_cases hk3 : kindOf env o.op = 3
  · obtain ⟨hq, hp, hnx, hval⟩ := eff_place hF hI hj hnj hr hk3
    refine ⟨j + 1, core (j + 1) ⟨hlt, fun e oe he hke => ?_⟩ (.inr ⟨j, o, rfl, hj, hk3⟩) (by rw [hK]; exact hnx) (grow (hp.skip hK hnM))⟩
    rw [hL' e, hval.2 e oe he hke]
    omega
  · refine ⟨q, core q ⟨hI.valid.1, fun e oe he hke => ?_⟩ hI.least rfl (grow hI.part)⟩
    rw [hL' e, ← hI.valid.2 e oe he hke]
    refine ⟨fun h => h.resolve_right ?_, .inl⟩
    rintro rfl
    rw [hj] at he; cases he; exact hk3 hke

include hF in
/-- All is done. -/
theorem Inv.final (hI : Inv P env call ops base T K vv ρ0 w0 a0 L ρ X q a w) (hall : ∀ i, i < ops.size → L i) :
    TR ρ (T ops.size) a.tmps ∧ HR P ρ (K ops.size) w ∧ Step (fun b => base ≤ b) ρ0 (K 0) w0 ρ (K ops.size) w := by
  obtain ⟨hp, hnx⟩ := hI.part.advTo hF hI.un hI.nx (ops.size - q) (by have := hI.valid.1; omega) fun e oe he h1 _ hke => by
    have := (hI.valid.2 e oe he hke).1 (hall e (lt_size he)); omega
  have hq := hI.valid.1
  rw [show q + (ops.size - q) = ops.size from by omega] at hp hnx
  obtain ⟨tm, hT, hs⟩ := hI.slots
  refine ⟨fun t => ?_, HG.hr (by rw [hnx]; exact hI.hx) hp.sub hp.top, ?_⟩
  · have : slot tm t = slot (T ops.size) t := (hs t).det (holds_text hF.next ops.size (Nat.le_refl _) t) fun k ok hk _ => ⟨fun _ => lt_size hk, fun _ => hall k (lt_size hk)⟩
    rw [← this]; exact hT t
  · have sx := hI.sx
    refine ⟨sx.ext, sx.os, sx.tape, sx.output, sx.size, sx.keep, fun B hB ⟨b, x, e, h1, h2, h3, h4⟩ => ?_, by rw [hnx]; exact sx.next, fun B hB ⟨b, x, e, h1, h2, h3⟩ => ?_, fun b h1 h2 => hp.abs1 b (by omega) h1, fun b h1 h2 => hp.abs2 b (by omega) h1⟩
    · subst h3; exact sx.wr b x e (hp.sub b x h1 (by rw [h2]; simp)) h2 hB h4
    · subst h3; exact sx.mp b x e (hp.sub b x h1 (by rw [h2]; simp)) h2 hB

include hE hC hF in
theorem any_ok (hdst : ∀ o ∈ ops.toList, ∀ d, o.dst = some d → d < a0.tmps.size) {Q : Exit → Act → World → Prop}
    (hQ : ∀ ρ' a' w', TR ρ' (T ops.size) a'.tmps → HR P ρ' (K ops.size) w' → Step (fun b => base ≤ b) ρ0 (K 0) w0 ρ' (K ops.size) w' → a'.tmps.size = a0.tmps.size → a'.defers = a0.defers → Q .normal a' w') :
    ∀ (fuel : Nat) (listed : Array Bool) (ρ : Map) (X : Nat → Option Blk) (q : Nat) (a : Act) (w : World), listed.size = ops.size → left listed = fuel → Inv P env call ops base T K vv ρ0 w0 a0 (lis listed) ρ X q a w →
      wpAny P .any ops Q fuel listed a w := by
  intro fuel
  induction fuel with
  | zero =>
    intro listed ρ X q a w hsz hleft hI
    have hall : ∀ i, i < ops.size → lis listed i := fun i hi => left_zero hleft i (by omega)
    have hnil : Region.ready .any ops listed = [] := by
      apply List.eq_nil_iff_forall_not_mem.2
      intro i hi
      obtain ⟨h1, _⟩ := mem_ready.1 hi
      obtain ⟨h2, h3⟩ := not_lis.1 h1
      exact h3 (hall i (by omega))
    obtain ⟨f1, f2, f3⟩ := hI.final hF hall
    exact ⟨hnil, hQ ρ a w f1 f2 f3 hI.size hI.defers⟩
  | succ fuel ih =>
    intro listed ρ X q a w hsz hleft hI
    refine ⟨fun hnil => ?_, fun j hj => ?_⟩
    · have hall : ∀ i, i < ops.size → lis listed i := by
        intro i
        induction i using Nat.strongRecOn with
        | ind i ih' =>
          intro hi
          apply Classical.byContradiction
          intro hn
          have hmem : i ∈ Region.ready .any ops listed := mem_ready.2 ⟨not_lis.2 ⟨by omega, hn⟩, ops[i], Array.getElem?_eq_getElem hi, fun e he hb => by
            have he0 : Edge0 ops e.on i := ⟨_, e, Array.getElem?_eq_getElem hi, he, hb, rfl⟩
            exact ih' e.on (hF.back _ _ he0) (Nat.lt_trans (hF.back _ _ he0) hi)⟩
          rw [hnil] at hmem; cases hmem
      obtain ⟨f1, f2, f3⟩ := hI.final hF hall
      exact hQ ρ a w f1 f2 f3 hI.size hI.defers
    · obtain ⟨h1, o, ho, hed⟩ := mem_ready.1 hj
      obtain ⟨h2, hnj⟩ := not_lis.1 h1
      have hr : ∀ i, Edge0 ops i j → lis listed i := by
        rintro i ⟨o', e, ho', he, hb, rfl⟩
        rw [ho] at ho'; cases ho'
        exact hed e he hb
      have hL' := lis_set h2
      have hmem : o ∈ ops.toList := List.mem_of_getElem? (i := j) (by simpa using ho)
      have hd := hdst o hmem
      have hsz' : (listed.setIfInBounds j true).size = ops.size := by simpa using hsz
      have hl' : left (listed.setIfInBounds j true) = fuel := by have := left_set h1; omega
      unfold wpOp
      rw [ho]
      simp only
      obtain ⟨tm, hT, hs⟩ := hI.slots
      have hwb : wantedB o ops (T j) = Region.wanted o (yielded ops a.tmps) := by
        rw [← wanted_ok hT]
        exact (wantedB_congr fun t ht => slots_ready hF hI ho hnj hr hs (.inr ht)).symm
      cases hw : Region.wanted o (yielded ops a.tmps) with
      | false =>
        rw [hw] at hwb
        simp only [Bool.false_eq_true, if_false]
        obtain ⟨q', hI'⟩ := unwanted_ok hF hI ho hnj hr hwb hd hL'
        exact ih _ ρ X q' _ w hsz' hl' hI'
      | true =>
        rw [hw] at hwb
        simp only [if_true]
        refine .inl ?_
        by_cases hk3 : kindOf env o.op = 3
        · refine (eff_ok hE hC hF hI ho hnj hr hk3 hwb hd hL').wp ?_
          rintro v' w' ⟨ρ', X', hI'⟩
          exact ih _ ρ' X' _ _ w' hsz' hl' hI'
        · refine (calm_ok hE hC hF hI ho hnj hr hk3 hwb hd hL').wp ?_
          rintro v' w' ⟨ρ', X', hI'⟩
          exact ih _ ρ' X' _ _ w' hsz' hl' hI'
end

section
variable {P : Program} {env : Env} (hE : EnvOk P env) {call : Call} (hC : CallsOk P call)

theorem facts_of {ops : Array Oper} {hot : List (Nat × Nat)} {base : Nat} {tm : Tm} {H : Heap} {tr : List Snap} {r : Tm × Heap} (hp : plan env ops = some hot) (ht : trace env call ops ops.toList base tm H = some (tr, r))
    (hh : hotOk env call ops base tr hot = some ()) : Facts env call ops base (TT tr r) (KK tr r) (VV tr) := by
  obtain ⟨p1, p2⟩ := plan_ok hp
  obtain ⟨_, _, _, _, t5⟩ := trace_ok _ _ _ _ _ _ ht
  have at' : ∀ {k o}, ops[k]? = some o → ops.toList[k]? = some o := fun h => by rw [Array.getElem?_toList]; exact h
  have hone : ∀ a b oa ob, ops[a]? = some oa → ops[b]? = some ob → (a, b) ∈ hot →
      (ifB (Nat.beq (kindOf env oa.op) 3) (ifB (wantedB ob ops (TT tr r b)) (sameRes (evOp ob.op env call (base + b) (TT tr r b) (KK tr r a)) (VV tr b)) true)
        (ifB (wantedB oa ops (TT tr r a)) (sameRes (evOp oa.op env call (base + a) (TT tr r a) (KK tr r (b + 1))) (VV tr a)) true)) = true := by
    intro a b oa ob ha hb hm
    have h := hotOk_mem hh _ hm
    unfold hotOne at h
    simp only [bnd_eq, chk_eq, nthL_eq] at h
    obtain ⟨x, hx, y, hy, s, hs, t, ht, hc, _⟩ := h
    rw [at' ha] at hx; cases hx
    rw [at' hb] at hy; cases hy
    obtain ⟨_, _, _, s', hs', e1, e2, e3, e4⟩ := t5 a oa (at' ha)
    rw [hs] at hs'; cases hs'
    obtain ⟨_, _, _, u', hu', f1, f2, f3, f4⟩ := t5 b ob (at' hb)
    rw [ht] at hu'; cases hu'
    unfold reread at hc
    rw [e1, e2, e3, f1, f3, f4] at hc
    exact hc
  refine ⟨fun a b oa ob hab ha hb => ?_, p2, fun k o ho => (t5 k o (at' ho)).1, fun k o ho => (t5 k o (at' ho)).2.1, fun k o ho => (t5 k o (at' ho)).2.2.1⟩
  rcases p1 a b hab oa ob ha hb with h | ⟨h1, h2, h3⟩
  · exact .inl h
  · refine .inr ⟨h1, h2, fun ka kb hw => ?_, fun ka kb hw => ?_⟩
    · have h := hone a b oa ob ha hb (h3 (.inl ⟨ka, kb⟩))
      rw [ka, show Nat.beq 3 3 = true from rfl, ifB_true, hw, ifB_true] at h
      exact sameRes_ok h
    · have h := hone a b oa ob ha hb (h3 (.inr ⟨ka, kb⟩))
      rw [ka, show Nat.beq 2 3 = false from rfl, ifB_false, hw, ifB_true] at h
      exact sameRes_ok h

include hE hC in
theorem drawOk (hm : P.follows .mixedOrders = true) : DrawOk P env call := by
  intro id ops ρ tm H a w r Q h hdst hT hH hQ
  unfold evDraw at h
  simp only [bnd_eq] at h
  obtain ⟨hot, hp, H1, hb, ⟨tr, r'⟩, ht, u, hu, e⟩ := h
  cases e
  obtain ⟨b1, b2, b3⟩ := bump_inv hb
  have hln : lenL ops.toList = ops.size := by rw [lenL_eq]; simp
  rw [hln] at b2
  have hget : ∀ b, H1.get b = H.get b := fun b => by unfold Heap.get; rw [b1]
  have hF := facts_of hp ht hu
  obtain ⟨t1, t2, t3, t4, _⟩ := trace_ok _ _ _ _ _ _ ht
  have hlen : ops.toList.length = ops.size := by simp
  rw [hlen] at t3 t4
  refine wp_region_any hm ?_
  refine any_ok (a0 := a) (w0 := { w with drawn := w.drawn + 1 }) (ρ0 := ρ) hE hC hF hdst (fun ρ' a' w' f1 f2 f3 f4 f5 => ?_) ops.size _ ρ H.get 0 a _ (by simp) (by simp [left]) ?_
  · rw [t3] at f1
    rw [t4] at f2 f3
    rw [t2] at f3
    refine hQ ρ' a' w' f1 f2 ⟨f3.ext, f3.os, f3.tape, f3.output, f3.size, fun B hB hn => f3.keep B hB fun ⟨b, x, e, g1, g2, g3, g4⟩ => hn ⟨b, x, e, by rwa [hget] at g1, g2, g3, g4⟩, fun B hB hW => ?_, Nat.le_trans (by omega) f3.next, fun B hB hM => ?_, fun b h1 h2 => ?_, fun b h1 h2 => ?_⟩ f4 f5
    · obtain ⟨b, x, e, g1, g2, g3, g4⟩ := f3.wr B hB hW
      exact ⟨b, x, e, by rwa [hget] at g1, g2, g3, g4⟩
    · obtain ⟨b, x, e, g1, g2, g3⟩ := f3.mp B hB hM
      exact ⟨b, x, e, by rwa [hget] at g1, g2, g3⟩
    · rw [f3.abs1 b h1 h2, hget]
    · exact f3.abs2 b (by rw [hget]; exact h1) h2
  · have hnl : ∀ i, ¬ lis (Array.replicate ops.size false) i := fun i h => by
      unfold lis at h
      rcases Nat.lt_or_ge i ops.size with hi | hi
      · simp [hi] at h
      · simp [Array.getD_eq_getD_getElem?, hi] at h
    have hfresh : ∀ i, ρ (H.next + i) = none := fun i => by
      cases hr : ρ (H.next + i) with
      | none => rfl
      | some e => have := hH.dom _ e hr; omega
    exact {
      size := rfl
      defers := rfl
      down := fun i j _ h => (hnl j h).elim
      inb := fun i h => (hnl i h).elim
      valid := ⟨Nat.zero_le _, fun e o _ _ => ⟨fun h => (hnl e h).elim, fun h => by omega⟩⟩
      least := .inl rfl
      slots := ⟨tm, hT, fun t => .inr ⟨fun k _ h => (hnl k h).elim, by rw [t1]⟩⟩
      hx := by
        rw [t2]
        exact ⟨hH.blk, hH.inj, fun b e he => by have := hH.dom b e he; omega, b3⟩
      un := fun i _ _ => hfresh i
      nx := by rw [t2]; omega
      part := {
        sub := fun b x hb _ => by rw [t2, hget] at hb; exact hb
        early := fun i x _ h => (hnl i h).elim
        gone := fun i o hi _ => by
          rw [t2, hget]
          exact hH.top _ (by omega)
        late := fun i x hi => by omega
        abs1 := fun _ _ _ => rfl
        abs2 := fun _ _ h => h
        top := fun b hb => by rw [t2] at hb ⊢; rw [hget]; exact hH.top b (by omega) }
      sx := by
        rw [t2]
        exact ⟨fun b => .inl rfl, rfl, rfl, rfl, Nat.le_refl _, fun _ _ _ => rfl, fun b x e h1 h2 _ h4 => ⟨b, x, e, by rw [hget]; exact h1, h2, rfl, h4⟩, fun b x e h1 h2 _ => ⟨b, x, e, by rw [hget]; exact h1, h2, rfl⟩, Nat.le_refl _⟩ }
end
end Go.Ev
