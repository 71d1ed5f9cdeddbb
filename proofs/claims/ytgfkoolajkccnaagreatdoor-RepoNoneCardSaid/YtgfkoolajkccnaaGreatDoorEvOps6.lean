/- New slices and maps; slicing. -/
import Derived.Test.YtgfkoolajkccnaaGreatDoorEvOps5
/-! New slices and maps; slicing. -/
namespace Go.Ev
open Go.RowKit

/-- An operand that need not be there. -/
inductive OV (ρ : Map) : Option Value → Option Value → Prop
  | none : OV ρ none none
  | some {v v' : Value} (h : V ρ v v') : OV ρ (some v) (some v')

theorem inB_inv {i : Int} {n j : Nat} (h : inB i n = some j) : i = j ∧ j ≤ n := by
  cases i with
  | ofNat m =>
    have h' : chk (Nat.ble m n) (some m) = some j := h
    rw [chk_eq, Nat.ble_eq] at h'
    obtain ⟨h1, e⟩ := h'
    cases e
    exact ⟨rfl, h1⟩
  | negSucc m => cases h

theorem bound_inv {ρ : Map} {x x' : Option Value} {most dflt n : Nat} (h : bound x most dflt = some n) (hx : OV ρ x x') :
    (x = none ∧ x' = none ∧ n = dflt) ∨ (∃ k, x ≠ none ∧ x' = some (.int k n) ∧ n ≤ most) := by
  cases hx with
  | none => have e : some dflt = some n := h; cases e; exact .inl ⟨rfl, rfl, rfl⟩
  | some hv =>
    rename_i v v'
    have h' : bnd (intOf' v) (fun i => inB i most) = some n := h
    rw [bnd_eq] at h'
    obtain ⟨i, hi, h'⟩ := h'
    obtain ⟨k, rfl⟩ := intOf_eq hi
    obtain ⟨rfl, hn⟩ := inB_inv h'
    exact .inr ⟨k, by simp, by rw [hv.int_inv], hn⟩

theorem run_sliceBound {P : Program} {w : World} {k : IntKind} {n y : Nat} (h : n ≤ y) (code : BoundsCode) : (Instr.sliceBound (.int k n) y code).run P w = .ok n w := by
  have : (0 : Int) ≤ (n : Int) ∧ (n : Int) ≤ (y : Int) := by omega
  simp only [Instr.sliceBound, asIntOf, Sem.run_bind, Sem.run_pure, Result.andThen_ok, this, and_self, if_true, Int.toNat_natCast]

theorem isN_eq {α : Type} {x : Option α} : isN x = true ↔ x = none := by cases x <;> simp [isN]

theorem elemAt_inv {H : Heap} {b : Nat} {e : TypeId} (h : elemAt H b = some e) : ∃ cs ro, H.get b = some (.cells cs e ro) := by
  unfold elemAt at h
  simp only [bnd_eq] at h
  obtain ⟨x, hx, c, hc, e'⟩ := h
  rw [cellsOf_eq] at hc
  cases e'
  exact ⟨_, _, by rw [hx, hc]⟩

theorem mkSlice_eq (a : Option Addr) (n c : Nat) : mkSlice a n c = some (.slice a n c) := by simp [mkSlice]

theorem sliceE_inv {v : Value} {size len room : Nat} {b : Option Addr} {lo hi mx : Option Value} (h : sliceE size b len room lo hi mx = some v) :
    ∃ m h' l, (mx = none ∨ hi ≠ none) ∧ bound mx room room = some m ∧ m ≤ 4611686018427387904 ∧ bound hi m len = some h' ∧ bound lo h' 0 = some l ∧
      v = .slice (if m = l then b else b.map (moveBy · (l * size))) (h' - l) (m - l) := by
  unfold sliceE at h
  simp only [bnd_eq, chk_eq, Bool.or_eq_true, Bool.not_eq_true'] at h
  obtain ⟨hx, m, hm, hle, h', hh, l, hl, e⟩ := h
  rw [mkSlice_eq] at e
  cases e
  refine ⟨m, h', l, ?_, hm, by rwa [Nat.ble_eq] at hle, hh, hl, ?_⟩
  · rcases hx with hx | hx
    · exact .inl (isN_eq.1 hx)
    · refine .inr fun h => ?_
      rw [isN_eq.2 h] at hx; cases hx
  · congr 1
    rw [ifB_eq]
    have : (Nat.beq m l = true) ↔ m = l := Nat.beq_eq ▸ Iff.rfl
    simp only [this]
    split
    · rfl
    · cases b <;> rfl

theorem bound_le {ρ : Map} {x x' : Option Value} {most dflt n : Nat} (h : bound x most dflt = some n) (hx : OV ρ x x') (hd : dflt ≤ most) : n ≤ most := by
  rcases bound_inv h hx with ⟨_, _, rfl⟩ | ⟨_, _, _, h⟩
  · exact hd
  · exact h

section
variable {P : Program} {S : Nat → Prop} {ρ : Map} {H : Heap} {w : World} {o : Oper} {a : Act}

theorem optVal_ok {tm : Tm} (hT : TR ρ tm a.tmps) {x : Option Operand} {r : Option Value} (h : optVal tm x = some r) : OV ρ r (x.map a.eval) := by
  cases x with
  | none => have e : some none = some r := h; cases e; exact .none
  | some x =>
    have h' : bnd (eval tm x) (fun v => some (some v)) = some r := h
    rw [bnd_eq] at h'
    obtain ⟨v, hv, e⟩ := h'
    cases e
    exact .some (eval_ok hT hv)


/-- The bounds that the model reckons. -/
theorem run_bounds {lo hi mx lo' hi' mx' : Option Value} (hlo : OV ρ lo lo') (hhi : OV ρ hi hi') (hmx : OV ρ mx mx') {isS : Bool} {len cap len' m h l : Nat}
    (hm : (mx = none ∧ m ≤ cap) ∨ (mx ≠ none ∧ bound mx len' len' = some m ∧ len' ≤ cap)) (hx : mx = none ∨ hi ≠ none) (hh : bound hi m len = some h) (hl : bound lo h 0 = some l) :
    ∃ m', (Instr.sliceBounds isS len cap lo' hi' mx').run P w = .ok (l, h, m') w ∧ (mx = none → m' = cap) ∧ (mx ≠ none → m' = m) := by
  rcases hm with ⟨rfl, hm⟩ | ⟨hne, hb, hlen⟩
  · cases hmx
    refine ⟨cap, ?_, fun _ => rfl, fun h => (h rfl).elim⟩
    unfold Instr.sliceBounds
    rcases bound_inv hh hhi with ⟨_, rfl, rfl⟩ | ⟨k, _, rfl, hn⟩
    · rcases bound_inv hl hlo with ⟨_, rfl, rfl⟩ | ⟨k3, _, rfl, hn3⟩
      · simp
      · simp [run_sliceBound hn3]
    · rcases bound_inv hl hlo with ⟨_, rfl, rfl⟩ | ⟨k3, _, rfl, hn3⟩
      · simp [run_sliceBound (Nat.le_trans hn hm)]
      · simp [run_sliceBound (Nat.le_trans hn hm), run_sliceBound hn3]
  · rcases bound_inv hb hmx with ⟨rfl, _, _⟩ | ⟨k, _, rfl, hn⟩
    · exact (hne rfl).elim
    · refine ⟨m, ?_, fun h => (hne h).elim, fun _ => rfl⟩
      rcases bound_inv hh hhi with ⟨rfl, _, _⟩ | ⟨k2, _, rfl, hn2⟩
      · rcases hx with hx | hx
        · exact (hne hx).elim
        · exact (hx rfl).elim
      · unfold Instr.sliceBounds
        simp only [Sem.run_bind, Result.andThen_ok, run_sliceBound (Nat.le_trans hn hlen), run_sliceBound hn2]
        rcases bound_inv hl hlo with ⟨_, rfl, rfl⟩ | ⟨k3, _, rfl, hn3⟩
        · simp
        · simp [run_sliceBound hn3]

variable {env : Env} (hE : EnvOk P env)
include hE
variable {call : Call} {id : Nat} {tm : Tm} {v : Value} {H' : Heap}
variable (hH : HR P ρ H w)

include hH in
theorem block_k {b : Nat} {e : Emb} {cs : List Value} {t : TypeId} {ro : Acc} {k : Nat} (hb : H.get b = some (.cells cs t ro)) (he : ρ b = some e) (hk : env.size t = some k) : e.k = k ∧ cs.length = e.size ∧ e.size ≤ e.room := by
  have h := hH.blk _ _ _ hb he
  generalize w.heap[e.B]? = g at h
  cases h with
  | cells hi hk' hs hr hC hf hv h1 hmodb =>
    unfold Env.size at hk
    rw [bnd_eq] at hk
    obtain ⟨j, hj, e'⟩ := hk
    cases e'
    have := hE.info _ _ hj
    rw [hi] at this
    cases this
    exact ⟨hk'.symm, hs, hr⟩

theorem run_slice_of {t e : TypeId} {x' : Value} {b : Option Addr} {n c : Nat} (hu : env.und t = some (.slice e)) {size : Nat} (hs : env.size e = some size) (hx : x' = .slice b n c) {lo' hi' mx' : Option Value} {l h m : Nat}
    (hb : (Instr.sliceBounds true n c lo' hi' mx').run P w = .ok (l, h, m) w) :
    (Instr.sliceAt t x' lo' hi' mx').run P w = .ok (.slice (if m = l then b else b.map (·.add (l * size))) (h - l) (m - l)) w := by
  subst hx
  simp only [Instr.sliceAt, Instr.slice, Sem.run_bind, run_und hE hu, Result.andThen_ok, hb, run_size hE hs, Sem.run_pure]

include hH in
theorem ok_slice (hT : TR ρ tm a.tmps) {t : TypeId} {x : Operand} {lo hi mx : Option Operand} (ho : o.op = .slice t x lo hi mx) (h : oSlice t x lo hi mx env call id tm H = some (v, H')) : Does P o a w (Post P S ρ H w v H') := by
  unfold oSlice retO at h
  simp only [bnd_eq] at h
  obtain ⟨u, hu, lov, hlo, hiv, hhi, mxv, hmx, d, hd, q, hq, e⟩ := h
  cases e
  have hV := eval_ok hT hu
  have hLO := optVal_ok hT hlo
  have hHI := optVal_ok hT hhi
  have hMX := optVal_ok hT hmx
  have done : ∀ {q' : Value}, (Instr.sliceAt t (a.eval x) (lo.map a.eval) (hi.map a.eval) (mx.map a.eval)).run P w = .ok q' w → V ρ v q' → Does P o a w (Post P S ρ H w v H) := by
    intro q' hrun hVq
    refine does_pure hH (v' := q') ?_ hVq
    simp only [execOp, ho]
    exact run_v hrun
  unfold sliceOf at hq
  split at hq
  · -- a string
    rename_i s
    unfold sliceStr at hq
    simp only [bnd_eq, chk_eq, lenL_eq, dropL_eq, takeL_eq] at hq
    obtain ⟨hn, h', hh, l, hl, e⟩ := hq
    cases e
    have hmn := isN_eq.1 hn
    subst hmn
    have hss : s.data.toList.length = s.size := by simp
    rw [hss] at hh
    obtain ⟨m', hrun, _, _⟩ := run_bounds (P := P) (w := w) (isS := false) (len := s.size) (cap := s.size) (len' := s.size) (m := s.size) hLO hHI hMX (.inl ⟨rfl, Nat.le_refl _⟩) (.inl rfl) hh hl
    have hmx' : mx.map a.eval = none := by cases hm : mx.map a.eval with | none => rfl | some z => rw [hm] at hMX; cases hMX
    rw [hmx'] at hrun
    refine done (q' := .string (s.extract l h')) ?_ ?_
    · simp only [Instr.sliceAt, Instr.slice, Sem.run_bind, run_und hE hd, Result.andThen_ok, hV.string_inv, hmx']
      simp [hrun]
    · have : s.extract l h' = ⟨⟨(s.data.toList.take h').drop l⟩⟩ := by
        have hd : (s.extract l h').data = s.data.extract l h' := by simp
        cases hx : s.extract l h' with
        | mk d => rw [hx] at hd; simp only at hd; subst hd; congr 1; apply Array.ext'; simp [List.extract_eq_take_drop, List.drop_take]
      rw [this]
      exact .string _
  · -- a slice
    rename_i e b len cap
    rw [bnd_eq] at hq
    obtain ⟨size, hs, hq⟩ := hq
    unfold sliceVal at hq
    generalize hg : a.eval x = g at hV
    rw [hg] at done
    have exact_case : ∀ (b' : Option Addr) (c room : Nat), sliceE size b len room lov hiv mxv = some v → g = .slice b' len c → room ≤ c → len ≤ room → (mxv = none → c = room) →
        (∀ l, V ρ (.slice (if c = l then b else b.map (moveBy · (l * size))) 0 0) (.slice (if c = l then b' else b'.map (·.add (l * size))) 0 0) ∨ True) →
        (∀ m h l, m ≤ room → h - l ≤ m - l → m - l ≤ 4611686018427387904 → V ρ (.slice (if m = l then b else b.map (moveBy · (l * size))) (h - l) (m - l)) (.slice (if m = l then b' else b'.map (·.add (l * size))) (h - l) (m - l))) →
        Does P o a w (Post P S ρ H w v H) := by
      intro b' c room hq hg' hrc hlr hcr _ hval
      obtain ⟨m, h', l, hx, hm, hm62, hh, hl, rfl⟩ := sliceE_inv hq
      have hmr : m ≤ room := bound_le hm hMX (Nat.le_refl _)
      have hlm : h' ≤ m := by
        rcases bound_inv hh hHI with ⟨h1, _, rfl⟩ | ⟨_, _, _, h2⟩
        · rcases hx with h3 | h3
          · subst h3
            have : room = m := by
              have e : some room = some m := hm
              exact Option.some.inj e
            omega
          · exact (h3 h1).elim
        · exact h2
      obtain ⟨m', hrun, h1, h2⟩ := run_bounds (P := P) (w := w) (isS := true) (len := len) (cap := c) (len' := room) (m := m) hLO hHI hMX (by
        by_cases hmn : mxv = none
        · exact .inl ⟨hmn, by omega⟩
        · exact .inr ⟨hmn, hm, hrc⟩) hx hh hl
      have hmm : m' = m := by
        by_cases hmn : mxv = none
        · rw [h1 hmn, hcr hmn]
          subst hmn
          have e : some room = some m := hm
          exact Option.some.inj e
        · exact h2 hmn
      subst hmm
      exact done (run_slice_of hE hd hs hg' hrun) (hval _ _ _ hmr (by omega) (by omega))
    have moved : ∀ (p p' : Addr), AR ρ p p' → ∀ (m l : Nat), (if m = l then some p' else (some p').map (·.add (l * size))) = some (if m = l then p' else p'.add (l * size)) ∧
        (if m = l then some p else (some p).map (moveBy · (l * size))) = some (if m = l then p else moveBy p (l * size)) ∧ AR ρ (if m = l then p else moveBy p (l * size)) (if m = l then p' else p'.add (l * size)) := by
      intro p p' hAR m l
      by_cases h : m = l
      · simp [h, hAR]
      · simp only [h, if_false]
        exact ⟨rfl, rfl, hAR.move _⟩
    have hval_of : ∀ (p p' : Addr), AR ρ p p' → ∀ m h l, h - l ≤ m - l → m - l ≤ 4611686018427387904 →
        V ρ (.slice (if m = l then some p else (some p).map (moveBy · (l * size))) (h - l) (m - l)) (.slice (if m = l then some p' else (some p').map (·.add (l * size))) (h - l) (m - l)) := by
      intro p p' hAR m h l h1 h2
      obtain ⟨e1, e2, hA⟩ := moved p p' hAR m l
      rw [e1, e2]
      generalize (if m = l then p else moveBy p (l * size)) = z at hA
      generalize (if m = l then p' else p'.add (l * size)) = z' at hA
      obtain ⟨zb, zo, zs⟩ := z
      obtain ⟨em, he, hsp, rfl⟩ := hA
      simp only at hsp; subst hsp
      exact .slice he h1 (by unfold U; omega)
    cases hV with
    | nilSlice =>
      have hc0 : isU 0 = false := rfl
      rw [hc0, Bool.false_and, ifB_false, ifB_false, Bool.not_false, Bool.true_or, chk_true] at hq
      refine exact_case none 0 0 hq rfl (Nat.le_refl _) (Nat.le_refl _) (fun _ => rfl) (fun _ => .inr trivial) ?_
      intro m h l hm h1 h2
      have hm0 : m - l = 0 := by omega
      have hh0 : h - l = 0 := by omega
      rw [hm0, hh0]
      simp only [Option.map_none, ite_self]
      exact .nilSlice
    | slice h0 hn hc =>
      have hc0 : isU cap = false := by
        unfold isU
        cases hb : Nat.beq cap U with
        | false => rfl
        | true => exact (hc (Nat.eq_of_beq_eq_true hb)).elim
      rw [hc0, Bool.false_and, ifB_false, ifB_false, Bool.not_false, Bool.true_or, chk_true] at hq
      exact exact_case _ cap cap hq rfl (Nat.le_refl _) hn (fun _ => rfl) (fun _ => .inr trivial) (fun m h l _ h1 h2 => hval_of _ _ ⟨_, h0, rfl, rfl⟩ m h l h1 h2)
    | sliceU h0 hn hc =>
      rename_i bb oo c em
      have hc0 : isU U = true := rfl
      rw [hc0, Bool.true_and, ifB_true] at hq
      by_cases hmn : mxv = none
      · subst hmn
        rw [isN_eq.2 rfl, ifB_true, bnd_some] at hq
        unfold sliceU at hq
        simp only [bnd_eq, chk_eq, mkSlice_eq] at hq
        obtain ⟨et, het, k, hk, hks, h', hh, l, hl, e'⟩ := hq
        cases e'
        obtain ⟨cs, ro, hblk⟩ := elemAt_inv het
        have hks' := Nat.eq_of_beq_eq_true hks
        subst hks'
        obtain ⟨hek, hsz, hroom⟩ := block_k hE hH hblk h0 hk
        have hhl : h' ≤ len := bound_le hh hHI (Nat.le_refl _)
        have hll : l ≤ h' := bound_le hl hLO (Nat.zero_le _)
        obtain ⟨m', hrun, h1, h2⟩ := run_bounds (P := P) (w := w) (isS := true) (len := len) (cap := c) (len' := 0) (m := len) hLO hHI hMX (.inl ⟨rfl, hn⟩) (.inl rfl) hh hl
        have hm' := h1 rfl
        subst hm'
        refine done (run_slice_of hE hd hs rfl hrun) ?_
        have hA : AR ρ (moveBy ⟨bb, oo, none⟩ (l * k)) ((⟨em.B, em.base + oo, none⟩ : Addr).add (l * k)) := AR.move (a := ⟨bb, oo, none⟩) ⟨_, h0, rfl, rfl⟩ _
        by_cases hml : m' = l
        · -- the capacity is used up
          have e0 : h' - l = 0 := by omega
          have e1 : m' - l = 0 := by omega
          show V ρ (.slice (some (moveBy ⟨bb, oo, none⟩ (Nat.mul l k))) (h' - l) U) _
          rw [if_pos hml, e0, e1]
          have hoff : (moveBy ⟨bb, oo, none⟩ (l * k) : Addr) = ⟨bb, oo + l * k, none⟩ := by
            unfold moveBy
            rw [ifB_eq]
            split
            · rename_i hz
              have := Nat.eq_of_beq_eq_true hz
              rw [this]; rfl
            · rfl
          show V ρ (.slice (some (moveBy ⟨bb, oo, none⟩ (Nat.mul l k))) 0 U) _
          rw [show Nat.mul l k = l * k from rfl, hoff]
          refine .empty h0 ?_
          rw [hek] at hc
          subst hml
          omega
        · rw [if_neg hml]
          show V ρ (.slice (some (moveBy ⟨bb, oo, none⟩ (Nat.mul l k))) (Nat.sub h' l) U) (.slice (some ((⟨em.B, em.base + oo, none⟩ : Addr).add (l * k))) (h' - l) (m' - l))
          rw [show Nat.mul l k = l * k from rfl, show Nat.sub h' l = h' - l from rfl, add_mk]
          have hoff : (moveBy ⟨bb, oo, none⟩ (l * k) : Addr) = ⟨bb, oo + l * k, none⟩ := by
            unfold moveBy
            rw [ifB_eq]
            split
            · rename_i hz
              have := Nat.eq_of_beq_eq_true hz
              rw [this]; rfl
            · rfl
          rw [hoff, Nat.add_assoc]
          refine .sliceU h0 (by omega) ?_
          rw [hek] at hc ⊢
          rw [Nat.sub_mul]
          have : l * k ≤ m' * k := Nat.mul_le_mul_right k (by omega)
          omega
      · have hne : isN mxv = false := by
          cases hb : isN mxv with
          | false => rfl
          | true => exact (hmn (isN_eq.1 hb)).elim
        rw [hne, ifB_false, chk_eq] at hq
        exact exact_case _ c len hq.2 rfl hn (Nat.le_refl _) (fun h => (hmn h).elim) (fun _ => .inr trivial) (fun m h l _ h1 h2 => hval_of _ _ ⟨_, h0, rfl, rfl⟩ m h l h1 h2)
    | empty h0 hs0 =>
      rename_i bb oo em a'
      have hc0 : isU U = true := rfl
      rw [hc0, Bool.true_and, ifB_true] at hq
      by_cases hmn : mxv = none
      · subst hmn
        rw [isN_eq.2 rfl, ifB_true, bnd_some] at hq
        unfold sliceU at hq
        simp only [bnd_eq, chk_eq, mkSlice_eq] at hq
        obtain ⟨et, het, k, hk, hks, h', hh, l, hl, e'⟩ := hq
        cases e'
        have hhl : h' ≤ 0 := bound_le hh hHI (Nat.le_refl _)
        have hll : l ≤ h' := bound_le hl hLO (Nat.zero_le _)
        have e0 : h' = 0 := by omega
        have e1 : l = 0 := by omega
        subst e0 e1
        obtain ⟨m', hrun, h1, h2⟩ := run_bounds (P := P) (w := w) (isS := true) (len := 0) (cap := 0) (len' := 0) (m := 0) hLO hHI hMX (.inl ⟨rfl, Nat.le_refl _⟩) (.inl rfl) hh hl
        have hm' := h1 rfl
        subst hm'
        refine done (run_slice_of hE hd hs rfl hrun) ?_
        show V ρ (.slice (some (moveBy ⟨bb, oo, none⟩ (Nat.mul 0 size))) 0 U) (.slice (some a') 0 0)
        rw [show Nat.mul 0 size = 0 from Nat.zero_mul size]
        exact .empty h0 hs0
      · have hne : isN mxv = false := by
          cases hb : isN mxv with
          | false => rfl
          | true => exact (hmn (isN_eq.1 hb)).elim
        rw [hne, ifB_false, chk_eq] at hq
        have := hq.1
        simp at this
  · -- an array
    rename_i n e p
    rw [bnd_eq] at hq
    obtain ⟨size, hs, hq⟩ := hq
    unfold sliceArr at hq
    obtain ⟨p', hp', hAR⟩ := hV.ptrInv
    obtain ⟨m, h', l, hx, hm, hm62, hh, hl, rfl⟩ := sliceE_inv hq
    have hmr : m ≤ n := bound_le hm hMX (Nat.le_refl _)
    have hlm : h' ≤ m := by
      rcases bound_inv hh hHI with ⟨h1, _, h9⟩ | ⟨_, _, _, h2⟩
      · rcases hx with h3 | h3
        · subst h3
          have e : some n = some m := hm
          have := Option.some.inj e
          omega
        · exact (h3 h1).elim
      · exact h2
    obtain ⟨m', hrun, h1, h2⟩ := run_bounds (P := P) (w := w) (isS := false) (len := n) (cap := n) (len' := n) (m := m) hLO hHI hMX (by
      by_cases hmn : mxv = none
      · exact .inl ⟨hmn, hmr⟩
      · exact .inr ⟨hmn, hm, Nat.le_refl _⟩) hx hh hl
    have hmm : m' = m := by
      by_cases hmn : mxv = none
      · rw [h1 hmn]
        subst hmn
        have e : some n = some m := hm
        exact Option.some.inj e
      · exact h2 hmn
    subst hmm
    refine done (q' := .slice (some (if m' = l then p' else p'.add (l * size))) (h' - l) (m' - l)) ?_ ?_
    · simp only [Instr.sliceAt, Sem.run_bind, run_und hE hd, Result.andThen_ok, hp', Instr.sureAddr, Sem.run_pure, hrun, run_size hE hs]
    · have hA : AR ρ (if m' = l then p else moveBy p (l * size)) (if m' = l then p' else p'.add (l * size)) := by
        by_cases h : m' = l
        · simp [h, hAR]
        · simp only [h, if_false]
          exact hAR.move _
      have e1 : (if m' = l then some p else (some p).map (moveBy · (l * size))) = some (if m' = l then p else moveBy p (l * size)) := by
        by_cases h : m' = l <;> simp [h]
      rw [e1]
      generalize (if m' = l then p else moveBy p (l * size)) = z at hA
      generalize (if m' = l then p' else p'.add (l * size)) = z' at hA
      obtain ⟨zb, zo, zs⟩ := z
      obtain ⟨em, he, hsp, rfl⟩ := hA
      simp only at hsp; subst hsp
      exact .slice he (by omega) (by unfold U; omega)
  · cases hq
end
end Go.Ev
