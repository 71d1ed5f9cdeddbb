/- append and copy, the evaluator's. -/
import Derived.Test.YtgfkoolajkccnaaGreatDoorEvOps8
/-! append and copy, the evaluator's. -/
namespace Go.Ev
open Go.RowKit

section
variable {P : Program} {S : Nat → Prop} {ρ : Map} {H : Heap} {w : World} {a : Act}
variable {env : Env} (hE : EnvOk P env)
variable {id : Nat} {v : Value} {H' : Heap}
variable (hH : HR P ρ H w) (hid : ρ id = none) (hlt : id < H.next) (hS : S id)

theorem moveBy_off (b o n : Nat) : moveBy ⟨b, o, none⟩ n = ⟨b, o + n, none⟩ := by
  unfold moveBy
  rw [ifB_eq]
  split
  · rename_i hz
    have := Nat.eq_of_beq_eq_true hz
    rw [this]; rfl
  · rfl

include hH in
theorem firstCells_whole {p p' : Addr} (hAR : AR ρ p p') {size n c : Nat} {l : List Value} (hl : cellsAt H p (n * size) = some l) :
    ∃ l', VL ρ l l' ∧ (∀ y ∈ l', y.oneCell' = true) ∧ l'.length = n * size ∧ (Builtin.firstCells size n (.slice (some p') n c)).run P w = .ok ⟨l'⟩ w := by
  obtain ⟨l', hVL, h1, hlen, hc⟩ := hH.load hAR hl
  exact ⟨l', hVL, h1, hlen, run_loadCells_of hlen hc⟩

include hE hH hid hlt hS in
theorem append_ok {t1 t2 ty : TypeId} {s s' x x' : Value} (hs : V ρ s s') (hx : V ρ x x') (h : append env H id t1 t2 s x = some (v, H')) :
    ∃ v' w', (Builtin.append_ #[t1, t2] ty #[s', x']).run P w = .ok v' w' ∧ Post P S ρ H w v H' v' w' := by
  unfold append appendOf at h
  simp only [bnd_eq, chk_eq, Bool.not_eq_true'] at h
  obtain ⟨d2, hd2, hni, elem, hel, ⟨base, len, cap⟩, hp, i, hi, z, hz, zs, hzs, ⟨n, new⟩, hsrc, h⟩ := h
  have hsp : s = .slice base len cap := by
    cases s with
    | slice b n c => simp [sliceParts] at hp; obtain ⟨rfl, rfl, rfl⟩ := hp; rfl
    | _ => simp [sliceParts] at hp
  subst hsp
  have hd := hE.und _ _ (slice_inv hel)
  have hdd2 := hE.und _ _ hd2
  have hsize : ∀ w, (sizeOf elem).run P w = .ok i.size w := fun w => run_size hE (size_eq hi) w
  dsimp only at h
  obtain ⟨new', hVn, hn1, hnl, hlen, hfirst⟩ := source_ok hH hsrc hx
  have hnew : (Builtin.firstCells i.size n x').run P w = .ok ⟨new'⟩ w := by
    have := hfirst n (Nat.le_refl _)
    rwa [List.take_of_length_le (by omega)] at this
  obtain ⟨newd', _, _, _, _, hfirstd⟩ := source_ok (w := { w with drawn := w.drawn + 1 }) hH.drewOk hsrc hx
  -- the new elements, read behind a draw, are the same
  have hnewd : (Builtin.firstCells i.size n x').run P { w with drawn := w.drawn + 1 } = .ok ⟨new'⟩ { w with drawn := w.drawn + 1 } := by
    unfold source at hsrc
    split at hsrc
    · cases hsrc; cases hx
      have : new' = [] := by cases hVn; rfl
      subst this
      simp [Builtin.firstCells]
    · rename_i p n' c'
      rw [bnd_eq] at hsrc
      obtain ⟨l, hl, e⟩ := hsrc
      simp only [Option.some.injEq, Prod.mk.injEq] at e
      obtain ⟨rfl, rfl⟩ := e
      have fin : ∀ (p' : Addr) (c'' : Nat), AR ρ p p' → x' = .slice (some p') n' c'' → (Builtin.firstCells i.size n' x').run P { w with drawn := w.drawn + 1 } = .ok ⟨new'⟩ { w with drawn := w.drawn + 1 } := by
        intro p' c'' hAR hx'
        subst hx'
        obtain ⟨l', _, _, hlen', hc⟩ := hH.load hAR hl
        have h1 := run_loadCells_of (P := P) (w := w) hlen' hc
        have h2 := run_loadCells_of (P := P) (w := { w with drawn := w.drawn + 1 }) (a' := p') hlen' hc
        have h3 : (loadCells p' (n' * i.size)).run P w = .ok ⟨new'⟩ w := hnew
        rw [show Nat.mul n' i.size = n' * i.size from rfl] at h1 h2
        rw [h1] at h3
        cases h3
        exact h2
      cases hx with
      | slice h0 hn hc => exact fin _ _ ⟨_, h0, rfl, rfl⟩ rfl
      | sliceU h0 hn hc => exact fin _ _ ⟨_, h0, rfl, rfl⟩ rfl
      | empty h0 hs0 =>
        have : new' = [] := List.length_eq_zero_iff.1 (by omega)
        subst this
        simp [Builtin.firstCells, loadCells, loadCellsFrom]
    · rw [hx.string_inv] at hnew ⊢
      simp only [Builtin.firstCells, Sem.run_pure, Result.ok.injEq] at hnew ⊢
      exact ⟨hnew.1, trivial⟩
    · cases hsrc
  rw [ifB_eq] at h
  split at h
  · -- nothing is appended
    rename_i hn0
    have hn0' : n = 0 := Nat.eq_of_beq_eq_true hn0
    subst hn0'
    cases h
    have : new' = [] := List.length_eq_zero_iff.1 (by omega)
    subst this
    have room : ∀ (b' : Option Addr) (c' : Nat), s' = .slice b' len c' → len ≤ c' → ∃ v' w', (Builtin.append_ #[t1, t2] ty #[s', x']).run P w = .ok v' w' ∧ Post P S ρ H w (.slice base len cap) H v' w' := by
      intro b' c' hs' hle
      refine ⟨s', w, ?_, ρ, hs, hH, .refl _ _ _ _⟩
      rw [hs']
      have := run_append_room (ty := ty) hd hdd2 hni (hsize w) (base := b') hlen hnew (show len + 0 ≤ c' by omega) (w' := w) (by cases b' <;> rfl)
      simpa using this
    cases hs with
    | nilSlice => exact room none 0 rfl (Nat.le_refl _)
    | slice h0 hn hc => exact room _ _ rfl hn
    | sliceU h0 hn hc => exact room _ _ rfl hn
    | empty h0 hs0 => exact room _ _ rfl (Nat.le_refl _)
  · rename_i hn0
    have hn0' : n ≠ 0 := fun e => hn0 (by subst e; rfl)
    rw [chk_eq] at h
    obtain ⟨hok, h⟩ := h
    simp only [Bool.and_eq_true, Bool.not_eq_true', Nat.ble_eq] at hok
    obtain ⟨hsz0, hbound⟩ := hok
    have hszp : 0 < i.size := by
      rcases Nat.eq_zero_or_pos i.size with e | e
      · rw [e] at hsz0; cases hsz0
      · exact e
    have hbound' : (len + n) * (i.bytes + 1) ≤ 1099511627776 := hbound
    cases hs with
    | nilSlice =>
      have h' : newSlice H id n U elem new = some (v, H') := h
      exact moved_ok hE hH hid hlt hS hd hdd2 hni hi hz hzs (base := none) (sLen := 0) (sCap := 0) (old := []) (old' := []) hlen (by simp [Builtin.firstCells]) hnewd .nil (by simp) hVn hn1 (by simp) hnl (by omega) hbound' (by simpa using h')
    | slice h0 hn hc =>
      rename_i b o e
      have h' : appendTo H id elem i.size ⟨b, o, none⟩ len cap n new = some (v, H') := h
      unfold appendTo at h'
      rw [isU_false hc, ifB_false, ifB_eq] at h'
      have hAR : AR ρ ⟨b, o, none⟩ ⟨e.B, e.base + o, none⟩ := ⟨e, h0, rfl, rfl⟩
      split at h'
      · rename_i hle
        rw [Nat.ble_eq] at hle
        have hle' : len + n ≤ cap := hle
        simp only [bnd_eq, mkSlice_eq] at h'
        obtain ⟨H1, hst, q, hq, e'⟩ := h'
        cases hq; cases e'
        obtain ⟨w', hrun, hH', hSt⟩ := hH.store (hAR.move _) hst hVn hn1 S
        refine ⟨_, w', run_append_room (ty := ty) hd hdd2 hni (hsize w) hlen hnew hle' hrun, ρ, ?_, hH', hSt⟩
        exact .slice h0 hle' hc
      · rename_i hle
        rw [Nat.ble_eq] at hle
        have hgt : cap < len + n := by have : ¬ len + n ≤ cap := hle; omega
        rw [bnd_eq] at h'
        obtain ⟨old, hold, h'⟩ := h'
        obtain ⟨old', hVo, ho1, hol, hfo⟩ := firstCells_whole (w := { w with drawn := w.drawn + 1 }) hH.drewOk hAR (c := cap) hold
        rw [appL_eq] at h'
        exact moved_ok hE hH hid hlt hS hd hdd2 hni hi hz hzs hlen hfo hnewd hVo ho1 hVn hn1 hol hnl hgt hbound' h'
    | sliceU h0 hn hc =>
      rename_i b o c e
      have h' : appendTo H id elem i.size ⟨b, o, none⟩ len U n new = some (v, H') := h
      unfold appendTo at h'
      rw [show isU U = true from rfl, ifB_true] at h'
      unfold appendU at h'
      simp only [chk_eq, bnd_eq, Bool.and_eq_true] at h'
      obtain ⟨_, x0, hx0, ⟨cs, elem', ro⟩, hcs, ⟨hro, helm⟩, h'⟩ := h'
      rw [cellsOf_eq] at hcs
      dsimp only at hcs hro helm h'
      have := Nat.eq_of_beq_eq_true helm
      have hro' := isRw_eq hro
      subst this hro' hcs
      have hAR : AR ρ ⟨b, o, none⟩ ⟨e.B, e.base + o, none⟩ := ⟨e, h0, rfl, rfl⟩
      obtain ⟨hek, hcsz, hroom⟩ := block_k hE hH hx0 h0 (size_eq hi)
      have hb := hH.blk _ _ _ hx0 h0
      rw [ifB_eq] at h'
      simp only [lenL_eq, appL_eq, dropL_eq] at h'
      split at h'
      · -- behind the last cell
        rename_i hend
        have hend' : o + len * i.size = cs.length := Nat.eq_of_beq_eq_true hend
        rw [chk_eq] at h'
        obtain ⟨hmodo, h'⟩ := h'
        have hmodo' : o % i.size = 0 := Nat.eq_of_beq_eq_true hmodo
        by_cases hle : len + n ≤ c
        · -- in place
          obtain ⟨rfl, rfl⟩ := newSlice_eq h'
          generalize hg : w.heap[e.B]? = g at hb
          cases hb with
          | cells hi' hk' hs' hr' hC hf hv' h1' hmodb =>
            rename_i C fr j
            have hln := hVn.length
            have hmul : (len + n) * i.size = len * i.size + n * i.size := Nat.add_mul _ _ _
            have hle2 : (len + n) * i.size ≤ c * i.size := Nat.mul_le_mul_right _ hle
            rw [hek] at hc
            obtain ⟨w', hrun, h2, h3, h4, h5, h6, h7⟩ := run_storeCells_row P e.B elem fr (e.base + o + len * i.size) new' 0 C w hg (by omega) (hf rfl) hn1
            let e' : Emb := ⟨e.B, e.base + o, (cs.drop o).length + new'.length, e.room - o, i.size⟩
            have hwinC : (win C e).drop o = (C.toList.drop (e.base + o)).take (e.size - o) := by
              unfold win
              rw [List.drop_take, List.drop_drop]
            have hCl : C.toList.length = e.base + e.room := by simpa using hC
            have hwin : win (putRow C (e.base + o + len * i.size) new') e' = (win C e).drop o ++ new' := by
              have hlo : e.base + o + len * i.size = e.base + e.size := by omega
              rw [hwinC]
              unfold win putRow
              simp only [e', hlo]
              have hl1 : (C.toList.take (e.base + e.size)).length = e.base + e.size := by rw [List.length_take, hCl]; omega
              rw [List.drop_append_of_le_length (by rw [hl1]; omega)]
              rw [← List.append_assoc]
              have hl2 : ((C.toList.take (e.base + e.size)).drop (e.base + o) ++ new').length = (cs.drop o).length + new'.length := by
                rw [List.length_append, List.length_drop, hl1, List.length_drop]; omega
              rw [← hl2, List.take_left' rfl, List.drop_take]
              congr 2
              omega
            have hren := hH.renum (S := S) (e' := e') (x' := .cells (cs.drop o ++ new) elem .rw) (w' := w') hx0 h0 rfl hid hlt rfl hS h2 h3 h4 h5 (by
              rw [h6]
              refine .cells (hE.info _ _ hi) rfl ?_ ?_ ?_ ?_ ?_ ?_ (by show (e.base + o) % i.size = 0; rw [hek] at hmodb; rw [Nat.add_mod, hmodb, hmodo', Nat.zero_add, Nat.zero_mod])
              · simp only [e', List.length_append]; omega
              · simp only [e', List.length_drop]; omega
              · rw [putRow_size _ _ _ (by omega)]; simp only [e']; omega
              · intro _ j hj
                rw [putRow_size _ _ _ (by omega)] at hj
                exact hf rfl j hj
              · rw [Nat.add_zero, hwin]
                exact ((hv'.drop o).append hVn).mono (Le.ins hid _)
              · rw [Nat.add_zero, hwin]
                intro y hy
                rcases List.mem_append.1 hy with hy | hy
                · exact h1' y (List.mem_of_mem_drop hy)
                · exact hn1 y hy) h7
            refine ⟨_, w', run_append_room (ty := ty) hd hdd2 hni (hsize w) (base := some ⟨e.B, e.base + o, none⟩) hlen hnew hle (by simp only [add_mk]; exact hrun), _, ?_, hren.1, hren.2⟩
            have := V.sliceU (ρ := ins ρ id e') (b := id) (o := 0) (n := len + n) (c := c) (ins_same _ _ _) hle (by simp only [e']; omega)
            simpa using this
        · -- moved
          obtain ⟨hHd, hSd⟩ := hH.drop h0 S
          have hold : cellsAt H ⟨b, o, none⟩ (len * i.size) = some (cs.drop o) := by
            unfold cellsAt
            simp only [chk_eq, bnd_eq]
            refine ⟨rfl, _, hx0, _, rfl, ?_⟩
            rw [takeN_eq, dropL_eq]
            dsimp only
            rw [List.length_drop, List.take_of_length_le (by rw [List.length_drop]; omega)]
            exact ⟨by omega, rfl⟩
          obtain ⟨old', hVo, ho1, hol, hfo⟩ := firstCells_whole (w := { w with drawn := w.drawn + 1 }) hH.drewOk hAR (c := c) hold
          obtain ⟨v', w', hrun, ρ', hV', hH', hS'⟩ := moved_ok hE hHd hid hlt hS hd hdd2 hni hi hz hzs hlen hfo hnewd hVo ho1 hVn hn1 hol hnl (by omega) hbound' h'
          exact ⟨v', w', hrun, ρ', hV', hH', hSd.trans hS'⟩
      · -- in the midst
        rename_i hend
        simp only [bnd_eq, mkSlice_eq] at h'
        obtain ⟨cs', hcs', q, hq, e'⟩ := h'
        cases hq; cases e'
        have hst : storeAt H ⟨b, o + len * i.size, none⟩ new = some (H.set b (.cells cs' elem .rw)) := by
          unfold storeAt
          simp only [chk_eq, bnd_eq]
          refine ⟨rfl, _, hx0, _, rfl, rfl, cs', hcs', rfl⟩
        unfold writeAt at hcs'
        rw [writeAt_eq] at hcs'
        obtain ⟨hfit, _⟩ := hcs'
        have hln := hVn.length
        have hfit' : o + len * i.size + new.length ≤ cs.length := hfit
        have hle : len + n ≤ c := by
          have hmul : (len + n) * i.size = len * i.size + n * i.size := Nat.add_mul _ _ _
          rw [hek] at hc
          have : (len + n) * i.size ≤ c * i.size := by omega
          exact Nat.le_of_mul_le_mul_right this hszp
        have hAR2 : AR ρ ⟨b, o + len * i.size, none⟩ ((⟨e.B, e.base + o, none⟩ : Addr).add (len * i.size)) := by
          have := hAR.move (len * i.size)
          rwa [moveBy_off] at this
        obtain ⟨w', hrun, hH', hSt⟩ := hH.store hAR2 hst hVn hn1 S
        exact ⟨_, w', run_append_room (ty := ty) hd hdd2 hni (hsize w) hlen hnew hle hrun, ρ, .sliceU h0 hle hc, hH', hSt⟩
    | empty h0 hs0 =>
      rename_i b o e a'
      have h' : appendTo H id elem i.size ⟨b, o, none⟩ 0 U n new = some (v, H') := h
      unfold appendTo at h'
      rw [show isU U = true from rfl, ifB_true] at h'
      unfold appendU at h'
      simp only [chk_eq, bnd_eq, Bool.and_eq_true] at h'
      obtain ⟨_, x0, hx0, ⟨cs, elem', ro⟩, hcs, ⟨hro, helm⟩, h'⟩ := h'
      rw [cellsOf_eq] at hcs
      dsimp only at hcs hro helm h'
      have := Nat.eq_of_beq_eq_true helm
      have hro' := isRw_eq hro
      subst this hro' hcs
      obtain ⟨hek, hcsz, hroom⟩ := block_k hE hH hx0 h0 (size_eq hi)
      rw [ifB_eq] at h'
      simp only [lenL_eq, appL_eq, dropL_eq] at h'
      split at h'
      · rw [chk_eq] at h'
        obtain ⟨_, h'⟩ := h'
        obtain ⟨hHd, hSd⟩ := hH.drop h0 S
        have hold : cs.drop o = [] := List.drop_eq_nil_of_le (by omega)
        rw [hold] at h'
        obtain ⟨v', w', hrun, ρ', hV', hH', hS'⟩ := moved_ok hE hHd hid hlt hS hd hdd2 hni hi hz hzs (base := some a') (sLen := 0) (sCap := 0) (old := []) (old' := []) hlen
          (by simp [Builtin.firstCells, loadCells, loadCellsFrom]) hnewd .nil (by simp) hVn hn1 (by simp) hnl (by omega) hbound' h'
        exact ⟨v', w', hrun, ρ', hV', hH', hSd.trans hS'⟩
      · rename_i hend
        simp only [bnd_eq, mkSlice_eq] at h'
        obtain ⟨cs', hcs', q, hq, e'⟩ := h'
        unfold writeAt at hcs'
        rw [writeAt_eq] at hcs'
        obtain ⟨hfit, _⟩ := hcs'
        have hln := hVn.length
        have hfit' : o + 0 * i.size + new.length ≤ cs.length := hfit
        have : 0 < n * i.size := Nat.mul_pos (by omega) hszp
        omega

include hE hH in
theorem copy_ok {t1 t2 ty : TypeId} {s s' x x' : Value} (hs : V ρ s s') (hx : V ρ x x') (h : copyOp env H t1 s x = some (v, H')) :
    ∃ v' w', (Builtin.copy_ #[t1, t2] ty #[s', x']).run P w = .ok v' w' ∧ Post P S ρ H w v H' v' w' := by
  unfold copyOp copyTo at h
  simp only [bnd_eq] at h
  obtain ⟨elem, hel, ⟨base, len, cap⟩, hp, size, hsz, ⟨n, new⟩, hsrc, q, hq, h⟩ := h
  rw [mkInt_eq] at hq
  cases hq
  have hsp : s = .slice base len cap := by
    cases s with
    | slice b n c => simp [sliceParts] at hp; obtain ⟨rfl, rfl, rfl⟩ := hp; rfl
    | _ => simp [sliceParts] at hp
  subst hsp
  obtain ⟨new', hVn, hn1, hnl, hlen, hfirst⟩ := source_ok hH hsrc hx
  have hmin : minN n len = Nat.min n len := by
    unfold minN; rw [minB]
  dsimp only at h
  rw [hmin, takeL_eq] at h
  have hcells := hfirst (Nat.min n len) (Nat.min_le_left _ _)
  have hV1 := hVn.take (Nat.min n len * size)
  have ho1 : ∀ y ∈ new'.take (Nat.min n len * size), y.oneCell' = true := fun y hy => hn1 y (List.mem_of_mem_take hy)
  have run : ∀ (b' : Option Addr) (c' : Nat) (w' : World), s' = .slice b' len c' → (match b' with | some p => storeCells p (new'.take (Nat.min n len * size)) | none => pure () : Sem Unit).run P w = .ok () w' →
      (Builtin.copy_ #[t1, t2] ty #[s', x']).run P w = .ok (goInt (Nat.min n len)) w' := by
    intro b' c' w' hs' hst
    subst hs'
    simp only [Builtin.copy_, List.getElem?_toArray, List.getElem?_cons_zero, List.getElem?_cons_succ, Sem.run_bind, run_und hE (slice_inv hel), Result.andThen_ok, hlen, run_size hE hsz, hcells]
    cases b' with
    | none =>
      have e : Result.ok () w = Result.ok () w' := hst
      cases e; rfl
    | some p =>
      simp only at hst
      simp only [Sem.run_bind, hst, Result.andThen_ok, Sem.run_pure]
  cases hs with
  | nilSlice =>
    have h' : some (Value.int .i64 (.ofNat (Nat.min n 0)), H) = some (v, H') := h
    cases h'
    exact ⟨_, w, run none 0 w rfl rfl, ρ, .int _ _, hH, .refl _ _ _ _⟩
  | slice h0 hn hc =>
    rename_i b o e
    have h' : bnd (storeAt H ⟨b, o, none⟩ (new.take (Nat.mul (Nat.min n len) size))) (fun H => some (Value.int .i64 (.ofNat (Nat.min n len)), H)) = some (v, H') := h
    rw [bnd_eq] at h'
    obtain ⟨H1, hst, e'⟩ := h'
    cases e'
    obtain ⟨w', hrun, hH', hSt⟩ := hH.store ⟨e, h0, rfl, rfl⟩ hst hV1 ho1 S
    exact ⟨_, w', run _ _ w' rfl hrun, ρ, .int _ _, hH', hSt⟩
  | sliceU h0 hn hc =>
    rename_i b o c e
    have h' : bnd (storeAt H ⟨b, o, none⟩ (new.take (Nat.mul (Nat.min n len) size))) (fun H => some (Value.int .i64 (.ofNat (Nat.min n len)), H)) = some (v, H') := h
    rw [bnd_eq] at h'
    obtain ⟨H1, hst, e'⟩ := h'
    cases e'
    obtain ⟨w', hrun, hH', hSt⟩ := hH.store ⟨e, h0, rfl, rfl⟩ hst hV1 ho1 S
    exact ⟨_, w', run _ _ w' rfl hrun, ρ, .int _ _, hH', hSt⟩
  | empty h0 hs0 =>
    rename_i b o e a'
    have h' : bnd (storeAt H ⟨b, o, none⟩ (new.take (Nat.mul (Nat.min n 0) size))) (fun H => some (Value.int .i64 (.ofNat (Nat.min n 0)), H)) = some (v, H') := h
    rw [bnd_eq] at h'
    obtain ⟨H1, hst, e'⟩ := h'
    cases e'
    have hz : Nat.min n 0 = 0 := Nat.min_zero n
    have ht : Nat.mul (Nat.min n 0) size = 0 := by rw [hz]; exact Nat.zero_mul _
    rw [ht, List.take_zero] at hst
    obtain ⟨w', hrun, hH', hSt⟩ := hH.store (a' := ⟨e.B, e.base + o, none⟩) ⟨e, h0, rfl, rfl⟩ hst .nil (by simp) S
    have e0 : Result.ok () w = Result.ok () w' := hrun
    cases e0
    refine ⟨_, w, run (some a') 0 w rfl ?_, ρ, .int _ _, hH', hSt⟩
    rw [show Nat.min n 0 * size = 0 by rw [hz]; exact Nat.zero_mul _, List.take_zero]
    rfl
end
end Go.Ev
