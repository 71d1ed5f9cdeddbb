/- Literals, fields, elements, new maps and slices. -/
import Derived.Test.YtgfkoolajkccnaaGreatDoorEvOps4
/-! Literals, fields, elements, new maps and slices. -/
namespace Go.Ev
open Go.RowKit

theorem setIf_at (C : Array Value) (o : Nat) (v : Value) (h : o < C.size) : C.setIfInBounds o v = putRow C o [v] := by
  apply Array.ext'
  simp only [Array.toList_setIfInBounds, putRow]
  rw [set_at _ _ _ (by simpa using h)]
  simp

theorem putRow_size (C : Array Value) (o : Nat) (vs : List Value) (h : o + vs.length ≤ C.size) : (putRow C o vs).size = C.size := by
  simp [putRow]; omega

theorem putRow_cons (C : Array Value) (o : Nat) (v : Value) (vs : List Value) (h : o + (v :: vs).length ≤ C.size) : putRow (putRow C o [v]) (o + 1) vs = putRow C o (v :: vs) := by
  simp only [List.length_cons] at h
  have hl : C.toList.length = C.size := by simp
  apply Array.ext'
  apply List.ext_getElem?
  intro i
  simp only [putRow, List.getElem?_append, List.length_take, List.getElem?_take, List.getElem?_drop, List.length_append, List.length_drop, List.length_cons, List.length_nil, hl]
  have m1 : min o C.size = o := by omega
  have m2 : min (o + 1) (o + (0 + 1 + (C.size - (o + (0 + 1))))) = o + 1 := by omega
  simp only [m1, m2]
  by_cases h1 : i < o
  · have h2 : i < o + 1 := by omega
    simp [h1, h2]
  · by_cases h2 : i = o
    · subst h2; simp
    · have h3 : ¬ i < o + 1 := by omega
      have h4 : ∃ j, i = o + 1 + j := ⟨i - (o + 1), by omega⟩
      obtain ⟨j, rfl⟩ := h4
      have e1 : o + 1 + j - (o + 1) = j := by omega
      have e2 : o + 1 + j - o = j + 1 := by omega
      simp only [h1, h3, if_false, e1, e2]
      by_cases h5 : j < vs.length
      · simp [h5]
      · have e3 : ¬ o + 1 + vs.length + (j - vs.length) < o := by omega
        have e4 : o + 1 + vs.length + (j - vs.length) - o = j + 1 := by omega
        have e5 : ¬ j + 1 < vs.length + 1 := by omega
        simp [h5, e3, e4, e5]
        congr 1
        omega

theorem fold_put (off : Nat) : ∀ (vs : List Value) (k : Nat) (C : Array Value), off + k + vs.length ≤ C.size →
    (vs.zipIdx k).foldl (fun (cs : Array Value) (p : Value × Nat) => cs.setIfInBounds (off + p.2) p.1) C = putRow C (off + k) vs
  | [], k, C, _ => by simp [putRow]
  | v :: vs, k, C, h => by
    simp only [List.length_cons] at h
    rw [List.zipIdx_cons, List.foldl_cons]
    simp only
    rw [setIf_at _ _ _ (by omega), fold_put off vs (k + 1) _ (by rw [putRow_size _ _ _ (by simp; omega)]; omega), ← Nat.add_assoc, putRow_cons _ _ _ _ (by simp; omega)]

/-- Parts of a literal, and the model's. -/
inductive PL (ρ : Map) : List (Nat × Value) → List (Nat × Value) → Prop
  | nil : PL ρ [] []
  | cons {i : Nat} {v v' : Value} {l l' : List (Nat × Value)} (h : V ρ v v') (t : PL ρ l l') : PL ρ ((i, v) :: l) ((i, v') :: l')

theorem fill_ok {ρ : Map} {place place' : Nat → Option (Nat × Nat)} (hp : ∀ i q, place i = some q → place' i = some q) : ∀ {l l' : List (Nat × Value)} {cs cs' r : List Value}, fillAt place l cs = some r → PL ρ l l' → VL ρ cs cs' →
    (∀ x ∈ cs', x.oneCell' = true) → ∃ r', Instr.fill place' ⟨cs'⟩ l' = some ⟨r'⟩ ∧ VL ρ r r' ∧ (∀ x ∈ r', x.oneCell' = true)
  | [], _, cs, cs', r, h, .nil, hv, h1 => by
    have e : some cs = some r := h
    cases e; exact ⟨cs', rfl, hv, h1⟩
  | (i, v) :: l, _, cs, cs', r, h, .cons (v' := v') (l' := l') hx ht, hv, h1 => by
    have h' : bnd (place i) (fun q => bnd (cellsV v) fun vs => chk (Nat.beq (lenL vs) q.2) (bnd (writeAt vs q.1 cs) (fillAt place l))) = some r := h
    simp only [bnd_eq, chk_eq] at h'
    obtain ⟨⟨off, size⟩, hq, vs, hvs, hlen, cs2, hcs2, h'⟩ := h'
    obtain ⟨vs', hvs', hVL, h2⟩ := cellsV_ok hx hvs
    unfold writeAt at hcs2
    rw [writeAt_eq] at hcs2
    obtain ⟨hn, rfl⟩ := hcs2
    have hlen' := Nat.eq_of_beq_eq_true hlen
    rw [lenL_eq] at hlen'
    have e1 := hVL.length
    have e2 := hv.length
    dsimp only at hn hlen'
    have hw : VL ρ (cs.take off ++ (vs ++ cs.drop (off + vs.length))) (putRow ⟨cs'⟩ off vs').toList := hv.write off hVL
    obtain ⟨r', hr', hVr, h3⟩ := fill_ok hp (cs' := (putRow ⟨cs'⟩ off vs').toList) h' ht hw (by
      intro x hx
      rcases List.mem_append.1 hx with hx | hx
      · exact h1 x (List.mem_of_mem_take hx)
      · rcases List.mem_append.1 hx with hx | hx
        · exact h2 x hx
        · exact h1 x (List.mem_of_mem_drop hx))
    refine ⟨r', ?_, hVr, h3⟩
    simp only [Instr.fill, hp i _ hq, hvs']
    have c1 : ¬ ((⟨vs'⟩ : Array Value).size ≠ size || decide (off + (⟨vs'⟩ : Array Value).size > (⟨cs'⟩ : Array Value).size)) = true := by
      simp; omega
    rw [if_neg (by simpa using c1)]
    have hf := fold_put off vs' 0 ⟨cs'⟩ (by simp; omega)
    rw [Nat.add_zero] at hf
    have : (⟨vs'⟩ : Array Value).zipIdx.foldl (fun (cs : Array Value) (p : Value × Nat) => cs.setIfInBounds (off + p.2) p.1) ⟨cs'⟩ = putRow ⟨cs'⟩ off vs' := by
      rw [← Array.foldl_toList, ← hf]
      simp
    rw [← hr']
    congr 1

/-- The cells of so many zero values. -/
theorem zeros_eq (zs : List Value) : ∀ (n : Nat), ((Array.range (n * zs.length)).map fun i => (⟨zs⟩ : Array Value)[i % (⟨zs⟩ : Array Value).size]!) = ⟨repL zs n⟩
  | 0 => by
    rw [Nat.zero_mul]
    show _ = (⟨[]⟩ : Array Value)
    simp
  | n + 1 => by
    have ih := zeros_eq zs n
    apply Array.ext'
    have ih' := congrArg Array.toList ih
    simp only [Array.toList_map, Array.toList_range] at ih' ⊢
    show _ = appL zs (repL zs n)
    rw [appL_eq, ← ih', Nat.succ_mul, Nat.add_comm, List.range_add, List.map_append, List.map_map]
    congr 1
    · apply List.ext_getElem?
      intro i
      by_cases h : i < zs.length
      · simp [h, Nat.mod_eq_of_lt h]
      · simp [h]
    · apply List.map_congr_left
      intro i hi
      by_cases h0 : zs.length = 0
      · have : zs = [] := List.length_eq_zero_iff.1 h0
        subst this; simp
      · simp [Nat.add_mod_left]

theorem repL_one {zs : List Value} (h : ∀ x ∈ zs, x.oneCell' = true) : ∀ (n : Nat), ∀ x ∈ repL zs n, x.oneCell' = true
  | 0, x, hx => by cases hx
  | n + 1, x, hx => by
    have hx' : x ∈ appL zs (repL zs n) := hx
    rw [appL_eq] at hx'
    rcases List.mem_append.1 hx' with hx' | hx'
    · exact h x hx'
    · exact repL_one h n x hx'

section
variable {P : Program} {S : Nat → Prop} {ρ : Map} {H : Heap} {w : World} {o : Oper} {a : Act}

theorem parts_ok {tm : Tm} (hT : TR ρ tm a.tmps) : ∀ {l : List (Nat × Operand)} {ps : List (Nat × Value)}, evalParts tm l = some ps → PL ρ ps (l.map fun p => (p.1, a.eval p.2))
  | [], ps, h => by
    have e : some [] = some ps := h
    cases e; exact .nil
  | (i, x) :: l, ps, h => by
    have h' : bnd (eval tm x) (fun v => bnd (evalParts tm l) fun vs => some ((i, v) :: vs)) = some ps := h
    simp only [bnd_eq] at h'
    obtain ⟨v, hv, r, hr, e⟩ := h'
    cases e
    exact .cons (eval_ok hT hv) (parts_ok hT hr)

variable {env : Env} (hE : EnvOk P env)
include hE

theorem zero_cells {t : TypeId} {z : Value} {zs : List Value} (hz : env.zero t = some z) (hc : cellsV z = some zs) : z.cells = ⟨zs⟩ ∧ VL ρ zs zs ∧ (∀ x ∈ zs, x.oneCell' = true) ∧ env.size t = some zs.length := by
  unfold Env.zero at hz
  rw [bnd_eq] at hz
  obtain ⟨i, hi, hz⟩ := hz
  obtain ⟨h1, h2⟩ := hE.zero t i z hi hz
  obtain ⟨l', hl', hVL, ho⟩ := cellsV_ok (h1 ρ) hc
  have : zs = l' := by
    have e : z.cells = ⟨zs⟩ := by
      cases z <;> first | (cases hc; done) | (cases hc; rfl)
    rw [e] at hl'
    exact congrArg Array.toList hl'
  subst this
  exact ⟨hl', hVL, ho, by simp [Env.size, hi, h2 zs hc]⟩

theorem placesOf_ok : ∀ {fs : List Field} {l : List (Nat × Nat)}, placesOf env fs = some l → ∀ w : World, (fs.mapM fun (f : Field) => (do pure (f.offset, ← sizeOf f.type) : Sem (Nat × Nat))).run P w = .ok l w
  | [], l, h, w => by
    have e : some [] = some l := h
    cases e; rfl
  | f :: fs, l, h, w => by
    have h' : bnd (env.size f.type) (fun n => bnd (placesOf env fs) fun l => some ((f.offset, n) :: l)) = some l := h
    simp only [bnd_eq] at h'
    obtain ⟨n, hn, r, hr, e⟩ := h'
    cases e
    have ih := placesOf_ok hr w
    simp only [List.mapM_cons, Sem.run_bind, run_size hE hn, Result.andThen_ok, Sem.run_pure, ih]

variable {call : Call} {id : Nat} {tm : Tm} {v : Value} {H' : Heap}
variable (hH : HR P ρ H w) (hT : TR ρ tm a.tmps)
include hH hT

theorem ok_build {t : TypeId} {parts : Array (Nat × Operand)} (ho : o.op = .build t parts) (h : oBuild t parts env call id tm H = some (v, H')) : Does P o a w (Post P S ρ H w v H') := by
  unfold oBuild retO build at h
  simp only [bnd_eq] at h
  obtain ⟨ps, hps, q, ⟨z, hz, zs, hzs, d, hd, pl, hpl, r, hr, e0⟩, e⟩ := h
  cases e0; cases e
  have hPL := parts_ok hT hps
  obtain ⟨hzc, hzV, hz1, hzsz⟩ := zero_cells (ρ := ρ) hE hz hzs
  have hparts : (parts.map fun (p : Nat × Operand) => (p.1, a.eval p.2)).toList = parts.toList.map fun p => (p.1, a.eval p.2) := by simp
  unfold placeOf at hpl
  split at hpl
  · rename_i fields
    rw [bnd_eq] at hpl
    obtain ⟨l, hl, e⟩ := hpl
    cases e
    obtain ⟨r', hr', hVr, h1⟩ := fill_ok (place' := fun i => l.toArray[i]?) (fun i q hq => by rw [nthL_eq] at hq; simpa using hq) hr hPL hzV hz1
    refine does_pure hH (v' := .agg ⟨r'⟩) ?_ (.agg hVr h1)
    simp only [execOp, ho]
    refine run_v ?_
    have hmap : (fields.mapM fun (f : Field) => (do pure (f.offset, ← sizeOf f.type) : Sem (Nat × Nat))).run P w = .ok l.toArray w := by
      rw [Array.mapM_eq_mapM_toList]
      simp only [Sem.run_map, placesOf_ok hE hl w, Result.andThen_ok]
    simp only [Instr.build, Sem.run_bind, run_zero hE hz, run_und hE hd, Result.andThen_ok]
    simp only [hmap, Result.andThen_ok, hzc, hparts, hr']
    rfl
  · rename_i n elem
    rw [bnd_eq] at hpl
    obtain ⟨size, hsz, e⟩ := hpl
    cases e
    obtain ⟨r', hr', hVr, h1⟩ := fill_ok (place' := fun i => some (i * size, size)) (fun i q hq => hq) hr hPL hzV hz1
    refine does_pure hH (v' := .agg ⟨r'⟩) ?_ (.agg hVr h1)
    simp only [execOp, ho]
    refine run_v ?_
    simp only [Instr.build, Sem.run_bind, run_zero hE hz, run_und hE hd, Result.andThen_ok, run_size hE hsz, hzc, hparts, hr']
    rfl
  · cases hpl

theorem ok_field {t : TypeId} {x : Operand} {f : Nat} (ho : o.op = .field t x f) (h : oField t x f env call id tm H = some (v, H')) : Does P o a w (Post P S ρ H w v H') := by
  unfold oField retO at h
  simp only [bnd_eq] at h
  obtain ⟨u, hu, cs, hcs, fs, hfs, fd, hfd, q, hq, e⟩ := h
  cases e
  have hV := eval_ok hT hu
  have hd := struct_inv hfs
  rw [nthL_eq] at hfd
  generalize hg : a.eval x = g at hV
  cases hV with
  | agg hl h1 =>
    simp [aggOf] at hcs
    subst hcs
    obtain ⟨v', hrun, hV'⟩ := part_ok hE (w := w) hl h1 hq
    refine does_pure hH (v' := v') ?_ hV'
    simp only [execOp, ho, hg]
    refine run_v ?_
    have hfd' : (⟨fs⟩ : Array Field)[f]? = some fd := by simpa using hfd
    simp only [Instr.field, Sem.run_bind, run_und hE hd, Result.andThen_ok, hfd', asAgg, Sem.run_pure, hrun]
  | _ => simp [aggOf] at hcs

theorem ok_fieldAddr {t : TypeId} {x : Operand} {f : Nat} (ho : o.op = .fieldAddr t x f) (h : oFieldAddr t x f env call id tm H = some (v, H')) : Does P o a w (Post P S ρ H w v H') := by
  unfold oFieldAddr fieldPlace at h
  simp only [bnd_eq, chk_eq] at h
  obtain ⟨u, hu, p, hp, fs, hfs, q, ⟨fd, hfd, n, hn, e0⟩, hne, e⟩ := h
  cases e0; cases e
  rw [addrOf_eq] at hp
  subst hp
  obtain ⟨p', hp', hAR⟩ := (eval_ok hT hu).ptrInv
  have hd := struct_inv hfs
  rw [nthL_eq] at hfd
  have hfd' : (⟨fs⟩ : Array Field)[f]? = some fd := by simpa using hfd
  have hn0 : n ≠ 0 := by rintro rfl; simp at hne
  refine does_pure hH (v' := .pointer (some (p'.add fd.offset))) ?_ (hAR.move _).val
  simp only [execOp, ho, hp']
  refine run_v ?_
  simp only [Instr.fieldAt, Sem.run_bind, run_und hE hd, Result.andThen_ok, hfd', Instr.sureAddr, Sem.run_pure, Go.fieldPlace, run_size hE hn, hn0, if_false]

omit hE hH hT in
theorem inR_inv {i : Int} {n j : Nat} (h : inR i n = some j) : i = j ∧ j < n := by
  cases i with
  | ofNat m =>
    have h' : chk (Nat.ble (Nat.succ m) n) (some m) = some j := h
    rw [chk_eq, Nat.ble_eq] at h'
    obtain ⟨h1, e⟩ := h'
    cases e
    exact ⟨rfl, h1⟩
  | negSucc m => cases h

theorem ok_indexAddr {t : TypeId} {x i : Operand} (ho : o.op = .indexAddr t x i) (h : oIndexAddr t x i env call id tm H = some (v, H')) : Does P o a w (Post P S ρ H w v H') := by
  unfold oIndexAddr retO at h
  simp only [bnd_eq] at h
  obtain ⟨u, hu, iv, hiv, j, hj, d, hd, q, hq, e⟩ := h
  cases e
  obtain ⟨k, rfl⟩ := intOf_eq hj
  have hi := (eval_ok hT hiv).int_inv
  have hV := eval_ok hT hu
  have hud := fun w => run_und hE hd w
  unfold indexAddr at hq
  split at hq
  · rename_i len elem p
    simp only [bnd_eq] at hq
    obtain ⟨n, hn, m, hm, e⟩ := hq
    cases e
    obtain ⟨rfl, hlt⟩ := inR_inv hm
    obtain ⟨p', hp', hAR⟩ := hV.ptrInv
    refine does_pure hH (v' := .pointer (some (p'.add (m * n)))) ?_ (hAR.move _).val
    simp only [execOp, ho, hp', hi]
    refine run_v ?_
    have hr : (0 : Int) ≤ (m : Int) ∧ (m : Int) < (len : Int) := by omega
    simp only [Instr.indexAt, asIntOf, Sem.run_bind, Sem.run_pure, Result.andThen_ok, hud, Instr.sureAddr, hr, and_self, if_true, run_size hE hn, Int.toNat_natCast]
  · rename_i elem p len cap
    simp only [bnd_eq] at hq
    obtain ⟨n, hn, m, hm, e⟩ := hq
    cases e
    obtain ⟨rfl, hlt⟩ := inR_inv hm
    generalize hg : a.eval x = g at hV
    have hr : (0 : Int) ≤ (m : Int) ∧ (m : Int) < (len : Int) := by omega
    have fin : ∀ (p' : Addr) (c' : Nat), AR ρ p p' → g = .slice (some p') len c' → Does P o a w (Post P S ρ H w (.pointer (some (moveBy p (Nat.mul m n)))) H) := by
      intro p' c' hAR hg'
      refine does_pure hH (v' := .pointer (some (p'.add (m * n)))) ?_ (hAR.move _).val
      simp only [execOp, ho, hg, hg', hi]
      refine run_v ?_
      simp only [Instr.indexAt, asIntOf, Sem.run_bind, Sem.run_pure, Result.andThen_ok, hud, hr, and_self, if_true, run_size hE hn, Int.toNat_natCast]
    cases hV with
    | slice h0 hn' hc => exact fin _ _ ⟨_, h0, rfl, rfl⟩ rfl
    | sliceU h0 hn hc => exact fin _ _ ⟨_, h0, rfl, rfl⟩ rfl
    | empty h0 hs => omega
  · cases hq

theorem ok_index {t : TypeId} {x i : Operand} (ho : o.op = .index t x i) (h : oIndex t x i env call id tm H = some (v, H')) : Does P o a w (Post P S ρ H w v H') := by
  unfold oIndex retO at h
  simp only [bnd_eq] at h
  obtain ⟨u, hu, iv, hiv, j, hj, d, hd, q, hq, e⟩ := h
  cases e
  obtain ⟨k, rfl⟩ := intOf_eq hj
  have hi := (eval_ok hT hiv).int_inv
  have hV := eval_ok hT hu
  have hud := fun w => run_und hE hd w
  unfold indexOf at hq
  split at hq
  · rename_i len elem cs
    simp only [bnd_eq] at hq
    obtain ⟨n, hn, m, hm, hq⟩ := hq
    obtain ⟨rfl, hlt⟩ := inR_inv hm
    generalize hg : a.eval x = g at hV
    cases hV with
    | agg hl h1 =>
      obtain ⟨v', hrun, hV'⟩ := part_ok' hE (w := w) hl h1 hq
      refine does_pure hH (v' := v') ?_ hV'
      simp only [execOp, ho, hg, hi]
      refine run_v ?_
      have hr : (0 : Int) ≤ (m : Int) ∧ (m : Int) < (len : Int) := by omega
      simp only [Instr.index, asIntOf, Sem.run_bind, Sem.run_pure, Result.andThen_ok, hud, hr, and_self, if_true, run_size hE hn, Int.toNat_natCast]
      exact hrun
  · rename_i s
    simp only [bnd_eq, fN_eq] at hq
    obtain ⟨m, hm, b, hb, e⟩ := hq
    cases e
    obtain ⟨rfl, hlt⟩ := inR_inv hm
    rw [nthL_eq] at hb
    refine does_pure hH (v' := .int .u8 (b.toNat : Int)) ?_ (.int _ _)
    simp only [execOp, ho, hi, hV.string_inv]
    refine run_v ?_
    have h0 : (0 : Int) ≤ (m : Int) := by omega
    have hsb : s[m]? = some b := by
      have : s.data[m]? = some b := by simpa using hb
      exact this
    simp only [Instr.index, asIntOf, Sem.run_bind, Sem.run_pure, Result.andThen_ok, hud, h0, if_true, Int.toNat_natCast, hsb]
  · cases hq
end
end Go.Ev
