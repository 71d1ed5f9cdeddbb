/- Tables of what is known of values that have but a number. -/
import Derived.Test.YthnojgpobfpgeaaDoorEvEnv
import Derived.Test.YthnojgpobfpgeaaDoorEvSpecs
/-! Tables of what is known of values that have but a number. -/
namespace Go.Ev
open Go.RowKit

/-- A number's value, or a plain value. -/
def atom : Value → Bool
 | .float .f64 _ => true
 | v => plain v

section
variable [Sg]
/-- What an atom stands for. -/
def den : Value → Value
 | .float .f64 i => Sg.val i
 | v => v

theorem den_inv {ρ : Map} {v v' : Value} (ha : atom v = true) (h : V ρ v v') : v' = den v := by
 cases h <;> first | rfl | (cases ha; done)
theorem den_V {ρ : Map} {v : Value} (ha : atom v = true) : V ρ v (den v) := by
 cases v with
 | float k i => cases k with
  | f64 => exact .sym i
  | f32 => cases ha
 | _ => exact .plain ha
theorem dens_inv {ρ : Map} : ∀ {l l' : List Value}, (∀ v ∈ l, atom v = true) → VL ρ l l' → l' = l.map den
 | [], _, _, .nil => rfl
 | v :: l, _, h, .cons hv ht => by
  rw [List.map_cons, den_inv (h v (by simp)) hv, dens_inv (fun v hv => h v (by simp [hv])) ht]
theorem denO_inv {ρ : Map} {x x' : Option Value} (h : ∀ v, x = some v → atom v = true) (hV : OV ρ x x') : x' = x.map den := by
 cases hV with
 | none => rfl
 | some hv => rw [den_inv (h _ rfl) hv]; rfl
end

/-- An operation on two scalars. -/
noncomputable def scalarOp (op : BinOp) (x y : Value) : Option Value :=
 match x, y with
 | .int k a, .int k' b => intOp op k a k' b
 | .string a, .string b => strFn op a.data.toList b.data.toList
 | _, _ => none
def scalarConv (d : TypeDesc) (x : Value) : Option Value :=
 match d, x with
 | .int k, .int _ n => some (.int k (k.wrap n))
 | .string, .string s => some (.string s)
 | _, _ => none
noncomputable def scalarSlice (x : Value) (lo hi : Option Value) : Option Value :=
 match x with
 | .string s => sliceStr s.data.toList lo hi
 | _ => none

def opn : BinOp → Nat
 | .add => 0 | .sub => 1 | .mul => 2 | .quo => 3 | .rem => 4 | .and => 5 | .or => 6 | .xor => 7 | .shl => 8 | .shr => 9 | .andNot => 10
 | .eql => 11 | .neq => 12 | .lss => 13 | .leq => 14 | .gtr => 15 | .geq => 16
theorem opn_inj {a b : BinOp} (h : Nat.beq (opn a) (opn b) = true) : a = b := by
 have := Nat.eq_of_beq_eq_true h
 cases a <;> cases b <;> first | rfl | (cases this; done)
def descn : TypeDesc → Nat
 | .int k => match k with | .i8 => 0 | .i16 => 1 | .i32 => 2 | .i64 => 3 | .u8 => 4 | .u16 => 5 | .u32 => 6 | .u64 => 7
 | .string => 8
 | _ => 9
def descOf : Nat → TypeDesc
 | 0 => .int .i8 | 1 => .int .i16 | 2 => .int .i32 | 3 => .int .i64 | 4 => .int .u8 | 5 => .int .u16 | 6 => .int .u32 | 7 => .int .u64 | _ => .string

structure SBin where
 op : BinOp
 x : Value
 y : Value
 v : Value
structure SConv where
 d : Nat
 x : Value
 v : Value
structure SBytes where
 l : List Value
 v : Value
structure SSlice where
 x : Value
 lo : Option Value
 hi : Option Value
 v : Value
structure SLen where
 i : Nat
 v : Value
structure SIdx where
 x : Value
 i : Value
 v : Value

noncomputable def sameOV (a b : Option Value) : Bool :=
 Option.rec (motive := fun _ => Bool) (Option.rec (motive := fun _ => Bool) true (fun _ => false) b) (fun a => Option.rec (motive := fun _ => Bool) false (fun b => sameV 3 a b) b) a
theorem sameOV_ok {a b : Option Value} (h : sameOV a b = true) : a = b := by
 cases a <;> cases b <;> first | rfl | (cases h; done) | exact congrArg some (sameV_ok 3 _ _ h)

noncomputable def binT (tab : List SBin) (op : BinOp) (x y : Value) : Option Value :=
 List.rec (motive := fun _ => Option Value) none (fun e _ ih => ifB (Nat.beq (opn e.op) (opn op)) (ifB (sameV 3 e.x x) (ifB (sameV 3 e.y y) (some e.v) ih) ih) ih) tab
noncomputable def convT (tab : List SConv) (d : TypeDesc) (x : Value) : Option Value :=
 List.rec (motive := fun _ => Option Value) none (fun e _ ih => ifB (Nat.beq e.d (descn d)) (ifB (sameV 3 e.x x) (some e.v) ih) ih) tab
noncomputable def bytesT (tab : List SBytes) (l : List Value) : Option Value :=
 List.rec (motive := fun _ => Option Value) none (fun e _ ih => ifB (all2 (sameV 3) e.l l) (some e.v) ih) tab
noncomputable def sliceT (tab : List SSlice) (x : Value) (lo hi : Option Value) : Option Value :=
 List.rec (motive := fun _ => Option Value) none (fun e _ ih => ifB (sameV 3 e.x x) (ifB (sameOV e.lo lo) (ifB (sameOV e.hi hi) (some e.v) ih) ih) ih) tab
noncomputable def lenT (tab : List SLen) (i : Nat) : Option Value :=
 List.rec (motive := fun _ => Option Value) none (fun e _ ih => ifB (Nat.beq e.i i) (some e.v) ih) tab

noncomputable def idxT (tab : List SIdx) (x i : Value) : Option Value :=
 List.rec (motive := fun _ => Option Value) none (fun e _ ih => ifB (sameV 3 e.i i) (ifB (sameV 3 e.x x) (some e.v) ih) ih) tab

theorem binT_mem {op : BinOp} {x y v : Value} : ∀ {tab : List SBin}, binT tab op x y = some v → ⟨op, x, y, v⟩ ∈ tab
 | [], h => by cases h
 | e :: tab, h => by
  have h' : ifB (Nat.beq (opn e.op) (opn op)) (ifB (sameV 3 e.x x) (ifB (sameV 3 e.y y) (some e.v) (binT tab op x y)) (binT tab op x y)) (binT tab op x y) = some v := h
  have rest : binT tab op x y = some v → (⟨op, x, y, v⟩ : SBin) ∈ e :: tab := fun h => List.mem_cons_of_mem _ (binT_mem h)
  cases h1 : Nat.beq (opn e.op) (opn op) with
  | false => rw [h1, ifB_false] at h'; exact rest h'
  | true =>
   rw [h1, ifB_true] at h'
   cases h2 : sameV 3 e.x x with
   | false => rw [h2, ifB_false] at h'; exact rest h'
   | true =>
    rw [h2, ifB_true] at h'
    cases h3 : sameV 3 e.y y with
    | false => rw [h3, ifB_false] at h'; exact rest h'
    | true =>
     rw [h3, ifB_true] at h'
     have e1 := opn_inj h1
     have e2 := sameV_ok 3 _ _ h2
     have e3 := sameV_ok 3 _ _ h3
     cases h'
     subst e1 e2 e3
     exact List.mem_cons_self
theorem convT_mem {d : TypeDesc} {x v : Value} : ∀ {tab : List SConv}, convT tab d x = some v → ⟨descn d, x, v⟩ ∈ tab
 | [], h => by cases h
 | e :: tab, h => by
  have h' : ifB (Nat.beq e.d (descn d)) (ifB (sameV 3 e.x x) (some e.v) (convT tab d x)) (convT tab d x) = some v := h
  have rest : convT tab d x = some v → (⟨descn d, x, v⟩ : SConv) ∈ e :: tab := fun h => List.mem_cons_of_mem _ (convT_mem h)
  cases h1 : Nat.beq e.d (descn d) with
  | false => rw [h1, ifB_false] at h'; exact rest h'
  | true =>
   rw [h1, ifB_true] at h'
   cases h2 : sameV 3 e.x x with
   | false => rw [h2, ifB_false] at h'; exact rest h'
   | true =>
    rw [h2, ifB_true] at h'
    have e1 := Nat.eq_of_beq_eq_true h1
    have e2 := sameV_ok 3 _ _ h2
    cases h'
    rw [← e1, ← e2]
    exact List.mem_cons_self
theorem bytesT_mem {l : List Value} {v : Value} : ∀ {tab : List SBytes}, bytesT tab l = some v → ⟨l, v⟩ ∈ tab
 | [], h => by cases h
 | e :: tab, h => by
  have h' : ifB (all2 (sameV 3) e.l l) (some e.v) (bytesT tab l) = some v := h
  cases h1 : all2 (sameV 3) e.l l with
  | false => rw [h1, ifB_false] at h'; exact List.mem_cons_of_mem _ (bytesT_mem h')
  | true =>
   rw [h1, ifB_true] at h'
   cases h'
   rw [← all2_ok (sameV_ok 3) h1]
   exact List.mem_cons_self
theorem sliceT_mem {x : Value} {lo hi : Option Value} {v : Value} : ∀ {tab : List SSlice}, sliceT tab x lo hi = some v → ⟨x, lo, hi, v⟩ ∈ tab
 | [], h => by cases h
 | e :: tab, h => by
  have h' : ifB (sameV 3 e.x x) (ifB (sameOV e.lo lo) (ifB (sameOV e.hi hi) (some e.v) (sliceT tab x lo hi)) (sliceT tab x lo hi)) (sliceT tab x lo hi) = some v := h
  have rest : sliceT tab x lo hi = some v → (⟨x, lo, hi, v⟩ : SSlice) ∈ e :: tab := fun h => List.mem_cons_of_mem _ (sliceT_mem h)
  cases h1 : sameV 3 e.x x with
  | false => rw [h1, ifB_false] at h'; exact rest h'
  | true =>
   rw [h1, ifB_true] at h'
   cases h2 : sameOV e.lo lo with
   | false => rw [h2, ifB_false] at h'; exact rest h'
   | true =>
    rw [h2, ifB_true] at h'
    cases h3 : sameOV e.hi hi with
    | false => rw [h3, ifB_false] at h'; exact rest h'
    | true =>
     rw [h3, ifB_true] at h'
     cases h'
     rw [← sameV_ok 3 _ _ h1, ← sameOV_ok h2, ← sameOV_ok h3]
     exact List.mem_cons_self
theorem lenT_mem {i : Nat} {v : Value} : ∀ {tab : List SLen}, lenT tab i = some v → ⟨i, v⟩ ∈ tab
 | [], h => by cases h
 | e :: tab, h => by
  have h' : ifB (Nat.beq e.i i) (some e.v) (lenT tab i) = some v := h
  cases h1 : Nat.beq e.i i with
  | false => rw [h1, ifB_false] at h'; exact List.mem_cons_of_mem _ (lenT_mem h')
  | true =>
   rw [h1, ifB_true] at h'
   cases h'
   rw [← Nat.eq_of_beq_eq_true h1]
   exact List.mem_cons_self

theorem idxT_mem {x i v : Value} : ∀ {tab : List SIdx}, idxT tab x i = some v → ⟨x, i, v⟩ ∈ tab
 | [], h => by cases h
 | e :: tab, h => by
  have h' : ifB (sameV 3 e.i i) (ifB (sameV 3 e.x x) (some e.v) (idxT tab x i)) (idxT tab x i) = some v := h
  cases h1 : sameV 3 e.i i with
  | false => rw [h1, ifB_false] at h'; exact List.mem_cons_of_mem _ (idxT_mem h')
  | true =>
   rw [h1, ifB_true] at h'
   cases h2 : sameV 3 e.x x with
   | false => rw [h2, ifB_false] at h'; exact List.mem_cons_of_mem _ (idxT_mem h')
   | true =>
    rw [h2, ifB_true] at h'
    cases h'
    rw [← sameV_ok 3 _ _ h1, ← sameV_ok 3 _ _ h2]
    exact List.mem_cons_self
def scalarIndex (x i : Value) : Option Value :=
 match x, i with
 | .string s, .int _ n => match n with
  | .ofNat m => match s[m]? with
   | some b => some (.int .u8 b.toNat)
   | none => none
  | .negSucc _ => none
 | _, _ => none

/-- Tables. -/
structure Tabs where
 bins : List SBin := []
 convs : List SConv := []
 bytes : List SBytes := []
 slices : List SSlice := []
 lens : List SLen := []
 idx : List SIdx := []
noncomputable def Tabs.syms (T : Tabs) : Syms := ⟨binT T.bins, convT T.convs, bytesT T.bytes, sliceT T.slices, lenT T.lens, idxT T.idx, fun _ _ => none⟩

section
variable [Sg]
/-- What tables owe. -/
structure TabsOk (T : Tabs) : Prop where
 bins : ∀ e ∈ T.bins, atom e.x = true ∧ atom e.y = true ∧ atom e.v = true ∧ scalarOp e.op (den e.x) (den e.y) = some (den e.v)
 convs : ∀ e ∈ T.convs, e.d < 9 ∧ atom e.x = true ∧ atom e.v = true ∧ scalarConv (descOf e.d) (den e.x) = some (den e.v)
 bytes : ∀ e ∈ T.bytes, (∀ v ∈ e.l, atom v = true) ∧ atom e.v = true ∧ ∃ ns : List Int, e.l.map den = ns.map (Value.int .u8) ∧ den e.v = str (ns.map fun n => UInt8.ofNat n.toNat)
 slices : ∀ e ∈ T.slices, atom e.x = true ∧ (∀ v, e.lo = some v → atom v = true) ∧ (∀ v, e.hi = some v → atom v = true) ∧ atom e.v = true ∧ scalarSlice (den e.x) (e.lo.map den) (e.hi.map den) = some (den e.v)
 lens : ∀ e ∈ T.lens, atom e.v = true ∧ ∃ s : ByteArray, Sg.val e.i = .string s ∧ den e.v = .int .i64 s.size
 idx : ∀ e ∈ T.idx, atom e.x = true ∧ atom e.i = true ∧ atom e.v = true ∧ scalarIndex (den e.x) (den e.i) = some (den e.v)

theorem refl_OV {x : Option Value} {n most dflt : Nat} (h : bound x most dflt = some n) : OV (fun _ => none) x x := by
 cases x with
 | none => exact .none
 | some v =>
  have h' : bnd (intOf' v) (fun i => inB i most) = some n := h
  rw [bnd_eq] at h'
  obtain ⟨i, hi, _⟩ := h'
  obtain ⟨k, rfl⟩ := intOf_eq hi
  exact .some (.int k i)

omit [Sg] in
theorem desc_of {d : TypeDesc} (h : descn d < 9) : descOf (descn d) = d := by
 cases d <;> first | (exfalso; revert h; decide) | rfl | skip
 all_goals first | (rename_i k; cases k <;> rfl) | (exfalso; revert h; simp [descn])

theorem tabs_ok {P : Program} {T : Tabs} (h : TabsOk T) : SymsOk P T.syms := by
 refine ⟨?_, ?_, ?_, ?_, ?_, ?_, fun _ _ _ h => (by cases h)⟩
 ·
  intro op t x y v hv ρ x' y' w a b hx hy
  obtain ⟨ax, ay, av, hs⟩ := h.bins _ (binT_mem hv)
  rw [den_inv ax hx, den_inv ay hy]
  refine ⟨_, den_V av, ?_⟩
  dsimp only at hs
  generalize den x = X at hs ⊢
  generalize den y = Y at hs ⊢
  generalize den v = Z at hs ⊢
  cases X <;> first | (cases hs; done) | skip
  ·
   cases Y <;> first | (cases hs; done) | skip
   rw [eqGuard_at_int]
   simpa using intOp_ok hs
  ·
   cases Y <;> first | (cases hs; done) | skip
   rw [eqGuard_at_string]
   simpa using strOp_ok hs
 ·
  intro d x v hv ρ x' w s t sd hx hs ht
  obtain ⟨hd, ax, av, hc⟩ := h.convs _ (convT_mem hv)
  dsimp only at hd hc
  rw [desc_of hd] at hc
  rw [den_inv ax hx]
  refine ⟨_, den_V av, ?_⟩
  generalize den x = X at hc ⊢
  generalize den v = Z at hc ⊢
  have hus := fun w => run_underlying hs w
  have hut := fun w => run_underlying ht w
  unfold scalarConv at hc
  split at hc
  ·
   cases hc
   simp only [Go.convert, Sem.run_bind, hus, hut, Result.andThen_ok]
   rfl
  ·
   cases hc
   simp only [Go.convert, Sem.run_bind, hus, hut, Result.andThen_ok]
   rfl
  ·
   cases hc
 ·
  intro l v hv ρ l' hl
  obtain ⟨al, av, ns, h1, h2⟩ := h.bytes _ (bytesT_mem hv)
  refine ⟨ns, ?_, ?_⟩
  ·
   rw [dens_inv al hl]; exact h1
  ·
   rw [← h2]; exact den_V av
 ·
  intro x lo hi v hv ρ x' lo' hi' w t hx hlo hhi ht
  obtain ⟨ax, alo, ahi, av, hs⟩ := h.slices _ (sliceT_mem hv)
  dsimp only at hs
  rw [den_inv ax hx, denO_inv alo hlo, denO_inv ahi hhi]
  refine ⟨_, den_V av, ?_⟩
  generalize den x = X at hs ⊢
  generalize den v = Z at hs ⊢
  generalize lo.map den = LO at hs ⊢
  generalize hi.map den = HI at hs ⊢
  cases X <;> first | (cases hs; done) | skip
  rename_i s
  have hs' : sliceStr s.data.toList LO HI = some Z := hs
  unfold sliceStr at hs'
  simp only [bnd_eq, lenL_eq, dropL_eq, takeL_eq] at hs'
  obtain ⟨h', hh, l, hl, e⟩ := hs'
  cases e
  have hss : s.data.toList.length = s.size := by simp
  rw [hss] at hh
  obtain ⟨m', hrun, _, _⟩ := run_bounds (P := P) (w := w) (isS := false) (len := s.size) (cap := s.size) (len' := s.size) (m := s.size) (mx := none) (mx' := none) (refl_OV hl) (refl_OV hh) .none (.inl ⟨rfl, Nat.le_refl _⟩) (.inl rfl) hh hl
  have hu := fun w => run_underlying ht w
  have hx : s.extract l h' = ⟨⟨(s.data.toList.take h').drop l⟩⟩ := by
   have hd : (s.extract l h').data = s.data.extract l h' := by simp
   cases hx : s.extract l h' with
   | mk d => rw [hx] at hd; simp only at hd; subst hd; congr 1; apply Array.ext'; simp [List.extract_eq_take_drop, List.drop_take]
  simp only [Instr.sliceAt, Instr.slice, Sem.run_bind, hu, Result.andThen_ok]
  simp [hrun, hx, str]
 ·
  intro i v hv ρ x' hx
  obtain ⟨av, s, h1, h2⟩ := h.lens _ (lenT_mem hv)
  cases hx
  exact ⟨s, h1, by rw [← h2]; exact den_V av⟩
 ·
  intro x i v hv ρ x' i' w t hx hi ht
  obtain ⟨ax, ai, av, hs⟩ := h.idx _ (idxT_mem hv)
  dsimp only at hs
  rw [den_inv ax hx, den_inv ai hi]
  refine ⟨_, den_V av, ?_⟩
  have hu := fun w => run_underlying ht w
  generalize den x = X at hs ⊢
  generalize den i = I at hs ⊢
  generalize den v = Z at hs ⊢
  unfold scalarIndex at hs
  split at hs
  ·
   rename_i s k n
   split at hs
   ·
    rename_i m
    split at hs
    ·
     rename_i b hb
     cases hs
     have h0 : (0 : Int) ≤ Int.ofNat m := Int.natCast_nonneg m
     have e : (Int.ofNat m).toNat = m := rfl
     simp only [Instr.index, asIntOf, Sem.run_bind, Sem.run_pure, Result.andThen_ok, hu]
     rw [if_pos h0, e, hb]
     simp
    ·
     cases hs
   ·
    cases hs
  ·
   cases hs
end

/-! ### Numbers held against each other -/
theorem ints_lss {a b : Int} (c : Bool) (h : decide (a < b) = c) : scalarOp .lss (.int .i64 a) (.int .i64 b) = some (.bool c) := by
 subst h
 show mkBool (ltI a b) = _
 rw [mkBool_eq, ltI_eq]

/-! ### A function of one text that has but a number -/
theorem below_postV [Sg] {P : Program} {ρ : Map} {H : Heap} {w w' : World} {v v' : Value} {S : Nat → Prop} (hH : HR P ρ H w) (hv : V ρ v v') (hB : Below w.heap.size w w') : Post P S ρ H w v H v' w' := by
 refine ⟨ρ, hv, ⟨fun b x e h1 h2 => ?_, hH.inj, hH.dom, hH.lim, hH.top⟩, ⟨fun _ => .inl rfl, hB.os, hB.tape, hB.output, hB.size, fun B h _ => hB.block B h, fun _ _ h => h, Nat.le_refl _, fun _ _ h => h, fun _ _ _ => rfl, fun _ h _ => h⟩⟩
 have h3 := hH.blk b x e h1 h2
 rw [hB.block]
 ·
  exact h3
 ·
  rcases Nat.lt_or_ge e.B w.heap.size with h | h
  ·
   exact h
  ·
   rw [Array.getElem?_eq_none h] at h3; cases h3

theorem plain_one {v : Value} (h : plain v = true) : v.oneCell' = true := (plain_cells h).2
end Go.Ev
