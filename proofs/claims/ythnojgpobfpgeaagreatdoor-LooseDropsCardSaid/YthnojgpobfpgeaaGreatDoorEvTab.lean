/- Tables of what is known of values that have but a number. -/
import Derived.Test.YthnojgpobfpgeaaGreatDoorEvEnv
import Derived.Test.YthnojgpobfpgeaaGreatDoorEvSpecs
namespace Go.Ev
open Go.RowKit
def atom : Value -> Bool
 | .float .f64 _ => true
 | v => plain v
section
variable [Sg]
def den : Value -> Value
 | .float .f64 i => Sg.val i
 | v => v
theorem den_inv {ρ : Map} {v v' : Value} (ha : atom v = true) (h : V ρ v v') : v' = den v := by
 cases h <;> first | rfl | (cases ha; done)
theorem den_V {ρ : Map} {v : Value} (ha : atom v = true) : V ρ v (den v) := by
 cases v with
 | float k i => cases k with
  | f64 => exact .sym i
  | f32 => cases ha
 | _ => exact .plain ha
theorem dens_inv {ρ : Map} : ∀ {l l' : List Value}, (∀ v ∈ l, atom v = true) -> VL ρ l l' -> l' = l.map den
 | [], _, _, .nil => rfl
 | v :: l, _, h, .cons hv ht => by
  rw [List.map_cons, den_inv (h v (by simp)) hv, dens_inv (fun v hv => h v (by simp [hv])) ht]
theorem denO_inv {ρ : Map} {x x' : Option Value} (h : ∀ v, x = some v -> atom v = true) (hV : OV ρ x x') : x' = x.map den := by
 cases hV with
 | none => rfl
 | some hv => rw [den_inv (h _ rfl) hv]; rfl
end
noncomputable def scalarOp (op : BinOp) (x y : Value) : Option Value :=
 match x, y with
 | .int k a, .int k' b => intOp op k a k' b
 | .string a, .string b => strFn op a.data.toList b.data.toList
 | _, _ => none
def scalarConv (d : TypeDesc) (x : Value) : Option Value :=
 match d, x with
 | .int k, .int _ n => some (.int k (k.wrap n))
 | .string, .string s => some (.string s)
 | _, _ => none
noncomputable def scalarSlice (x : Value) (lo hi : Option Value) : Option Value :=
 match x with
 | .string s => sliceStr s.data.toList lo hi
 | _ => none
def opn : BinOp -> Nat
 | .add => 0 | .sub => 1 | .mul => 2 | .quo => 3 | .rem => 4 | .and => 5 | .or => 6 | .xor => 7 | .shl => 8 | .shr => 9 | .andNot => 10
 | .eql => 11 | .neq => 12 | .lss => 13 | .leq => 14 | .gtr => 15 | .geq => 16
theorem opn_inj {a b : BinOp} (h : Nat.beq (opn a) (opn b) = true) : a = b := by
 have := Nat.eq_of_beq_eq_true h
 cases a <;> cases b <;> first | rfl | (cases this; done)
def descn : TypeDesc -> Nat
 | .int k => match k with | .i8 => 0 | .i16 => 1 | .i32 => 2 | .i64 => 3 | .u8 => 4 | .u16 => 5 | .u32 => 6 | .u64 => 7
 | .string => 8
 | _ => 9
def descOf : Nat -> TypeDesc
 | 0 => .int .i8 | 1 => .int .i16 | 2 => .int .i32 | 3 => .int .i64 | 4 => .int .u8 | 5 => .int .u16 | 6 => .int .u32 | 7 => .int .u64 | _ => .string
structure SBin where
 op : BinOp
 x : Value
 y : Value
 v : Value
structure SConv where
 d : Nat
 x : Value
 v : Value
structure SBytes where
 l : List Value
 v : Value
structure SSlice where
 x : Value
 lo : Option Value
 hi : Option Value
 v : Value
structure SLen where
 i : Nat
 v : Value
structure SIdx where
 x : Value
 i : Value
 v : Value
structure SKey where
 x : Value
 y : Value
 b : Bool
noncomputable def sameOV (a b : Option Value) : Bool :=
 Option.rec (motive := fun _ => Bool) (Option.rec (motive := fun _ => Bool) true (fun _ => false) b) (fun a => Option.rec (motive := fun _ => Bool) false (fun b => sameV 3 a b) b) a
theorem sameOV_ok {a b : Option Value} (h : sameOV a b = true) : a = b := by
 cases a <;> cases b <;> first | rfl | (cases h; done) | exact congrArg some (sameV_ok 3 _ _ h)
noncomputable def binT (tab : List SBin) (op : BinOp) (x y : Value) : Option Value :=
 List.rec (motive := fun _ => Option Value) none (fun e _ ih => ifB (Nat.beq (opn e.op) (opn op)) (ifB (sameV 3 e.x x) (ifB (sameV 3 e.y y) (some e.v) ih) ih) ih) tab
noncomputable def convT (tab : List SConv) (d : TypeDesc) (x : Value) : Option Value :=
 List.rec (motive := fun _ => Option Value) none (fun e _ ih => ifB (Nat.beq e.d (descn d)) (ifB (sameV 3 e.x x) (some e.v) ih) ih) tab
noncomputable def bytesT (tab : List SBytes) (l : List Value) : Option Value :=
 List.rec (motive := fun _ => Option Value) none (fun e _ ih => ifB (all2 (sameV 3) e.l l) (some e.v) ih) tab
noncomputable def sliceT (tab : List SSlice) (x : Value) (lo hi : Option Value) : Option Value :=
 List.rec (motive := fun _ => Option Value) none (fun e _ ih => ifB (sameV 3 e.x x) (ifB (sameOV e.lo lo) (ifB (sameOV e.hi hi) (some e.v) ih) ih) ih) tab
noncomputable def lenT (tab : List SLen) (i : Nat) : Option Value :=
 List.rec (motive := fun _ => Option Value) none (fun e _ ih => ifB (Nat.beq e.i i) (some e.v) ih) tab
noncomputable def idxT (tab : List SIdx) (x i : Value) : Option Value :=
 List.rec (motive := fun _ => Option Value) none (fun e _ ih => ifB (sameV 3 e.i i) (ifB (sameV 3 e.x x) (some e.v) ih) ih) tab
noncomputable def keyT (tab : List SKey) (x y : Value) : Option Bool :=
 List.rec (motive := fun _ => Option Bool) none (fun e _ ih => ifB (sameV 3 e.x x) (ifB (sameV 3 e.y y) (some e.b) ih) ih) tab
theorem keyT_mem {x y : Value} {b : Bool} : ∀ {tab : List SKey}, keyT tab x y = some b -> ⟨x, y, b⟩ ∈ tab
 | [], h => by cases h
 | e :: tab, h => by
  have h' : ifB (sameV 3 e.x x) (ifB (sameV 3 e.y y) (some e.b) (keyT tab x y)) (keyT tab x y) = some b := h
  cases h1 : sameV 3 e.x x with
  | false => rw [h1, ifB_false] at h'; exact List.mem_cons_of_mem _ (keyT_mem h')
  | true =>
   rw [h1, ifB_true] at h'
   cases h2 : sameV 3 e.y y with
   | false => rw [h2, ifB_false] at h'; exact List.mem_cons_of_mem _ (keyT_mem h')
   | true =>
    rw [h2, ifB_true] at h'
    cases h'
    rw [<- sameV_ok 3 _ _ h1, <- sameV_ok 3 _ _ h2]
    exact List.mem_cons_self
theorem binT_mem {op : BinOp} {x y v : Value} : ∀ {tab : List SBin}, binT tab op x y = some v -> ⟨op, x, y, v⟩ ∈ tab
 | [], h => by cases h
 | e :: tab, h => by
  have h' : ifB (Nat.beq (opn e.op) (opn op)) (ifB (sameV 3 e.x x) (ifB (sameV 3 e.y y) (some e.v) (binT tab op x y)) (binT tab op x y)) (binT tab op x y) = some v := h
  have rest : binT tab op x y = some v -> (⟨op, x, y, v⟩ : SBin) ∈ e :: tab := fun h => List.mem_cons_of_mem _ (binT_mem h)
  cases h1 : Nat.beq (opn e.op) (opn op) with
  | false => rw [h1, ifB_false] at h'; exact rest h'
  | true =>
   rw [h1, ifB_true] at h'
   cases h2 : sameV 3 e.x x with
   | false => rw [h2, ifB_false] at h'; exact rest h'
   | true =>
    rw [h2, ifB_true] at h'
    cases h3 : sameV 3 e.y y with
    | false => rw [h3, ifB_false] at h'; exact rest h'
    | true =>
     rw [h3, ifB_true] at h'
     have e1 := opn_inj h1
     have e2 := sameV_ok 3 _ _ h2
     have e3 := sameV_ok 3 _ _ h3
     cases h'
     subst e1 e2 e3
     exact List.mem_cons_self
theorem convT_mem {d : TypeDesc} {x v : Value} : ∀ {tab : List SConv}, convT tab d x = some v -> ⟨descn d, x, v⟩ ∈ tab
 | [], h => by cases h
 | e :: tab, h => by
  have h' : ifB (Nat.beq e.d (descn d)) (ifB (sameV 3 e.x x) (some e.v) (convT tab d x)) (convT tab d x) = some v := h
  have rest : convT tab d x = some v -> (⟨descn d, x, v⟩ : SConv) ∈ e :: tab := fun h => List.mem_cons_of_mem _ (convT_mem h)
  cases h1 : Nat.beq e.d (descn d) with
  | false => rw [h1, ifB_false] at h'; exact rest h'
  | true =>
   rw [h1, ifB_true] at h'
   cases h2 : sameV 3 e.x x with
   | false => rw [h2, ifB_false] at h'; exact rest h'
   | true =>
    rw [h2, ifB_true] at h'
    have e1 := Nat.eq_of_beq_eq_true h1
    have e2 := sameV_ok 3 _ _ h2
    cases h'
    rw [<- e1, <- e2]
    exact List.mem_cons_self
theorem bytesT_mem {l : List Value} {v : Value} : ∀ {tab : List SBytes}, bytesT tab l = some v -> ⟨l, v⟩ ∈ tab
 | [], h => by cases h
 | e :: tab, h => by
  have h' : ifB (all2 (sameV 3) e.l l) (some e.v) (bytesT tab l) = some v := h
  cases h1 : all2 (sameV 3) e.l l with
  | false => rw [h1, ifB_false] at h'; exact List.mem_cons_of_mem _ (bytesT_mem h')
  | true =>
   rw [h1, ifB_true] at h'
   cases h'
   rw [<- all2_ok (sameV_ok 3) h1]
   exact List.mem_cons_self
theorem sliceT_mem {x : Value} {lo hi : Option Value} {v : Value} : ∀ {tab : List SSlice}, sliceT tab x lo hi = some v -> ⟨x, lo, hi, v⟩ ∈ tab
 | [], h => by cases h
 | e :: tab, h => by
  have h' : ifB (sameV 3 e.x x) (ifB (sameOV e.lo lo) (ifB (sameOV e.hi hi) (some e.v) (sliceT tab x lo hi)) (sliceT tab x lo hi)) (sliceT tab x lo hi) = some v := h
  have rest : sliceT tab x lo hi = some v -> (⟨x, lo, hi, v⟩ : SSlice) ∈ e :: tab := fun h => List.mem_cons_of_mem _ (sliceT_mem h)
  cases h1 : sameV 3 e.x x with
  | false => rw [h1, ifB_false] at h'; exact rest h'
  | true =>
   rw [h1, ifB_true] at h'
   cases h2 : sameOV e.lo lo with
   | false => rw [h2, ifB_false] at h'; exact rest h'
   | true =>
    rw [h2, ifB_true] at h'
    cases h3 : sameOV e.hi hi with
    | false => rw [h3, ifB_false] at h'; exact rest h'
    | true =>
     rw [h3, ifB_true] at h'
     cases h'
     rw [<- sameV_ok 3 _ _ h1, <- sameOV_ok h2, <- sameOV_ok h3]
     exact List.mem_cons_self
theorem lenT_mem {i : Nat} {v : Value} : ∀ {tab : List SLen}, lenT tab i = some v -> ⟨i, v⟩ ∈ tab
 | [], h => by cases h
 | e :: tab, h => by
  have h' : ifB (Nat.beq e.i i) (some e.v) (lenT tab i) = some v := h
  cases h1 : Nat.beq e.i i with
  | false => rw [h1, ifB_false] at h'; exact List.mem_cons_of_mem _ (lenT_mem h')
  | true =>
   rw [h1, ifB_true] at h'
   cases h'
   rw [<- Nat.eq_of_beq_eq_true h1]
   exact List.mem_cons_self
theorem idxT_mem {x i v : Value} : ∀ {tab : List SIdx}, idxT tab x i = some v -> ⟨x, i, v⟩ ∈ tab
 | [], h => by cases h
 | e :: tab, h => by
  have h' : ifB (sameV 3 e.i i) (ifB (sameV 3 e.x x) (some e.v) (idxT tab x i)) (idxT tab x i) = some v := h
  cases h1 : sameV 3 e.i i with
  | false => rw [h1, ifB_false] at h'; exact List.mem_cons_of_mem _ (idxT_mem h')
  | true =>
   rw [h1, ifB_true] at h'
   cases h2 : sameV 3 e.x x with
   | false => rw [h2, ifB_false] at h'; exact List.mem_cons_of_mem _ (idxT_mem h')
   | true =>
    rw [h2, ifB_true] at h'
    cases h'
    rw [<- sameV_ok 3 _ _ h1, <- sameV_ok 3 _ _ h2]
    exact List.mem_cons_self
def scalarIndex (x i : Value) : Option Value :=
 match x, i with
 | .string s, .int _ n => match n with
  | .ofNat m => match s[m]? with
   | some b => some (.int .u8 b.toNat)
   | none => none
  | .negSucc _ => none
 | _, _ => none
structure Tabs where
 bins : List SBin := []
 convs : List SConv := []
 bytes : List SBytes := []
 slices : List SSlice := []
 lens : List SLen := []
 idx : List SIdx := []
 keys : List SKey := []
noncomputable def Tabs.syms (T : Tabs) : Syms := ⟨binT T.bins, convT T.convs, bytesT T.bytes, sliceT T.slices, lenT T.lens, idxT T.idx, fun _ _ => none, keyT T.keys⟩
section
variable [Sg]
structure TabsOk (T : Tabs) : Prop where
 bins : ∀ e ∈ T.bins, atom e.x = true /\ atom e.y = true /\ atom e.v = true /\ scalarOp e.op (den e.x) (den e.y) = some (den e.v)
 convs : ∀ e ∈ T.convs, e.d < 9 /\ atom e.x = true /\ atom e.v = true /\ scalarConv (descOf e.d) (den e.x) = some (den e.v)
 bytes : ∀ e ∈ T.bytes, (∀ v ∈ e.l, atom v = true) /\ atom e.v = true /\ ∃ ns : List Int, e.l.map den = ns.map (Value.int .u8) /\ den e.v = str (ns.map fun n => UInt8.ofNat n.toNat)
 slices : ∀ e ∈ T.slices, atom e.x = true /\ (∀ v, e.lo = some v -> atom v = true) /\ (∀ v, e.hi = some v -> atom v = true) /\ atom e.v = true /\ scalarSlice (den e.x) (e.lo.map den) (e.hi.map den) = some (den e.v)
 lens : ∀ e ∈ T.lens, atom e.v = true /\ ∃ s : ByteArray, Sg.val e.i = .string s /\ den e.v = .int .i64 s.size
 idx : ∀ e ∈ T.idx, atom e.x = true /\ atom e.i = true /\ atom e.v = true /\ scalarIndex (den e.x) (den e.i) = some (den e.v)
 keys : ∀ e ∈ T.keys, atom e.x = true /\ atom e.y = true /\ ∃ p q : ByteArray, den e.x = .string p /\ den e.y = .string q /\ e.b = same p.data.toList q.data.toList
theorem refl_OV {x : Option Value} {n most dflt : Nat} (h : bound x most dflt = some n) : OV (fun _ => none) x x := by
 cases x with
 | none => exact .none
 | some v =>
  have h' : bnd (intOf' v) (fun i => inB i most) = some n := h
  rw [bnd_eq] at h'
  obtain ⟨i, hi, _⟩ := h'
  obtain ⟨k, rfl⟩ := intOf_eq hi
  exact .some (.int k i)
omit [Sg] in
theorem desc_of {d : TypeDesc} (h : descn d < 9) : descOf (descn d) = d := by
 cases d <;> first | (exfalso; revert h; decide) | rfl | skip
 all_goals first | (rename_i k; cases k <;> rfl) | (exfalso; revert h; simp [descn])
theorem tabs_ok {P : Program} {T : Tabs} (h : TabsOk T) : SymsOk P T.syms := by
 refine ⟨?_, ?_, ?_, ?_, ?_, ?_, fun _ _ _ h => (by cases h), fun x y b hv ρ x' y' hx hy => ?_⟩
 rotate_right
 ·
  obtain ⟨ax, ay, p, q, h1, h2, h3⟩ := h.keys _ (keyT_mem hv)
  rw [den_inv ax hx, den_inv ay hy]
  exact ⟨p, q, h1, h2, h3⟩
 ·
  intro op t x y v hv ρ x' y' w a b hx hy
  obtain ⟨ax, ay, av, hs⟩ := h.bins _ (binT_mem hv)
  rw [den_inv ax hx, den_inv ay hy]
  refine ⟨_, den_V av, ?_⟩
  dsimp only at hs
  generalize den x = X at hs ⊢
  generalize den y = Y at hs ⊢
  generalize den v = Z at hs ⊢
  cases X <;> first | (cases hs; done) | skip
  ·
   cases Y <;> first | (cases hs; done) | skip
   rw [eqGuard_at_int]
   simpa using intOp_ok hs
  ·
   cases Y <;> first | (cases hs; done) | skip
   rw [eqGuard_at_string]
   simpa using strOp_ok hs
 ·
  intro d x v hv ρ x' w s t sd hx hs ht
  obtain ⟨hd, ax, av, hc⟩ := h.convs _ (convT_mem hv)
  dsimp only at hd hc
  rw [desc_of hd] at hc
  rw [den_inv ax hx]
  refine ⟨_, den_V av, ?_⟩
  generalize den x = X at hc ⊢
  generalize den v = Z at hc ⊢
  have hus := fun w => run_underlying hs w
  have hut := fun w => run_underlying ht w
  unfold scalarConv at hc
  split at hc
  ·
   cases hc
   simp only [Go.convert, Sem.run_bind, hus, hut, Result.andThen_ok]
   rfl
  ·
   cases hc
   simp only [Go.convert, Sem.run_bind, hus, hut, Result.andThen_ok]
   rfl
  ·
   cases hc
 ·
  intro l v hv ρ l' hl
  obtain ⟨al, av, ns, h1, h2⟩ := h.bytes _ (bytesT_mem hv)
  refine ⟨ns, ?_, ?_⟩
  ·
   rw [dens_inv al hl]; exact h1
  ·
   rw [<- h2]; exact den_V av
 ·
  intro x lo hi v hv ρ x' lo' hi' w t hx hlo hhi ht
  obtain ⟨ax, alo, ahi, av, hs⟩ := h.slices _ (sliceT_mem hv)
  dsimp only at hs
  rw [den_inv ax hx, denO_inv alo hlo, denO_inv ahi hhi]
  refine ⟨_, den_V av, ?_⟩
  generalize den x = X at hs ⊢
  generalize den v = Z at hs ⊢
  generalize lo.map den = LO at hs ⊢
  generalize hi.map den = HI at hs ⊢
  cases X <;> first | (cases hs; done) | skip
  rename_i s
  have hs' : sliceStr s.data.toList LO HI = some Z := hs
  unfold sliceStr at hs'
  simp only [bnd_eq, lenL_eq, dropL_eq, takeL_eq] at hs'
  obtain ⟨h', hh, l, hl, e⟩ := hs'
  cases e
  have hss : s.data.toList.length = s.size := by simp
  rw [hss] at hh
  obtain ⟨m', hrun, _, _⟩ := run_bounds (P := P) (w := w) (isS := false) (len := s.size) (cap := s.size) (len' := s.size) (m := s.size) (mx := none) (mx' := none) (refl_OV hl) (refl_OV hh) .none (.inl ⟨rfl, Nat.le_refl _⟩) (.inl rfl) hh hl
  have hu := fun w => run_underlying ht w
  have hx : s.extract l h' = ⟨⟨(s.data.toList.take h').drop l⟩⟩ := by
   have hd : (s.extract l h').data = s.data.extract l h' := by simp
   cases hx : s.extract l h' with
   | mk d => rw [hx] at hd; simp only at hd; subst hd; congr 1; apply Array.ext'; simp [List.extract_eq_take_drop, List.drop_take]
  simp only [Instr.sliceAt, Instr.slice, Sem.run_bind, hu, Result.andThen_ok]
  simp [hrun, hx, str]
 ·
  intro i v hv ρ x' hx
  obtain ⟨av, s, h1, h2⟩ := h.lens _ (lenT_mem hv)
  cases hx
  exact ⟨s, h1, by rw [<- h2]; exact den_V av⟩
 ·
  intro x i v hv ρ x' i' w t hx hi ht
  obtain ⟨ax, ai, av, hs⟩ := h.idx _ (idxT_mem hv)
  dsimp only at hs
  rw [den_inv ax hx, den_inv ai hi]
  refine ⟨_, den_V av, ?_⟩
  have hu := fun w => run_underlying ht w
  generalize den x = X at hs ⊢
  generalize den i = I at hs ⊢
  generalize den v = Z at hs ⊢
  unfold scalarIndex at hs
  split at hs
  ·
   rename_i s k n
   split at hs
   ·
    rename_i m
    split at hs
    ·
     rename_i b hb
     cases hs
     have h0 : (0 : Int) <= Int.ofNat m := Int.natCast_nonneg m
     have e : (Int.ofNat m).toNat = m := rfl
     simp only [Instr.index, asIntOf, Sem.run_bind, Sem.run_pure, Result.andThen_ok, hu]
     rw [if_pos h0, e, hb]
     simp
    ·
     cases hs
   ·
    cases hs
  ·
   cases hs
end
theorem ints_lss {a b : Int} (c : Bool) (h : decide (a < b) = c) : scalarOp .lss (.int .i64 a) (.int .i64 b) = some (.bool c) := by
 subst h
 show mkBool (ltI a b) = _
 rw [mkBool_eq, ltI_eq]
theorem ints_gtr {a b : Int} (c : Bool) (h : decide (b < a) = c) : scalarOp .gtr (.int .i64 a) (.int .i64 b) = some (.bool c) := by
 subst h
 show mkBool (ltI b a) = _
 rw [mkBool_eq, ltI_eq]
theorem ints_geq {a b : Int} (c : Bool) (h : decide (b <= a) = c) : scalarOp .geq (.int .i64 a) (.int .i64 b) = some (.bool c) := by
 subst h
 show mkBool (!(ltI a b)) = _
 rw [mkBool_eq, ltI_eq]
 congr 2
 by_cases h : a < b <;> simp [h] <;> omega
theorem below_postV [Sg] {P : Program} {ρ : Map} {H : Heap} {w w' : World} {v v' : Value} {S : Nat -> Prop} (hH : HR P ρ H w) (hv : V ρ v v') (hB : Below w.heap.size w w') : Post P S ρ H w v H v' w' := by
 refine ⟨ρ, hv, ⟨fun b x e h1 h2 => ?_, hH.inj, hH.dom, hH.lim, hH.top⟩, ⟨fun _ => .inl rfl, hB.os, hB.tape, hB.output, hB.size, fun B h _ => hB.block B h, fun _ _ h => h, Nat.le_refl _, fun _ _ h => h, fun _ _ _ => rfl, fun _ h _ => h⟩⟩
 have h3 := hH.blk b x e h1 h2
 rw [hB.block]
 ·
  exact h3
 ·
  rcases Nat.lt_or_ge e.B w.heap.size with h | h
  ·
   exact h
  ·
   rw [Array.getElem?_eq_none h] at h3; cases h3
theorem plain_one {v : Value} (h : plain v = true) : v.oneCell' = true := (plain_cells h).2
end Go.Ev
namespace Go.Ev
open Go.RowKit
structure SRow where
 args : List Value
 v : Value
def atomC : Value -> Bool
 | .func (.func _) ⟨[]⟩ ⟨[]⟩ => true
 | v => atom v
noncomputable def allB (p : Value -> Bool) (l : List Value) : Bool := List.rec (motive := fun _ => Bool) true (fun v _ ih => ifB (p v) ih false) l
theorem allB_ok {p : Value -> Bool} : ∀ {l : List Value}, allB p l = true -> ∀ v ∈ l, p v = true
 | [], _, v, hv => by cases hv
 | a :: l, h, v, hv => by
  have h' : ifB (p a) (allB p l) false = true := h
  cases hp : p a with
  | false => rw [hp] at h'; cases h'
  | true =>
   rw [hp, ifB_true] at h'
   rcases List.mem_cons.1 hv with rfl | hv
   ·
    exact hp
   ·
    exact allB_ok h' v hv
noncomputable def rowsT (tab : List SRow) (args : List Value) (H : Heap) : Res :=
 List.rec (motive := fun _ => Res) none (fun e _ ih => ifB (all2 (sameV 3) e.args args) (some (e.v, H)) ih) tab
theorem rowsT_mem {args : List Value} {H : Heap} {r : Value × Heap} : ∀ {tab : List SRow}, rowsT tab args H = some r -> r.2 = H /\ ⟨args, r.1⟩ ∈ tab
 | [], h => by cases h
 | e :: tab, h => by
  have h' : ifB (all2 (sameV 3) e.args args) (some (e.v, H)) (rowsT tab args H) = some r := h
  cases h1 : all2 (sameV 3) e.args args with
  | false =>
   rw [h1, ifB_false] at h'
   obtain ⟨h2, h3⟩ := rowsT_mem h'
   exact ⟨h2, List.mem_cons_of_mem _ h3⟩
  | true =>
   rw [h1, ifB_true] at h'
   cases h'
   rw [<- all2_ok (sameV_ok 3) h1]
   exact ⟨rfl, List.mem_cons_self⟩
def atomT : Value -> Bool
 | .tuple ⟨l⟩ => l.all atom
 | v => atom v
section
variable [Sg]
def denT : Value -> Value
 | .tuple ⟨l⟩ => .tuple ⟨l.map den⟩
 | v => den v
theorem denT_V {ρ : Map} {v : Value} (ha : atomT v = true) : V ρ v (denT v) := by
 cases v with
 | tuple a =>
  obtain ⟨l⟩ := a
  have h : l.all atom = true := ha
  refine .tuple ?_
  rw [List.all_eq_true] at h
  clear ha
  induction l with
  | nil => exact .nil
  | cons a l ih => exact .cons (den_V (h a (by simp))) (ih fun x hx => h x (by simp [hx]))
 | float k i => cases k with
  | f64 => exact .sym i
  | f32 => cases ha
 | _ => exact den_V ha
theorem denC_inv {ρ : Map} {v v' : Value} (ha : atomC v = true) (h : V ρ v v') : v' = den v := by
 by_cases hf : ∃ f, v = .func (.func f) ⟨[]⟩ ⟨[]⟩
 ·
  obtain ⟨f, rfl⟩ := hf
  cases h with
  | func fn h1 h2 => cases h1; cases h2; rfl
 ·
  refine den_inv ?_ h
  unfold atomC at ha
  split at ha
  ·
   exact absurd ⟨_, rfl⟩ hf
  ·
   exact ha
theorem densC_inv {ρ : Map} : ∀ {l l' : List Value}, (∀ v ∈ l, atomC v = true) -> VL ρ l l' -> l' = l.map den
 | [], _, _, .nil => rfl
 | v :: l, _, h, .cons hv ht => by
  rw [List.map_cons, denC_inv (h v (by simp)) hv, densC_inv (fun v hv => h v (by simp [hv])) ht]
structure RowOk (P : Program) (f : FuncId) (e : SRow) : Prop where
 args : allB atomC e.args = true
 v : atomT e.v = true
 calls : ∀ w, Calls P f ⟨e.args.map den⟩ w fun r w' => r = .returned (denT e.v) /\ Below w.heap.size w w'
theorem rows_ok {P : Program} {f : FuncId} (he : Enters P f) {tab : List SRow} (h : ∀ e ∈ tab, RowOk P f e) : SpecOk P f (rowsT tab) := by
 intro args H u H' hs ρ w args' hA hH
 obtain ⟨e1, hm⟩ := rowsT_mem hs
 obtain ⟨h1, h2, h3⟩ := h _ hm
 dsimp only at e1 h1 h2 h3
 subst e1
 rw [densC_inv (allB_ok h1) hA]
 refine spec_calls he (Calls.mono (h3 w) ?_)
 rintro r w' ⟨rfl, hB⟩
 exact ⟨_, rfl, below_postV hH (denT_V h2) hB⟩
structure RowX (P : Program) (x : Array Value -> Sem Value) (e : SRow) : Prop where
 args : allB atomC e.args = true
 v : atomT e.v = true
 runs : ∀ w, (x ⟨e.args.map den⟩).run P w = .ok (denT e.v) w
theorem rowsX_ok {P : Program} {f : FuncId} {x : Array Value -> Sem Value} (hx : Ext P f x) {tab : List SRow} (h : ∀ e ∈ tab, RowX P x e) : SpecOk P f (rowsT tab) := by
 intro args H u H' hs ρ w args' hA hH
 obtain ⟨e1, hm⟩ := rowsT_mem hs
 obtain ⟨h1, h2, h3⟩ := h _ hm
 dsimp only at e1 h1 h2 h3
 subst e1
 rw [densC_inv (allB_ok h1) hA]
 exact .inl ⟨_, w, hx.run (h3 w), ρ, denT_V h2, hH, .refl _ _ _ _⟩
end
noncomputable def szT (tab : List (Value × Nat)) (v : Value) : Option Nat :=
 List.rec (motive := fun _ => Option Nat) none (fun e _ ih => ifB (sameV 3 e.1 v) (some e.2) ih) tab
theorem szT_mem {v : Value} {n : Nat} : ∀ {tab : List (Value × Nat)}, szT tab v = some n -> (v, n) ∈ tab
 | [], h => by cases h
 | e :: tab, h => by
  have h' : ifB (sameV 3 e.1 v) (some e.2) (szT tab v) = some n := h
  cases h1 : sameV 3 e.1 v with
  | false => rw [h1, ifB_false] at h'; exact List.mem_cons_of_mem _ (szT_mem h')
  | true =>
   rw [h1, ifB_true] at h'
   cases h'
   rw [<- sameV_ok 3 _ _ h1]
   exact List.mem_cons_self
noncomputable def szsOf (tab : List (Value × Nat)) (l : List MapEntry) : Option (List Nat) :=
 List.rec (motive := fun _ => Option (List Nat)) (some []) (fun e _ ih => bnd (szT tab e.key) fun n => bnd ih fun r => some (n :: r)) l
noncomputable def memN (n : Nat) (l : List Nat) : Bool := List.rec (motive := fun _ => Bool) false (fun a _ ih => ifB (Nat.beq n a) true ih) l
noncomputable def distN (l : List Nat) : Bool := List.rec (motive := fun _ => Bool) true (fun a t ih => ifB (memN a t) false ih) l
noncomputable def leN (n : Nat) (l : List Nat) : Bool := List.rec (motive := fun _ => Bool) true (fun a _ ih => ifB (Nat.ble a n) ih false) l
theorem memN_no {n : Nat} : ∀ {l : List Nat}, memN n l = false -> n ∉ l
 | [], _ => by simp
 | a :: l, h => by
  have h' : ifB (Nat.beq n a) true (memN n l) = false := h
  cases hb : Nat.beq n a with
  | true => rw [hb] at h'; cases h'
  | false =>
   rw [hb, ifB_false] at h'
   have := Nat.ne_of_beq_eq_false hb
   rw [List.mem_cons]
   rintro (e | e)
   ·
    exact this e
   ·
    exact memN_no h' e
theorem distN_ok : ∀ {l : List Nat}, distN l = true -> l.Nodup
 | [], _ => List.nodup_nil
 | a :: l, h => by
  have h' : ifB (memN a l) false (distN l) = true := h
  cases hm : memN a l with
  | true => rw [hm] at h'; cases h'
  | false =>
   rw [hm, ifB_false] at h'
   exact List.nodup_cons.2 ⟨memN_no hm, distN_ok h'⟩
theorem leN_ok {n : Nat} : ∀ {l : List Nat}, leN n l = true -> ∀ a ∈ l, a <= n
 | [], _, a, ha => by cases ha
 | b :: l, h, a, ha => by
  have h' : ifB (Nat.ble b n) (leN n l) false = true := h
  cases hb : Nat.ble b n with
  | false => rw [hb] at h'; cases h'
  | true =>
   rw [hb, ifB_true] at h'
   rcases List.mem_cons.1 ha with rfl | ha
   ·
    exact Nat.le_of_ble_eq_true hb
   ·
    exact leN_ok h' a ha
section
variable [Sg]
def SzOk (tab : List (Value × Nat)) : Prop := ∀ e ∈ tab, atom e.1 = true /\ ∃ s : ByteArray, den e.1 = .string s /\ s.size = e.2
theorem szs_keys {tab : List (Value × Nat)} (ht : SzOk tab) {ρ : Map} : ∀ {l l' : List MapEntry} {ns : List Nat}, EL ρ l l' -> szsOf tab l = some ns -> ∃ ss : List ByteArray, l'.map (·.key) = ss.map .string /\ ss.map (·.size) = ns
 | _, _, _, .nil, h => by cases h; exact ⟨[], rfl, rfl⟩
 | _, _, ns, .cons (k := k) (n := n) (v := v) (l := l) hk hv t, h => by
  have h' : bnd (szT tab k) (fun n => bnd (szsOf tab l) fun r => some (n :: r)) = some ns := h
  simp only [bnd_eq] at h'
  obtain ⟨m, hm, r, hr, e⟩ := h'
  cases e
  obtain ⟨h1, s, h2, h3⟩ := ht _ (szT_mem hm)
  obtain ⟨ss, h4, h5⟩ := szs_keys ht t hr
  refine ⟨s :: ss, ?_, ?_⟩
  ·
   rw [List.map_cons, List.map_cons, h4, den_inv h1 hk]
   exact congrArg (· :: _) h2
  ·
   rw [List.map_cons, h5]
   exact congrArg (· :: _) h3
theorem szs_stamped {ρ : Map} {l : List MapEntry} {es' : Array MapEntry} {clock : Nat} {ss : List ByteArray} (hE : EL ρ l es'.toList) (hk : es'.toList.map (·.key) = ss.map .string) (h : ascB clock l 0 = true) (hd : distN (ss.map (·.size)) = true) : MapKept.Stamped es' clock := by
 obtain ⟨h1, h2⟩ := ascB_eq hE h
 refine ⟨fun x hx => (h1 x hx).2, h2, ?_⟩
 rw [hk]
 have h3 := distN_ok hd
 unfold List.Nodup at h3 ⊢
 rw [List.pairwise_map] at h3 ⊢
 exact h3.imp fun hne e => hne (by cases e; rfl)
noncomputable def sKidsS (tab : List (Value × Nat)) (args : List Value) (H : Heap) : Res := bnd (two args) fun p => bnd (mapRef p.1) fun r => bnd r fun r => bnd (szT tab p.2) fun n => bnd (mapAt H r) fun es => bnd (szsOf tab es.1) fun ns =>
 chk (ascB es.2 es.1 0 && distN ns && leN n ns && Nat.ble n 1099511627776) (some (.bool false, H))
theorem kidsS_ok {P : Program} {f : FuncId} (he : Enters P f) {tab : List (Value × Nat)} (ht : SzOk tab)
  (hw : ∀ (bm : Nat) (es : Array MapEntry) (clock : Nat) (p : ByteArray) (_ : ¬ 9223372036854775807 < p.size + 1) (w : World) (_ : w.heap[bm]? = some (.map es clock)) (_ : MapKept.Stamped es clock) (_ : ∀ x ∈ es.toList, ∃ v, x.key = .string v),
   Calls P f #[.map (some bm), .string p] w fun e w' => e = .returned (.bool (es.toList.any fun x => Lib.hasPrefix (keyBytesOf x.key) (p ++ ⟨#[47]⟩ : ByteArray).data.toList)) /\
    ∃ (w1 : World) (seen : Array Nat), (w1.Alike w /\ w1.tape = w.tape) /\ w' = w1.alloc (.mapIter (some bm) clock seen clock)) : SpecOk P f (sKidsS tab) := by
 intro args H v H' hs ρ w args' hA hH
 unfold sKidsS at hs
 simp only [bnd_eq, chk_eq, Bool.and_eq_true] at hs
 obtain ⟨⟨m, x⟩, hp, r0, hr0, r, hr, n, hn, es, hes, ns, hns, ⟨⟨⟨hg, hd⟩, hle⟩, hlen⟩, e⟩ := hs
 cases e
 have := two_inv hp; subst this
 subst hr
 dsimp only at hr0 hn hA
 have := mapRef_inv hr0; subst this
 obtain ⟨ax, q, hq, hqn⟩ := ht _ (szT_mem hn)
 dsimp only at ax hq hqn
 match args', hA with
 | [_, _], .cons (.map hm) (.cons h2 .nil) =>
  rw [den_inv ax h2, hq]
  rename_i em
  obtain ⟨_, es', hwm, hEL⟩ := mapAt_ok hH hes hm
  obtain ⟨ss, hkeys, hsz⟩ := szs_keys ht hEL hns
  rw [<- hsz] at hd hle
  have hst := szs_stamped hEL hkeys hg hd
  have hlen' := Nat.le_of_ble_eq_true hlen
  have key : ∀ y ∈ es'.toList, ∃ k : ByteArray, y.key = .string k /\ k.size <= q.size := fun y hy => by
   have : y.key ∈ es'.toList.map (·.key) := List.mem_map.2 ⟨y, hy, rfl⟩
   rw [hkeys] at this
   obtain ⟨k, hk, e⟩ := List.mem_map.1 this
   exact ⟨k, e.symm, by rw [hqn]; exact leN_ok hle _ (List.mem_map.2 ⟨k, hk, rfl⟩)⟩
  refine spec_calls he (Calls.mono (hw em.B es' es.2 q (by omega) w hwm hst fun y hy => ?_) ?_)
  ·
   obtain ⟨k, h1, _⟩ := key y hy
   exact ⟨k, h1⟩
  ·
   rintro e w' ⟨rfl, w1, seen, ⟨hal, htp⟩, rfl⟩
   refine ⟨_, rfl, ?_⟩
   have hany : (es'.toList.any fun x => Lib.hasPrefix (keyBytesOf x.key) (q ++ ⟨#[47]⟩ : ByteArray).data.toList) = false := by
    rw [List.any_eq_false]
    intro y hy hpre
    obtain ⟨k, h1, h2⟩ := key y hy
    rw [h1] at hpre
    have h3 : (q ++ ⟨#[47]⟩ : ByteArray).data.toList.isPrefixOf k.data.toList = true := hpre
    have h4 := (List.isPrefixOf_iff_prefix.1 h3).length_le
    simp [ByteArray.data_append] at h4
    omega
   rw [hany]
   exact below_post hH rfl (below_alike hal htp)
noncomputable def sUsedS (tab : List (Value × Nat)) (args : List Value) (H : Heap) : Res := bnd (one args) fun x => bnd (addrOf x) fun a => bnd (cellsAt H a 4) fun cs => bnd (usedParts cs) fun p => bnd (mapRef p.1) fun r => bnd r fun r => bnd p.2.1 fun nb =>
 bnd (mapAt H r) fun es => bnd (szsOf tab es.1) fun ns => bnd (cellsAt H nb (Nat.mul p.2.2 3)) fun nc => bnd (sumLen nc p.2.2 es.1) fun s => chk (ascB es.2 es.1 0 && distN ns && Nat.ble s 1099511627776 && Nat.ble 1 p.2.2) (some (goInt (.ofNat s), H))
theorem usedS_ok {P : Program} {f : FuncId} (he : Enters P f) {tab : List (Value × Nat)} (ht : SzOk tab)
  (hw : ∀ (bm : Nat) (es : Array MapEntry) (clock : Nat) (fb fo nb no n c : Nat) (g : Nat -> ByteArray) (w : World) (_ : w.heap[bm]? = some (.map es clock)) (_ : MapKept.Stamped es clock)
   (_ : w.cell? ⟨fb, fo, none⟩ = some (.map (some bm))) (_ : w.cell? ⟨fb, fo + 3, none⟩ = some (.slice (some ⟨nb, no, none⟩) n c))
   (_ : ∀ x ∈ es.toList, ∃ k : Nat, k < n /\ x.val = .int .i64 k) (_ : ∀ k : Nat, (∃ x ∈ es.toList, x.val = .int .i64 k) -> w.cell? ⟨nb, no + k * 3 + 1, none⟩ = some (.string (g k))),
   Calls P f #[.pointer (some ⟨fb, fo, none⟩)] w fun e w' => (∀ s : Nat, s <= 1099511627776 -> (es.toList.map fun x => lenNode g x.val).sum = (s : Int) -> e = .returned (.int .i64 s)) /\
    ∃ (w1 : World) (seen : Array Nat), (w1.Alike w /\ w1.tape = w.tape) /\ w' = w1.alloc (.mapIter (some bm) clock seen clock)) : SpecOk P f (sUsedS tab) := by
 intro args H v H' hs ρ w args' hA hH
 unfold sUsedS at hs
 simp only [bnd_eq, chk_eq, Bool.and_eq_true] at hs
 obtain ⟨x, hx, a, ha, cs, hcs, p, hp, r0, hr0, r, hr, nb, hnb, es, hes, ns, hns, nc, hnc, s, hsum, ⟨⟨⟨hg, hd⟩, hlim⟩, hn1⟩, e⟩ := hs
 cases e
 have := one_inv hx; subst this
 subst hr
 have := mapRef_inv hr0
 rw [addrOf_eq] at ha; subst ha
 obtain ⟨m, nb', n⟩ := p
 dsimp only at this hnb hnc hsum hn1
 have hn1' := Nat.le_of_ble_eq_true hn1
 subst this hnb
 match args', hA with
 | [x'], .cons h1 .nil =>
  obtain ⟨a', rfl, hAR⟩ := h1.ptrInv
  obtain ⟨cs', hVL, _, _, hcell⟩ := hH.load hAR hcs
  have hparts : ∃ c1 c2 c, cs = [.map (some r), c1, c2, .slice (some nb) n c] := by
   unfold usedParts at hp
   split at hp
   ·
    cases hp; exact ⟨_, _, _, rfl⟩
   ·
    cases hp
  obtain ⟨c1, c2, c, rfl⟩ := hparts
  match cs', hVL with
  | [_, _, _, sl], .cons (.map hm) (.cons _ (.cons _ (.cons hsl .nil))) =>
   obtain ⟨_, es', hwm, hEL⟩ := mapAt_ok hH hes hm
   obtain ⟨ss, hkeys, hsz⟩ := szs_keys ht hEL hns
   rw [<- hsz] at hd
   have hst := szs_stamped hEL hkeys hg hd
   obtain ⟨hvals, hsumEq⟩ := sumLen_eq hEL hsum
   have hc0 := hcell 0 _ rfl
   have hc3 := hcell 3 _ rfl
   obtain ⟨ea, hea, _, rfl⟩ := hAR
   rw [add_mk] at hc0 hc3
   have hslp : ∃ nb' cc, AR ρ nb nb' /\ sl = .slice (some nb') n cc := by
    cases hsl with
    | slice h0 hn hc => exact ⟨_, _, ⟨_, h0, rfl, rfl⟩, rfl⟩
    | sliceU h0 hn hc => exact ⟨_, _, ⟨_, h0, rfl, rfl⟩, rfl⟩
    | empty h0 hs0 => omega
   obtain ⟨nb', cc, hAR2, rfl⟩ := hslp
   obtain ⟨nc', hVL2, _, _, hcell2⟩ := hH.load hAR2 hnc
   obtain ⟨en, hen, _, rfl⟩ := hAR2
   refine spec_calls he (Calls.mono (hw _ es' es.2 ea.B (ea.base + a.off) en.B (en.base + nb.off) n cc (gOf nc) w hwm hst hc0 hc3 (fun x hx => ?_) ?_) ?_)
   ·
    obtain ⟨k, h1, h2, _⟩ := hvals x hx
    exact ⟨k, h1, h2⟩
   ·
    intro k ⟨x, hx, hxv⟩
    obtain ⟨k', _, h2, b, hb⟩ := hvals x hx
    rw [hxv] at h2
    have : k = k' := by
     have := Value.int.inj h2
     exact_mod_cast this.2
    subst this
    have hb' : bnd (nthL (k * 3 + 1) nc) strOf = some b := hb
    rw [bnd_eq] at hb'
    obtain ⟨y, hy, hyb⟩ := hb'
    rw [nthL_eq] at hy
    have hyq : ∃ q, y = .string q /\ b = q.data.toList := by
     cases y with
     | string q => simp [strOf] at hyb; exact ⟨q, rfl, hyb.symm⟩
     | _ => simp [strOf] at hyb
    obtain ⟨q, rfl, rfl⟩ := hyq
    obtain ⟨y', hy', hV⟩ := hVL2.get hy
    rw [hV.string_inv] at hy'
    have := hcell2 _ _ hy'
    rw [add_mk] at this
    have hgk : gOf nc k = q := by
     unfold gOf; rw [hb]; rfl
    rw [hgk, Nat.add_assoc]
    exact this
   ·
    rintro e w' ⟨he', w1, seen, ⟨hal, htp⟩, rfl⟩
    have hlim' := Nat.le_of_ble_eq_true hlim
    exact ⟨_, he' s hlim' hsumEq, below_post hH rfl (below_alike hal htp)⟩
end
end Go.Ev
