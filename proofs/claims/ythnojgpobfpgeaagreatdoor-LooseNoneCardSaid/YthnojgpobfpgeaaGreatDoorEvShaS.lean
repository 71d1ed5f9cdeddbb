/- The symbols' operations, out of the tables. -/
import Derived.Test.YthnojgpobfpgeaaGreatDoorEvShaD
/-! The symbols' operations, out of the tables. -/
namespace Go.Ev
open Go.RowKit

noncomputable def ycOf (y : Value) : Option Nat :=
 match y with
 | .float k b => ifB (isF64 k) (some (Nat.mul 2 b)) none
 | .int k n => Int.rec (motive := fun _ => Option Nat) (fun m => some (Nat.succ (Nat.add (Nat.mul 16 m) (Nat.mul 2 (kn k))))) (fun _ => none) n
 | _ => none
noncomputable def entOf (T : Tr (List Ent)) (a op yc : Nat) : Option Value := bnd (T.get (path a)) fun l => bnd (findE op yc l) fun c => fN c fun c => some (.float .f64 c)
noncomputable def shaBin (T : Tr (List Ent)) (op : BinOp) (x y : Value) : Option Value :=
 match x, y with
 | .float .f64 a, y => bnd (ycOf y) fun yc => fN yc fun yc => entOf T a (opn op) yc
 | .int k n, .float .f64 b => chk (Nat.beq (kn k) 6) (ifB (eqI n 0) (chk ((Nat.beq (opn op) 0 || Nat.beq (opn op) 6) && Nat.ble 72 b && Nat.ble b 8191) (some (.float .f64 b)))
   (chk (eqI n 4294967295 && Nat.beq (opn op) 1) (entOf T b 20 0)))
 | _, _ => none
noncomputable def shaConv (C : List Nat) (d : TypeDesc) (x : Value) : Option Value :=
 match d, x with
 | .int .u32, .float .f64 a => chk (Nat.ble 8 a) (bnd (nthL (Nat.sub a 8) C) fun c => fN c fun c => some (.float .f64 c))
 | _, _ => none
noncomputable def shaUn (T : Tr (List Ent)) (op : UnOp) (x : Value) : Option Value :=
 match op, x with
 | .xor, .float .f64 a => entOf T a 20 0
 | _, _ => none
noncomputable def okC (N : Tr Nd) (C : List Nat) : Nat → Bool := List.rec (motive := fun _ => Nat → Bool) (fun _ => true) (fun c _ ih i => ifB (isNd N c (.conv i)) (fN (Nat.succ i) ih) false) C
theorem okC_get {N : Tr Nd} : ∀ {C : List Nat} {i k c : Nat}, okC N C i = true → C[k]? = some c → isNd N c (.conv (i + k)) = true
 | [], _, _, _, _, h => by simp at h
 | x :: C, i, k, c, h, hk => by
  have h' : ifB (isNd N x (.conv i)) (fN (Nat.succ i) (okC N C)) false = true := h
  rw [fN_eq] at h'
  cases hx : isNd N x (.conv i) with
  | false => rw [hx] at h'; cases h'
  | true =>
   rw [hx] at h'
   cases k with
   | zero => simp at hk; subst hk; exact hx
   | succ k =>
    have := okC_get (i := i + 1) (k := k) h' (by simpa using hk)
    have e : i + (k + 1) = i + 1 + k := by omega
    rw [e]; exact this
set_option maxRecDepth 100000 in
theorem sha_conv : okC (trOf shaL) shaC 8 = true := by kernel_rfl

section
variable {hw bs : Nat → Nat} {ex : Nat → Value} (hex : ∀ k, isIS (ex k) = true) (h8 : ∀ k, k < 8 → hw k < W32) (h64 : ∀ k, k < 64 → bs k < 256)
include h8 h64 in
theorem entOf_ok {a op yc : Nat} {v : Value} (h : entOf (trOf shaT) a op yc = some v) : ∃ c, v = .float .f64 c ∧ Wd a ∧ Wd c ∧ Means (sv shaL hw bs) a op yc c := by
 unfold entOf at h
 simp only [bnd_eq, fN_eq, get_trOf] at h
 obtain ⟨l, h1, c, h2, e⟩ := h
 cases e
 obtain ⟨e, he, rfl, rfl, rfl⟩ := findE_mem h2
 have h3 := okT_get (i := 0) sha_ents h1
 rw [Nat.zero_add] at h3
 obtain ⟨g1, g2, g3⟩ := okE_ok sha_ok h8 h64 (okEs_mem h3 e he)
 exact ⟨e.c, rfl, g1, g2, g3⟩
theorem opn_of {op : BinOp} {op' : BinOp} (h : opn op = opn op') : op = op' := opn_inj (by rw [h]; exact Nat.beq_refl _)
theorem kn_u32 {k : IntKind} (h : kn k = 6) : k = .u32 := by cases k <;> first | rfl | (cases h; done)
theorem kn_lt (k : IntKind) : kn k < 8 := by cases k <;> decide

include h8 h64 in
theorem shaBin_ok {op : BinOp} {x y v : Value} (h : shaBin (trOf shaT) op x y = some v) : letI := shaSg shaL hw bs ex hex; atom x = true ∧ atom y = true ∧ atom v = true ∧ scalarOp op (den x) (den y) = some (den v) := by
 letI := shaSg shaL hw bs ex hex
 have word : ∀ {c}, Wd c → den (.float .f64 c) = .int .u32 (sv shaL hw bs c) := fun hc => shaV_word hc
 have lt : ∀ {c}, Wd c → sv shaL hw bs c < W32 := fun hc => sv_word sha_ok h8 h64 _ hc.1
 unfold shaBin at h
 split at h
 ·
  rename_i a y
  simp only [bnd_eq, fN_eq] at h
  obtain ⟨yc, hy, h⟩ := h
  obtain ⟨c, rfl, wa, wc, hm⟩ := entOf_ok h8 h64 h
  unfold ycOf at hy
  split at hy
  ·
   rename_i k b
   cases k with
   | f32 => cases hy
   | f64 =>
    have hy : some (Nat.mul 2 b) = some yc := hy
    cases hy
    refine ⟨rfl, rfl, rfl, ?_⟩
    have e2 : Nat.mul 2 b % 2 = 0 := Nat.mul_mod_right 2 b
    have e1 : Nat.mul 2 b / 2 = b := Nat.mul_div_cancel_left b (by decide)
    rcases hm with ⟨h1, _⟩ | ⟨_, hb, hb', hm⟩ | ⟨h1, _⟩
    ·
     cases op <;> cases h1
    ·
     rw [e1] at hb hb' hm
     have wb : Wd b := ⟨hb, hb'⟩
     rw [word wa, word wb, word wc]
     rcases hm with ⟨h1, h2⟩ | ⟨h1, h2⟩ | ⟨h1, h2⟩ | ⟨h1, h2⟩
     ·
      have := opn_of (op' := .or) h1; subst this; rw [h2]; exact int_or _ _ (lt wa) (lt wb)
     ·
      have := opn_of (op' := .and) h1; subst this; rw [h2]; exact int_and _ _ (lt wa) (lt wb)
     ·
      have := opn_of (op' := .xor) h1; subst this; rw [h2]; exact int_xor _ _ (lt wa) (lt wb)
     ·
      have := opn_of (op' := .add) h1; subst this; rw [h2]; exact int_add _ _
    ·
     rw [e2] at h1; cases h1
  ·
   rename_i k n
   cases n with
   | negSucc m => cases hy
   | ofNat m =>
    have hy : some (Nat.succ (Nat.add (Nat.mul 16 m) (Nat.mul 2 (kn k)))) = some yc := hy
    cases hy
    refine ⟨rfl, rfl, rfl, ?_⟩
    have hk := kn_lt k
    have e0 : Nat.succ (Nat.add (Nat.mul 16 m) (Nat.mul 2 (kn k))) = 16 * m + 2 * kn k + 1 := rfl
    rw [e0] at hm
    have e16 : (16 * m + 2 * kn k + 1) / 16 = m := by omega
    have ek : (16 * m + 2 * kn k + 1) / 2 % 8 = kn k := by omega
    rcases hm with ⟨h1, _⟩ | ⟨h1, _⟩ | ⟨_, hm⟩
    ·
     cases op <;> cases h1
    ·
     omega
    ·
     rw [e16, ek] at hm
     rw [word wa, word wc]
     show intOp op .u32 _ k (m : Int) = _
     rcases hm with ⟨h1, h2, h3⟩ | ⟨h1, h2, h3⟩ | ⟨hk6, ⟨h1, h3⟩ | ⟨h1, h3⟩⟩
     ·
      have := opn_of (op' := .shl) h1; subst this; rw [h3]; exact int_shl _ _ k h2
     ·
      have := opn_of (op' := .shr) h1; subst this; rw [h3]; exact int_shr _ _ k h2
     ·
      have := opn_of (op' := .add) h1; subst this; have := kn_u32 hk6; subst this; rw [h3]; exact int_add _ _
     ·
      have := opn_of (op' := .mul) h1; subst this; have := kn_u32 hk6; subst this; rw [h3]; exact int_mul _ _
  ·
   cases hy
 ·
  rename_i k n b
  rw [chk_eq] at h
  obtain ⟨hk, h⟩ := h
  have := kn_u32 (Nat.eq_of_beq_eq_true hk); subst this
  cases hz : eqI n 0 with
  | true =>
   rw [hz, ifB_true, chk_eq] at h
   obtain ⟨hc, e⟩ := h
   cases e
   simp only [Bool.and_eq_true, Bool.or_eq_true, Nat.ble_eq] at hc
   have wb : Wd b := ⟨.inr hc.1.2, by omega⟩
   rw [eqI_eq, beq_iff_eq] at hz
   subst hz
   refine ⟨rfl, rfl, rfl, ?_⟩
   rw [word wb]
   show intOp op .u32 ((0 : Nat) : Int) .u32 _ = _
   rcases hc.1.1 with h1 | h1
   ·
    have := opn_of (op' := .add) (Nat.eq_of_beq_eq_true h1); subst this
    rw [int_add, Nat.zero_add, Nat.mod_eq_of_lt (lt wb)]
   ·
    have := opn_of (op' := .or) (Nat.eq_of_beq_eq_true h1); subst this
    rw [int_or _ _ (by decide) (lt wb), Nat.zero_or]
  | false =>
   rw [hz, ifB_false, chk_eq, Bool.and_eq_true] at h
   obtain ⟨⟨hn, h1⟩, h⟩ := h
   rw [eqI_eq, beq_iff_eq] at hn
   subst hn
   obtain ⟨c, rfl, wb, wc, hm⟩ := entOf_ok h8 h64 h
   refine ⟨rfl, rfl, rfl, ?_⟩
   rw [word wb, word wc]
   have := opn_of (op' := .sub) (Nat.eq_of_beq_eq_true h1); subst this
   rcases hm with ⟨_, h3⟩ | ⟨_, _, _, hm⟩ | ⟨h2, _⟩
   ·
    rw [h3]; exact int_not _ (lt wb)
   ·
    omega
   ·
    cases h2
 ·
  cases h

include h64 in
theorem shaConv_ok {d : TypeDesc} {x v : Value} (h : shaConv shaC d x = some v) : letI := shaSg shaL hw bs ex hex; descn d < 9 ∧ atom x = true ∧ atom v = true ∧ scalarConv d (den x) = some (den v) := by
 letI := shaSg shaL hw bs ex hex
 unfold shaConv at h
 split at h
 ·
  rename_i a
  simp only [chk_eq, bnd_eq, fN_eq, nthL_eq] at h
  obtain ⟨ha, c, hc, e⟩ := h
  cases e
  have ha := Nat.le_of_ble_eq_true ha
  have h1 := okC_get sha_conv hc
  have e8 : 8 + Nat.sub a 8 = a := by show 8 + (a - 8) = a; omega
  rw [e8] at h1
  obtain ⟨wc, h2, h3⟩ := isNd_at (hw := hw) (bs := bs) sha_ok h1
  simp only [Nd.ok, Bool.and_eq_true, Nat.ble_eq] at h3
  refine ⟨by decide, rfl, rfl, ?_⟩
  have e1 : den (.float .f64 a) = .int .u8 (sv shaL hw bs a) := shaV_byte ha (by omega)
  have e2 : den (.float .f64 c) = .int .u32 (sv shaL hw bs c) := shaV_word wc
  simp only [Nd.ev] at h2
  rw [e1, e2, h2]
  have hlt : sv shaL hw bs a < W32 := Nat.lt_trans (sv_byte h64 ha (by omega)) (by decide)
  generalize sv shaL hw bs a = n at hlt
  show some (Value.int .u32 (IntKind.u32.wrap (n : Int))) = _
  rw [wrap32, Nat.mod_eq_of_lt hlt]
 ·
  cases h
include h8 h64 in
theorem shaUn_ok {op : UnOp} {x v : Value} (h : shaUn (trOf shaT) op x = some v) : ∃ a c, op = .xor ∧ x = .float .f64 a ∧ v = .float .f64 c ∧ Wd a ∧ Wd c ∧ sv shaL hw bs c = W32 - 1 - sv shaL hw bs a := by
 unfold shaUn at h
 split at h
 ·
  rename_i a
  obtain ⟨c, rfl, wa, wc, hm⟩ := entOf_ok h8 h64 h
  refine ⟨a, c, rfl, rfl, rfl, wa, wc, ?_⟩
  rcases hm with ⟨_, h3⟩ | ⟨_, _, _, hm⟩ | ⟨h2, _⟩
  ·
   exact h3
  ·
   omega
  ·
   cases h2
 ·
  cases h
theorem unary_not {P : Program} {w : World} (n : Nat) (hn : n < W32) : (Op.unary .xor (.int .u32 (n : Int))).run P w = .ok (.int .u32 ((W32 - 1 - n : Nat) : Int)) w := by
 show (Op.intBits .xor .u32 (if IntKind.u32.signed then -1 else IntKind.u32.max) n).run P w = _
 simp only [Op.intBits, Sem.run_pure]
 congr 2
 have hb : (BitVec.ofInt IntKind.u32.bits (if IntKind.u32.signed = true then -1 else IntKind.u32.max)) = BitVec.allOnes IntKind.u32.bits := by decide
 rw [hb]
 have e1 : (BitVec.allOnes IntKind.u32.bits ^^^ BitVec.ofInt IntKind.u32.bits (n : Int)).toNat = 2 ^ IntKind.u32.bits - 1 - n := by
  rw [BitVec.xor_comm, BitVec.xor_allOnes, BitVec.toNat_not, BitVec.toNat_ofInt]
  congr 1
  show ((n : Int) % ((2 ^ 32 : Nat) : Int)).toNat = n
  unfold W32 at hn
  omega
 rw [e1]
 show IntKind.u32.wrap (((2 ^ 32 - 1 - n : Nat)) : Int) = _
 rw [wrap32, Nat.mod_eq_of_lt (by unfold W32; omega)]

/-- The tables, and others beside them. -/
noncomputable def shaSyms (X : Tabs) : Syms where
 bin := fun op x y => orO (shaBin (trOf shaT) op x y) (X.syms.bin op x y)
 conv := fun d x => orO (shaConv shaC d x) (X.syms.conv d x)
 bytes := X.syms.bytes
 slice := X.syms.slice
 len := X.syms.len
 index := X.syms.index
 un := shaUn (trOf shaT)
include h8 h64 in
theorem shaSyms_ok {P : Program} {X : Tabs} (hX : letI := shaSg shaL hw bs ex hex; TabsOk X) : letI := shaSg shaL hw bs ex hex; SymsOk P (shaSyms X) := by
 letI := shaSg shaL hw bs ex hex
 have hT := tabs_ok (P := P) hX
 refine ⟨?_, ?_, hT.bytes, hT.slice, hT.len, hT.index, ?_, fun _ _ _ h => (by cases h)⟩
 ·
  intro op t x y v hv ρ x' y' w a b hx hy
  rcases orO_eq (show orO (shaBin (trOf shaT) op x y) (X.syms.bin op x y) = some v from hv) with hv | ⟨_, hv⟩
  ·
   obtain ⟨ax, ay, av, hs⟩ := shaBin_ok hex h8 h64 hv
   rw [den_inv ax hx, den_inv ay hy]
   refine ⟨_, den_V av, ?_⟩
   generalize den x = X at hs ⊢
   generalize den y = Y at hs ⊢
   generalize den v = Z at hs ⊢
   cases X <;> first | (cases hs; done) | skip
   ·
    cases Y <;> first | (cases hs; done) | skip
    rw [eqGuard_at_int]
    simpa using intOp_ok hs
   ·
    cases Y <;> first | (cases hs; done) | skip
    rw [eqGuard_at_string]
    simpa using strOp_ok hs
  ·
   exact hT.bin op t x y v hv ρ x' y' w a b hx hy
 ·
  intro d x v hv ρ x' w s t sd hx hs ht
  rcases orO_eq (show orO (shaConv shaC d x) (X.syms.conv d x) = some v from hv) with hv | ⟨_, hv⟩
  ·
   obtain ⟨_, ax, av, hc⟩ := shaConv_ok hex h64 hv
   rw [den_inv ax hx]
   refine ⟨_, den_V av, ?_⟩
   generalize den x = X at hc ⊢
   generalize den v = Z at hc ⊢
   have hus := fun w => run_underlying hs w
   have hut := fun w => run_underlying ht w
   unfold scalarConv at hc
   split at hc
   ·
    cases hc
    simp only [Go.convert, Sem.run_bind, hus, hut, Result.andThen_ok]
    rfl
   ·
    cases hc
    simp only [Go.convert, Sem.run_bind, hus, hut, Result.andThen_ok]
    rfl
   ·
    cases hc
  ·
   exact hT.conv d x v hv ρ x' w s t sd hx hs ht
 ·
  intro op x v hv ρ x' w hx
  obtain ⟨a, c, rfl, rfl, rfl, wa, wc, h3⟩ := shaUn_ok h8 h64 (show shaUn (trOf shaT) op x = some v from hv)
  rw [den_inv rfl hx]
  refine ⟨_, den_V (v := .float .f64 c) rfl, ?_⟩
  have e1 : den (.float .f64 a) = .int .u32 (sv shaL hw bs a) := shaV_word wa
  have e2 : den (.float .f64 c) = .int .u32 (sv shaL hw bs c) := shaV_word wc
  rw [e1, e2, h3]
  exact unary_not _ (sv_word sha_ok h8 h64 a wa.1)
end
end Go.Ev
