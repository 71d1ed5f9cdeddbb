/- Operators. -/
import Derived.Test.YtgfkoolajkccnaaGreatDoorEvOps2
/-! Operators. -/
namespace Go.Ev
open Go.RowKit

theorem ofUns_nat (k : IntKind) {m : Nat} (h : m < 2 ^ k.bits) : ofUns k m = k.wrap (m : Int) := by
  rw [← ofUns_eq]
  congr 1
  have e : ((2 : Int) ^ k.bits) = ((2 ^ k.bits : Nat) : Int) := by cases k <;> rfl
  rw [e, Int.emod_eq_of_lt (by omega) (by omega), Int.toNat_natCast]

theorem uns_bv (k : IntKind) (x : Int) : (BitVec.ofInt k.bits x).toNat = uns k x := by
  rw [BitVec.toNat_ofInt, uns_eq]
  congr 2

theorem shrI_eq (x : Int) (p : Nat) (hp : 0 < p) : shrI x p = x.fdiv (p : Int) := by
  obtain ⟨q, rfl⟩ : ∃ q, p = q + 1 := ⟨p - 1, by omega⟩
  cases x with
  | ofNat m =>
    show Int.ofNat (m / (q + 1)) = (Int.ofNat m).fdiv (Int.ofNat (q + 1))
    cases m with
    | zero => simp [Int.fdiv]
    | succ m => rfl
  | negSucc m => rfl

theorem minB (n b : Nat) : ifB (Nat.ble n b) n b = min n b := by
  rw [ifB_eq]
  simp only [Nat.ble_eq]
  split <;> omega

theorem intOp_ok {P : Program} {w : World} {op : BinOp} {t : TypeId} {k k' : IntKind} {x y : Int} {v : Value} (h : intOp op k x k' y = some v) :
    (Go.binOp op t (.int k x) (.int k' y)).run P w = .ok v w := by
  have hs : ∀ (f : IntKind → Int → Int → Option Value), intFn op = .same f → k = k' ∧ f k x y = some v := by
    intro f hf
    unfold intOp at h
    rw [hf] at h
    have h' : chk (Nat.beq (kn k) (kn k')) (f k x y) = some v := h
    rw [chk_eq] at h'
    exact ⟨kn_eq h'.1, h'.2⟩
  have hsh : ∀ (f : IntKind → Int → Int → Option Value), intFn op = .shift f → f k x y = some v := by
    intro f hf
    unfold intOp at h
    rw [hf] at h
    exact h
  have bit : ∀ (q : Nat), q < 2 ^ k.bits → (pure (Value.int k (k.wrap (q : Int))) : Sem Value).run P w = .ok (.int k (ofUns k q)) w := by
    intro q hq; rw [ofUns_nat k hq]; rfl
  cases op with
  | add => obtain ⟨rfl, h2⟩ := hs iAdd rfl; simp only [iAdd, wInt_eq, Option.some.injEq] at h2; subst h2; simp [Go.binOp, Op.intArith]
  | sub => obtain ⟨rfl, h2⟩ := hs iSub rfl; simp only [iSub, wInt_eq, Option.some.injEq] at h2; subst h2; simp [Go.binOp, Op.intArith]; rfl
  | mul => obtain ⟨rfl, h2⟩ := hs iMul rfl; simp only [iMul, wInt_eq, Option.some.injEq] at h2; subst h2; simp [Go.binOp, Op.intArith]
  | quo =>
    obtain ⟨rfl, h2⟩ := hs iQuo rfl
    simp only [iQuo, wInt_eq, ifB_eq, eqI_eq, beq_iff_eq] at h2
    split at h2
    · cases h2
    · rename_i hy; cases h2; simp [Go.binOp, Op.intDiv, hy]
  | rem =>
    obtain ⟨rfl, h2⟩ := hs iRem rfl
    simp only [iRem, mkInt_eq, ifB_eq, eqI_eq, beq_iff_eq] at h2
    split at h2
    · cases h2
    · rename_i hy; cases h2; simp [Go.binOp, Op.intDiv, hy]
  | and =>
    obtain ⟨rfl, h2⟩ := hs iAnd rfl; simp only [iAnd, mkInt_eq, Option.some.injEq] at h2; subst h2
    have := bit ((BitVec.ofInt k.bits x &&& BitVec.ofInt k.bits y).toNat) (BitVec.isLt _)
    rw [BitVec.toNat_and, uns_bv, uns_bv] at this
    simp only [Go.binOp, Op.intBits, ne_eq, not_true_eq_false, if_false, BitVec.toNat_and, uns_bv]
    exact this
  | or =>
    obtain ⟨rfl, h2⟩ := hs iOr rfl; simp only [iOr, mkInt_eq, Option.some.injEq] at h2; subst h2
    have := bit ((BitVec.ofInt k.bits x ||| BitVec.ofInt k.bits y).toNat) (BitVec.isLt _)
    rw [BitVec.toNat_or, uns_bv, uns_bv] at this
    simp only [Go.binOp, Op.intBits, ne_eq, not_true_eq_false, if_false, BitVec.toNat_or, uns_bv]
    exact this
  | xor =>
    obtain ⟨rfl, h2⟩ := hs iXor rfl; simp only [iXor, mkInt_eq, Option.some.injEq] at h2; subst h2
    have := bit ((BitVec.ofInt k.bits x ^^^ BitVec.ofInt k.bits y).toNat) (BitVec.isLt _)
    rw [BitVec.toNat_xor, uns_bv, uns_bv] at this
    simp only [Go.binOp, Op.intBits, ne_eq, not_true_eq_false, if_false, BitVec.toNat_xor, uns_bv]
    exact this
  | andNot => obtain ⟨rfl, h2⟩ := hs iNo rfl; cases k <;> cases h2
  | eql => obtain ⟨rfl, h2⟩ := hs iEql rfl; simp only [iEql, mkBool_eq, eqI_eq, Option.some.injEq] at h2; subst h2; simp [Go.binOp, Op.intCmp]
  | neq => obtain ⟨rfl, h2⟩ := hs iNeq rfl; simp only [iNeq, mkBool_eq, eqI_eq, Option.some.injEq] at h2; subst h2; simp [Go.binOp, Op.intCmp]; rfl
  | lss => obtain ⟨rfl, h2⟩ := hs iLss rfl; simp only [iLss, mkBool_eq, ltI_eq, Option.some.injEq] at h2; subst h2; simp [Go.binOp, Op.intCmp]
  | leq => obtain ⟨rfl, h2⟩ := hs iLeq rfl; simp only [iLeq, mkBool_eq, ltI_eq, Option.some.injEq] at h2; subst h2; simp only [Go.binOp, Op.intCmp, ne_eq, not_true_eq_false, if_false, Sem.run_pure]; by_cases hh : y < x <;> simp [hh] <;> omega
  | gtr => obtain ⟨rfl, h2⟩ := hs iGtr rfl; simp only [iGtr, mkBool_eq, ltI_eq, Option.some.injEq] at h2; subst h2; simp [Go.binOp, Op.intCmp]
  | geq => obtain ⟨rfl, h2⟩ := hs iGeq rfl; simp only [iGeq, mkBool_eq, ltI_eq, Option.some.injEq] at h2; subst h2; simp only [Go.binOp, Op.intCmp, ne_eq, not_true_eq_false, if_false, Sem.run_pure]; by_cases hh : x < y <;> simp [hh] <;> omega
  | shl =>
    have h := hsh iShl rfl
    cases y with
    | negSucc n => cases h
    | ofNat n =>
      have h' : wInt k (Int.mul x (.ofNat (Nat.pow 2 (ifB (Nat.ble n (kbits k)) n (kbits k))))) = some v := h
      rw [wInt_eq, minB] at h'
      cases h'
      have hn : ¬ Int.ofNat n < 0 := by simp
      have e : kbits k = k.bits := by cases k <;> rfl
      simp only [Go.binOp, Op.shift, hn, if_false, e]
      simp only [Sem.run_pure]
      congr 3
  | shr =>
    have h := hsh iShr rfl
    cases y with
    | negSucc n => cases h
    | ofNat n =>
      have h' : mkInt k (shrI x (Nat.pow 2 (ifB (Nat.ble n (kbits k)) n (kbits k)))) = some v := h
      rw [mkInt_eq, minB] at h'
      cases h'
      have hn : ¬ Int.ofNat n < 0 := by simp
      have e : kbits k = k.bits := by cases k <;> rfl
      simp only [Go.binOp, Op.shift, hn, if_false, e]
      simp only [Sem.run_pure]
      show _ = Result.ok (Value.int k (shrI x (2 ^ min n k.bits))) w
      rw [shrI_eq _ (2 ^ min n k.bits) (Nat.pow_pos (by decide))]
      congr 3

theorem strOp_ok {P : Program} {w : World} {op : BinOp} {t : TypeId} {x y : ByteArray} {v : Value} (h : strFn op x.data.toList y.data.toList = some v) :
    (Go.binOp op t (.string x) (.string y)).run P w = .ok v w := by
  have hb : Go.binOp op t (.string x) (.string y) = Op.stringOp op x y := by cases op <;> rfl
  rw [hb]
  cases op with
  | add =>
    have h' : sAdd x.data.toList y.data.toList = some v := h
    unfold sAdd at h'
    rw [chk_eq] at h'
    obtain ⟨hn, e⟩ := h'
    cases e
    simp only [lenL_eq, Nat.add_eq, Nat.ble_eq, Array.length_toList] at hn
    have h1 : x.size = x.data.size := rfl
    have h2 : y.size = y.data.size := rfl
    have : ¬ ((x.size + y.size : Nat) : Int) > IntKind.i64.max := by rw [IntKind.max_i64]; omega
    simp only [Op.stringOp, this, if_false, Sem.run_pure, appL_eq, append_mk, str]
  | eql => have h' : mkBool (same x.data.toList y.data.toList) = some v := h; rw [mkBool_eq, same_eq] at h'; cases h'; simp [Op.stringOp, toList_data]
  | neq => have h' : mkBool (!(same x.data.toList y.data.toList)) = some v := h; rw [mkBool_eq, same_eq] at h'; cases h'; simp [Op.stringOp, toList_data]
  | lss => have h' : mkBool (less x.data.toList y.data.toList) = some v := h; rw [mkBool_eq, less_eq] at h'; cases h'; simp [Op.stringOp, toList_data]
  | leq =>
    have h' : mkBool (!(less y.data.toList x.data.toList)) = some v := h
    rw [mkBool_eq, less_eq, less_total] at h'; cases h'; simp [Op.stringOp, toList_data]
  | gtr =>
    have h' : mkBool (less y.data.toList x.data.toList) = some v := h
    rw [mkBool_eq, less_eq, less_total] at h'; cases h'; simp [Op.stringOp, toList_data]
  | geq => have h' : mkBool (!(less x.data.toList y.data.toList)) = some v := h; rw [mkBool_eq, less_eq] at h'; cases h'; simp [Op.stringOp, toList_data]
  | _ => cases h

section
variable {P : Program} {w : World} {t : TypeId} (D : Nat)
theorem eqIn_ptrL {e : TypeId} (h : P.underlying t = some (.pointer e)) (b : Option Addr) : (Op.equalIn (D + 1) t (.pointer none) (.pointer b)).run P w = .ok b.isNone w := by
  simp only [Op.equalIn, Sem.run_bind, run_underlying h, Result.andThen_ok, Sem.run_pure]
theorem eqIn_ptrR {e : TypeId} (h : P.underlying t = some (.pointer e)) (a : Addr) : (Op.equalIn (D + 1) t (.pointer (some a)) (.pointer none)).run P w = .ok false w := by
  simp only [Op.equalIn, Sem.run_bind, run_underlying h, Result.andThen_ok, Sem.run_pure]
theorem eqIn_sliceL {e : TypeId} (h : P.underlying t = some (.slice e)) (b : Option Addr) (n c n' c' : Nat) : (Op.equalIn (D + 1) t (.slice none n c) (.slice b n' c')).run P w = .ok b.isNone w := by
  simp only [Op.equalIn, Sem.run_bind, run_underlying h, Result.andThen_ok, Sem.run_pure]
theorem eqIn_sliceR {e : TypeId} (h : P.underlying t = some (.slice e)) (a : Addr) (n c n' c' : Nat) : (Op.equalIn (D + 1) t (.slice (some a) n c) (.slice none n' c')).run P w = .ok false w := by
  simp only [Op.equalIn, Sem.run_bind, run_underlying h, Result.andThen_ok, Sem.run_pure]
theorem eqIn_mapL {k e : TypeId} (h : P.underlying t = some (.map k e)) (b : Option Nat) : (Op.equalIn (D + 1) t (.map none) (.map b)).run P w = .ok b.isNone w := by
  simp only [Op.equalIn, Sem.run_bind, run_underlying h, Result.andThen_ok, Sem.run_pure]
theorem eqIn_mapR {k e : TypeId} (h : P.underlying t = some (.map k e)) (r : Nat) : (Op.equalIn (D + 1) t (.map (some r)) (.map none)).run P w = .ok false w := by
  simp only [Op.equalIn, Sem.run_bind, run_underlying h, Result.andThen_ok, Sem.run_pure]
theorem eqIn_ifL {ms : Array (String × TypeId)} (h : P.underlying t = some (.interface ms)) (d : TypeId) (v : Value) : (Op.equalIn (D + 1) t .nilIface (.iface d v)).run P w = .ok false w := by
  simp only [Op.equalIn, Sem.run_bind, run_underlying h, Result.andThen_ok, Sem.run_pure]
theorem eqIn_ifR {ms : Array (String × TypeId)} (h : P.underlying t = some (.interface ms)) (d : TypeId) (v : Value) : (Op.equalIn (D + 1) t (.iface d v) .nilIface).run P w = .ok false w := by
  simp only [Op.equalIn, Sem.run_bind, run_underlying h, Result.andThen_ok, Sem.run_pure]
theorem eqIn_fnB {ps rs : Array TypeId} {vr : Bool} (h : P.underlying t = some (.func ps rs vr)) : (Op.equalIn (D + 1) t .nilFunc .nilFunc).run P w = .ok true w := by
  simp only [Op.equalIn, Sem.run_bind, run_underlying h, Result.andThen_ok, Sem.run_pure]
theorem eqIn_fnL {ps rs : Array TypeId} {vr : Bool} (h : P.underlying t = some (.func ps rs vr)) (f : Fn) (a b : Array Value) : (Op.equalIn (D + 1) t .nilFunc (.func f a b)).run P w = .ok false w := by
  simp only [Op.equalIn, Sem.run_bind, run_underlying h, Result.andThen_ok, Sem.run_pure]
theorem eqIn_fnR {ps rs : Array TypeId} {vr : Bool} (h : P.underlying t = some (.func ps rs vr)) (f : Fn) (a b : Array Value) : (Op.equalIn (D + 1) t (.func f a b) .nilFunc).run P w = .ok false w := by
  simp only [Op.equalIn, Sem.run_bind, run_underlying h, Result.andThen_ok, Sem.run_pure]
end

section
variable {P : Program} {ρ : Map} {w : World} {env : Env} (hE : EnvOk P env)
include hE

theorem part_ok' {xs xs' : List Value} {t : TypeId} {off : Nat} {v : Value} (hx : VL ρ xs xs') (h1 : ∀ x ∈ xs', x.oneCell' = true) (h : partOf env xs t off = some v) :
    ∃ v', (part t ⟨xs'⟩ off).run P w = .ok v' w ∧ V ρ v v' := by
  unfold partOf at h
  simp only [bnd_eq] at h
  obtain ⟨s, hs, l, hl, h⟩ := h
  rw [takeN_eq, dropL_eq] at hl
  obtain ⟨hn, rfl⟩ := hl
  obtain ⟨d, hd, hagg, hsz⟩ := shape_inv hs
  have hVL := (hx.drop off).take s.2
  rcases toVal_ok hVL (fun x hm => h1 x (List.mem_of_mem_drop (List.mem_of_mem_take hm))) h with ⟨ha, hV⟩ | ⟨ha, y, hy, hV⟩
  · refine ⟨_, ?_, hV⟩
    simp only [part, Sem.run_bind, run_isAgg hE hd, Result.andThen_ok, hagg, ha, if_true, run_size hE hsz, Sem.run_pure]
    congr 2
    apply Array.ext'
    simp [List.extract_eq_take_drop]
  · refine ⟨y, ?_, hV⟩
    have : xs'[off]? = some y := by
      have e : ((xs'.drop off).take s.2)[0]? = some y := by rw [hy]; rfl
      rw [List.getElem?_take] at e
      split at e
      · simpa using e
      · cases e
    simp [part, run_isAgg hE hd, hagg, ha, this]

theorem part_ok {xs xs' : List Value} {f : Field} {v : Value} (hx : VL ρ xs xs') (h1 : ∀ x ∈ xs', x.oneCell' = true) (h : fieldOf env xs f = some v) :
    ∃ v', (part f.type ⟨xs'⟩ f.offset).run P w = .ok v' w ∧ V ρ v v' := part_ok' hE hx h1 h

omit hE in
theorem isNone_V {p q : Option Addr} (h : V ρ (.pointer p) (.pointer q)) : p.isNone = q.isNone := by cases h <;> rfl
omit hE in
theorem isNone_S {p q : Option Addr} {n c n' c' : Nat} (h : V ρ (.slice p n c) (.slice q n' c')) : p.isNone = q.isNone := by cases h <;> rfl
omit hE in
theorem isNone_M {p q : Option Nat} (h : V ρ (.map p) (.map q)) : p.isNone = q.isNone := by cases h <;> rfl

theorem equalIn_ok : ∀ (n : Nat) (t : TypeId) (x y x' y' : Value) (b : Bool), equalIn env n t x y = some b → V ρ x x' → V ρ y y' → ∀ D, n ≤ D → (Op.equalIn D t x' y').run P w = .ok b w
  | 0, _, _, _, _, _, _, h, _, _, _, _ => by cases h
  | n + 1, t, x, y, x', y', b, h, hx, hy, D, hD => by
    obtain ⟨D, rfl⟩ : ∃ m, D = m + 1 := ⟨D - 1, by omega⟩
    have ih := equalIn_ok n
    have h' : bnd (env.und t) (fun d => eqOf env (equalIn env n) t d x y) = some b := h
    rw [bnd_eq] at h'
    obtain ⟨d, hd, h'⟩ := h'
    have hu := fun w => run_und hE hd w
    have hun := hE.und t _ hd
    unfold eqOf at h'
    split at h'
    · cases hx; cases hy; cases h'
      rename_i p q
      simp only [Op.equalIn, Sem.run_bind, hu, Result.andThen_ok, Sem.run_pure, ifB_eq]
      cases p <;> cases q <;> rfl
    · cases hx; cases hy
      rw [chk_eq, eqI_eq] at h'
      obtain ⟨hk, e⟩ := h'
      have := kn_eq hk; subst this
      cases e
      simp only [Op.equalIn, Sem.run_bind, hu, Result.andThen_ok, Sem.run_pure, if_true]
    · cases hx; cases hy; cases h'
      simp only [Op.equalIn, Sem.run_bind, hu, Result.andThen_ok, Sem.run_pure, same_eq]
      rw [beq_toListBytes, toList_data, toList_data]
    · cases hx
      cases h'
      cases hy <;> exact eqIn_ptrL D hun _
    · cases hy
      cases h'
      cases hx with
      | nilPtr => rename_i hne; exact (hne rfl).elim
      | ptr hp => exact eqIn_ptrR D hun _
    · rename_i e a c
      simp only [bnd_eq, chk_eq] at h'
      obtain ⟨i, hi, hsa, e'⟩ := h'
      cases e'
      unfold sameAd at hsa
      simp only [Bool.and_eq_true, noSpot_eq] at hsa
      obtain ⟨⟨⟨h1, h2⟩, h3⟩, h4⟩ := hsa
      have hac : a = c := by
        obtain ⟨ab, ao, as⟩ := a
        obtain ⟨cb, co, cs⟩ := c
        dsimp only at h1 h2 h3 h4
        rw [Nat.eq_of_beq_eq_true h1, Nat.eq_of_beq_eq_true h2, h3, h4]
      subst hac
      obtain ⟨a1, rfl, hA1⟩ := hx.ptrInv
      obtain ⟨a2, rfl, hA2⟩ := hy.ptrInv
      obtain ⟨e1, g1, _, rfl⟩ := hA1
      obtain ⟨e2, g2, _, rfl⟩ := hA2
      rw [g1] at g2; cases g2
      simp [Op.equalIn, run_underlying hun, sizeOf, typeInfo, hE.info _ _ hi, run_sameAddr_same]
    · cases hx
      cases h'
      cases hy <;> exact eqIn_sliceL D hun _ _ _ _ _
    · cases hy
      cases h'
      cases hx <;> first | (rename_i hne; exact (hne rfl).elim) | exact eqIn_sliceR D hun _ _ _ _ _
    · cases hx
      cases h'
      cases hy <;> exact eqIn_mapL D hun _
    · cases hy
      cases h'
      cases hx <;> first | (rename_i hne; exact (hne rfl).elim) | exact eqIn_mapR D hun _
    · cases hx; cases hy; cases h'; exact eqIn_ifL D hun _ _
    · cases hx; cases hy; cases h'; exact eqIn_ifR D hun _ _
    · cases hx; cases hy; cases h'; exact eqIn_fnB D hun
    · cases hx; cases hy; cases h'; exact eqIn_fnL D hun _ _ _
    · cases hx; cases hy; cases h'; exact eqIn_fnR D hun _ _ _
    · rename_i fields xs ys
      rw [chk_eq] at h'
      obtain ⟨hok, h'⟩ := h'
      cases hx with
      | agg hxs h1 =>
        cases hy with
        | agg hys h2 =>
          have hf : P.fieldsOf t = fields := by simp [Program.fieldsOf, hun]
          rw [run_equalIn_struct w D t _ _ (by rw [hf]; exact hun) (hE.eqok t hok).2, hf]
          generalize fields.toList = fs at h'
          clear hf hun hd hu h hok
          induction fs generalizing b with
          | nil => cases h'; rfl
          | cons f fs ihf =>
            have h'' : chk (f.name != "_") (bnd (fieldOf env _ f) fun x => bnd (fieldOf env _ f) fun y => bnd (equalIn env n f.type x y) fun b => ifB b (fieldsEq env (equalIn env n) _ _ fs) (some false)) = some b := h'
            simp only [chk_eq, bnd_eq] at h''
            obtain ⟨hne, p, hp, q, hq, c, hc, h''⟩ := h''
            obtain ⟨p', hp', hVp⟩ := part_ok hE (w := w) hxs h1 hp
            obtain ⟨q', hq', hVq⟩ := part_ok hE (w := w) hys h2 hq
            have hrun := ih f.type p q p' q' c hc hVp hVq D (by omega)
            have hne' : f.name ≠ "_" := by simpa using hne
            simp only [Op.eqFields, hne', ne_eq, not_false_eq_true, if_true, Sem.run_bind, hp', hq', hrun, Result.andThen_ok]
            cases c
            · simp only [ifB_false] at h''; cases h''; simp
            · simp only [ifB_true] at h''
              simp only [Bool.not_true, Bool.false_eq_true, if_false]
              exact ihf b h''
    · cases h'

end
end Go.Ev
