/- The relation between the abstract memory and the model's. -/
import Derived.Test.YthnojgpobfpgeaaDoorEv
import Derived.Below
import Derived.Laws.IdiomCopy
/-! The relation between the abstract memory and the model's. -/
namespace Go.Ev
open Go.RowKit

/-! ### Small laws of the evaluator's own lists -/
section lists
variable {α β : Type}

theorem dropL_eq : ∀ (n : Nat) (l : List α), dropL n l = l.drop n
  | 0, _ => rfl
  | _ + 1, [] => rfl
  | n + 1, _ :: t => dropL_eq n t
theorem takeL_eq : ∀ (n : Nat) (l : List α), takeL n l = l.take n
  | 0, _ => rfl
  | _ + 1, [] => rfl
  | n + 1, a :: t => congrArg (a :: ·) (takeL_eq n t)
theorem appL_eq : ∀ (l m : List α), appL l m = l ++ m
  | [], _ => rfl
  | a :: t, m => congrArg (a :: ·) (appL_eq t m)
theorem lenL_eq : ∀ (l : List α), lenL l = l.length
  | [] => rfl
  | _ :: t => congrArg Nat.succ (lenL_eq t)
theorem nthL_eq : ∀ (n : Nat) (l : List α), nthL n l = l[n]?
  | 0, [] => rfl
  | 0, _ :: _ => rfl
  | _ + 1, [] => rfl
  | n + 1, _ :: t => nthL_eq n t
theorem mapL_eq (f : α → β) : ∀ (l : List α), mapL f l = l.map f
  | [] => rfl
  | a :: t => congrArg (f a :: ·) (mapL_eq f t)
theorem repL_length (x : List α) : ∀ (n : Nat), (repL x n).length = n * x.length
  | 0 => by show ([] : List α).length = _; simp
  | n + 1 => by
    show (appL x (repL x n)).length = _
    rw [appL_eq, List.length_append, repL_length x n, Nat.succ_mul, Nat.add_comm]
@[simp] theorem bnd_some (a : α) (f : α → Option β) : bnd (some a) f = f a := rfl
@[simp] theorem bnd_none (f : α → Option β) : bnd none f = none := rfl
theorem bnd_eq {x : Option α} {f : α → Option β} {b : β} : bnd x f = some b ↔ ∃ a, x = some a ∧ f a = some b := by
  cases x <;> simp
@[simp] theorem chk_true (x : Option β) : chk true x = x := rfl
@[simp] theorem chk_false (x : Option β) : chk false x = none := rfl
theorem chk_eq {c : Bool} {x : Option β} {b : β} : chk c x = some b ↔ c = true ∧ x = some b := by cases c <;> simp
@[simp] theorem ifB_true (x y : β) : ifB true x y = x := rfl
@[simp] theorem ifB_false (x y : β) : ifB false x y = y := rfl
theorem ifB_eq (c : Bool) (x y : β) : ifB c x y = if c = true then x else y := by cases c <;> simp
@[simp] theorem fN_eq (n : Nat) (k : Nat → β) : fN n k = k n := by cases n <;> rfl
@[simp] theorem fI_eq (n : Int) (k : Int → β) : fI n k = k n := by cases n <;> simp [fI]
theorem takeN_eq : ∀ (n : Nat) (l r : List α), takeN n l = some r ↔ n ≤ l.length ∧ r = l.take n
  | 0, l, r => by
    show some [] = some r ↔ _
    simp [eq_comm]
  | n + 1, [], r => by
    show none = some r ↔ _
    simp
  | n + 1, a :: t, r => by
    show bnd (takeN n t) (fun r => some (a :: r)) = some r ↔ _
    rw [bnd_eq]
    constructor
    · rintro ⟨q, hq, hr⟩
      obtain ⟨h1, rfl⟩ := (takeN_eq n t q).1 hq
      simp at hr
      subst hr
      simp; omega
    · rintro ⟨h, rfl⟩
      exact ⟨t.take n, (takeN_eq n t _).2 ⟨by simpa using h, rfl⟩, by simp⟩
theorem writeAt_eq {vs : List α} {i : Nat} {cs r : List α} : (chk (Nat.ble (Nat.add i (lenL vs)) (lenL cs)) (some (appL (takeL i cs) (appL vs (dropL (Nat.add i (lenL vs)) cs)))) = some r) ↔
    i + vs.length ≤ cs.length ∧ r = cs.take i ++ (vs ++ cs.drop (i + vs.length)) := by
  rw [chk_eq]
  simp only [lenL_eq, appL_eq, takeL_eq, dropL_eq, Nat.add_eq, Nat.ble_eq, Option.some.injEq]
  constructor <;> rintro ⟨h, k⟩ <;> exact ⟨h, k.symm⟩
end lists

/-! ### Paths -/
theorem bits_zero (f : Nat) : bits f 0 = [] := by cases f <;> rfl
theorem bits_succ (f n : Nat) (h : n ≠ 0) : bits (f + 1) n = (Nat.beq (n % 2) 1) :: bits f (n / 2) := by
  show Bool.rec (motive := fun _ => List Bool) (Nat.beq (Nat.mod n 2) 1 :: bits f (Nat.div n 2)) [] (Nat.beq n 0) = _
  have : Nat.beq n 0 = false := by cases n with | zero => exact (h rfl).elim | succ n => rfl
  rw [this]; rfl
theorem bits_inj : ∀ (f n m : Nat), n < 2 ^ f → m < 2 ^ f → bits f n = bits f m → n = m
  | 0, n, m, hn, hm, _ => by simp at hn hm; omega
  | f + 1, n, m, hn, hm, h => by
    by_cases h0 : n = 0
    · by_cases h1 : m = 0
      · omega
      · subst h0; rw [bits_zero, bits_succ f m h1] at h; cases h
    · by_cases h1 : m = 0
      · subst h1; rw [bits_zero, bits_succ f n h0] at h; cases h
      · rw [bits_succ f n h0, bits_succ f m h1] at h
        obtain ⟨ha, hb⟩ := List.cons.inj h
        have := bits_inj f (n / 2) (m / 2) (by rw [Nat.pow_succ] at hn; omega) (by rw [Nat.pow_succ] at hm; omega) hb
        have hc : Nat.beq (n % 2) 1 = Nat.beq (m % 2) 1 := ha
        have : n % 2 = m % 2 := by
          rcases Nat.mod_two_eq_zero_or_one n with a | a <;> rcases Nat.mod_two_eq_zero_or_one m with b | b <;> rw [a, b] at hc ⊢ <;> revert hc <;> decide
        omega
theorem bits_fuel : ∀ (f g n : Nat), n < 2 ^ f → f ≤ g → bits f n = bits g n
  | 0, g, n, h, _ => by
    have : n = 0 := by simpa using h
    subst this
    rw [bits_zero, bits_zero]
  | f + 1, g, n, h, hg => by
    obtain ⟨g, rfl⟩ : ∃ m, g = m + 1 := ⟨g - 1, by omega⟩
    by_cases h0 : n = 0
    · subst h0; rw [bits_zero, bits_zero]
    · rw [bits_succ f n h0, bits_succ g n h0, bits_fuel f g (n / 2) (by rw [Nat.pow_succ] at h; omega) (by omega)]
theorem path_inj' {n m : Nat} (h : path n = path m) : n = m := by
  have h1 : path n = bits (n + m) n := bits_fuel n (n + m) n Nat.lt_two_pow_self (by omega)
  have h2 : path m = bits (n + m) m := bits_fuel m (n + m) m Nat.lt_two_pow_self (by omega)
  rw [h1, h2] at h
  exact bits_inj (n + m) n m (Nat.lt_of_lt_of_le Nat.lt_two_pow_self (Nat.pow_le_pow_right (by decide) (by omega))) (Nat.lt_of_lt_of_le Nat.lt_two_pow_self (Nat.pow_le_pow_right (by decide) (by omega))) h

section tr
variable {α : Type}
theorem get_put_same (x : Option α) : ∀ (p : List Bool) (t : Tr α), (t.put x p).get p = x
  | [], .leaf => rfl
  | [], .node _ _ _ => rfl
  | true :: p, .leaf => get_put_same x p .leaf
  | false :: p, .leaf => get_put_same x p .leaf
  | true :: p, .node _ _ r => get_put_same x p r
  | false :: p, .node l _ _ => get_put_same x p l
theorem get_put_other (x : Option α) : ∀ (p q : List Bool) (t : Tr α), p ≠ q → (t.put x p).get q = t.get q
  | [], [], _, h => (h rfl).elim
  | [], b :: q, .leaf, _ => by cases b <;> rfl
  | [], b :: q, .node _ _ _, _ => by cases b <;> rfl
  | b :: p, [], .leaf, _ => by cases b <;> rfl
  | b :: p, [], .node _ _ _, _ => by cases b <;> rfl
  | b :: p, c :: q, .leaf, h => by
    by_cases hbc : b = c
    · subst hbc
      have := get_put_other x p q .leaf (fun e => h (by rw [e]))
      cases b <;> exact this
    · cases b <;> cases c <;> first | (exact (hbc rfl).elim) | rfl
  | b :: p, c :: q, .node l v r, h => by
    by_cases hbc : b = c
    · subst hbc
      have hpq : p ≠ q := fun e => h (by rw [e])
      cases b
      · exact get_put_other x p q l hpq
      · exact get_put_other x p q r hpq
    · cases b <;> cases c <;> first | (exact (hbc rfl).elim) | rfl
end tr

section bank
variable {α : Type}
theorem lt16 {r : Nat} (h : r < 16) : r = 0 ∨ r = 1 ∨ r = 2 ∨ r = 3 ∨ r = 4 ∨ r = 5 ∨ r = 6 ∨ r = 7 ∨ r = 8 ∨ r = 9 ∨ r = 10 ∨ r = 11 ∨ r = 12 ∨ r = 13 ∨ r = 14 ∨ r = 15 := by omega

theorem sel_same {r : Nat} (h : r < 16) (g : α → α) (t : B16 α) : (selG α r).f ((selM α r).f g t) = g ((selG α r).f t) := by
  rcases lt16 h with rfl | rfl | rfl | rfl | rfl | rfl | rfl | rfl | rfl | rfl | rfl | rfl | rfl | rfl | rfl | rfl <;> rfl

theorem sel_other {r s : Nat} (h : r < 16) (h' : s < 16) (hne : r ≠ s) (g : α → α) (t : B16 α) : (selG α r).f ((selM α s).f g t) = (selG α r).f t := by
  rcases lt16 h with rfl | rfl | rfl | rfl | rfl | rfl | rfl | rfl | rfl | rfl | rfl | rfl | rfl | rfl | rfl | rfl <;>
    rcases lt16 h' with rfl | rfl | rfl | rfl | rfl | rfl | rfl | rfl | rfl | rfl | rfl | rfl | rfl | rfl | rfl | rfl <;> first | rfl | (exact (hne rfl).elim)

theorem sel_both {r s : Nat} (h : r < 16) (h' : s < 16) (g : α → α) (t : B16 α) : (selG α r).f ((selM α s).f g t) = if r = s then g ((selG α r).f t) else (selG α r).f t := by
  by_cases e : r = s
  · subst e; rw [if_pos rfl, sel_same h]
  · rw [if_neg e, sel_other h h' e]

theorem mkG_mkP : ∀ (k n m : Nat) (v : α) (t : PT α k), n < 16 ^ k → m < 16 ^ k → (mkG α k m).f ((mkP α k n).f v t) = if m = n then v else (mkG α k m).f t
  | 0, n, m, v, t, hn, hm => by
    have : m = n := by simp at hn hm; omega
    rw [if_pos this]; rfl
  | k + 1, n, m, v, t, hn, hm => by
    have hn' : n / 16 < 16 ^ k := by rw [Nat.pow_succ] at hn; omega
    have hm' : m / 16 < 16 ^ k := by rw [Nat.pow_succ] at hm; omega
    refine (congrArg (mkG α k (m / 16)).f (sel_both (α := PT α k) (Nat.mod_lt m (by decide : 16 > 0)) (Nat.mod_lt n (by decide : 16 > 0)) ((mkP α k (n / 16)).f v) t)).trans ?_
    by_cases e : m % 16 = n % 16
    · rw [if_pos e, mkG_mkP k (n / 16) (m / 16) v _ hn' hm']
      by_cases e3 : m / 16 = n / 16
      · rw [if_pos e3, if_pos (by omega)]
      · rw [if_neg e3, if_neg (by omega)]; rfl
    · rw [if_neg e, if_neg (by omega)]; rfl

theorem getF_putF (d : α) (k n m : Nat) (v : α) (b : Bank α k) : (getF d k m).f ((putF α k n).f v b) = if m = n then v else (getF d k m).f b := by
  unfold getF putF
  cases h1 : Nat.ble (Nat.succ n) (Nat.pow 16 k) with
  | true =>
    have h1' := Nat.le_of_ble_eq_true h1
    cases h2 : Nat.ble (Nat.succ m) (Nat.pow 16 k) with
    | true =>
      have h2' := Nat.le_of_ble_eq_true h2
      exact mkG_mkP k n m v b.lo h1' h2'
    | false =>
      have : m ≠ n := by rintro rfl; rw [h1] at h2; cases h2
      rw [if_neg this]
  | false =>
    cases h2 : Nat.ble (Nat.succ m) (Nat.pow 16 k) with
    | true =>
      have : m ≠ n := by rintro rfl; rw [h1] at h2; cases h2
      rw [if_neg this]
    | false =>
      show orD d ((b.hi.put (some v) (path n)).get (path m)) = _
      by_cases e : m = n
      · subst e; rw [get_put_same, if_pos rfl]; rfl
      · rw [get_put_other _ _ _ _ (fun h => e (path_inj' h).symm), if_neg e]

theorem selG_full {r : Nat} (h : r < 16) (d : α) : (selG α r).f (B16.mk d d d d d d d d d d d d d d d d) = d := by
  rcases lt16 h with rfl | rfl | rfl | rfl | rfl | rfl | rfl | rfl | rfl | rfl | rfl | rfl | rfl | rfl | rfl | rfl <;> rfl
theorem mkG_full (d : α) : ∀ (k n : Nat), (mkG α k n).f (full d k) = d
  | 0, _ => rfl
  | k + 1, n => by
    have e := selG_full (Nat.mod_lt n (by decide : 16 > 0)) (full d k)
    show (mkG α k (n / 16)).f ((selG (PT α k) (n % 16)).f (B16.mk (full d k) (full d k) (full d k) (full d k) (full d k) (full d k) (full d k) (full d k) (full d k) (full d k) (full d k) (full d k) (full d k) (full d k) (full d k) (full d k))) = d
    rw [e]
    exact mkG_full d k (n / 16)
theorem getF_bank (d : α) (k n : Nat) : (getF d k n).f (bank d k) = d := by
  unfold getF
  cases Nat.ble (Nat.succ n) (Nat.pow 16 k) with
  | true => exact mkG_full d k n
  | false => rfl
end bank

section heap
variable (H : Heap) (b c : Nat) (x : Blk)
theorem Heap.get_set_same : (H.set b x).get b = some x := by
  show (getF none 5 b).f ((putF (Option Blk) 5 b).f (some x) H.blks) = _
  rw [getF_putF, if_pos rfl]
theorem Heap.get_set_other (_ : b < 2 ^ 64) (_ : c < 2 ^ 64) (h : c ≠ b) : (H.set b x).get c = H.get c := by
  show (getF none 5 c).f ((putF (Option Blk) 5 b).f (some x) H.blks) = _
  rw [getF_putF, if_neg h]; rfl
theorem Heap.get_del_same : (H.del b).get b = none := by
  show (getF none 5 b).f ((putF (Option Blk) 5 b).f none H.blks) = _
  rw [getF_putF, if_pos rfl]
theorem Heap.get_del_other (_ : b < 2 ^ 64) (_ : c < 2 ^ 64) (h : c ≠ b) : (H.del b).get c = H.get c := by
  show (getF none 5 c).f ((putF (Option Blk) 5 b).f none H.blks) = _
  rw [getF_putF, if_neg h]; rfl
theorem Heap.get_empty : Heap.empty.get b = none := getF_bank none 5 b
end heap

/-! ### Values -/

/-- Where an abstract block lies: in the block B from the cell `base` on; it has `size` cells, and there are `room` to the block's end; its elements have k cells. -/
structure Emb where
  B : Nat
  base : Nat
  size : Nat
  room : Nat
  k : Nat

abbrev Map := Nat → Option Emb

/-- Values that have no name but a number: what stands for them is open. -/
def isIS : Value → Bool
  | .int _ _ | .string _ => true
  | _ => false
class Sg where
  val : Nat → Value
  kind : ∀ i, isIS (val i) = true
theorem isIS_plain {v : Value} (h : isIS v = true) : plain v = true := by
  cases v <;> first | rfl | (cases h; done)
theorem isIS_tuple {v : Value} (h : isIS v = true) (a : Array Value) : v ≠ .tuple a := by rintro rfl; cases h
theorem Sg.plain [Sg] (i : Nat) : Ev.plain (Sg.val i) = true := isIS_plain (Sg.kind i)

section
variable [Sg]
mutual
/-- An abstract value, and the model's. -/
inductive V (ρ : Map) : Value → Value → Prop
  | sym (i : Nat) : V ρ (.float .f64 i) (Sg.val i)
  /-- A place of which nothing is known, but that it is no bool. -/
  | any {v : Value} (h : ∀ b, v ≠ .bool b) : V ρ (.float .f32 0) v
  | bool (b : Bool) : V ρ (.bool b) (.bool b)
  | int (k : IntKind) (n : Int) : V ρ (.int k n) (.int k n)
  | string (s : ByteArray) : V ρ (.string s) (.string s)
  | nilPtr : V ρ (.pointer none) (.pointer none)
  | nilSlice : V ρ (.slice none 0 0) (.slice none 0 0)
  | nilMap : V ρ (.map none) (.map none)
  | nilFunc : V ρ .nilFunc .nilFunc
  | nilIface : V ρ .nilIface .nilIface
  | ptr {b o : Nat} {e : Emb} (h : ρ b = some e) : V ρ (.pointer (some ⟨b, o, none⟩)) (.pointer (some ⟨e.B, e.base + o, none⟩))
  | slice {b o n c : Nat} {e : Emb} (h : ρ b = some e) (hn : n ≤ c) (hc : c ≠ U) : V ρ (.slice (some ⟨b, o, none⟩) n c) (.slice (some ⟨e.B, e.base + o, none⟩) n c)
  | sliceU {b o n c : Nat} {e : Emb} (h : ρ b = some e) (hn : n ≤ c) (hc : o + c * e.k = e.room) : V ρ (.slice (some ⟨b, o, none⟩) n U) (.slice (some ⟨e.B, e.base + o, none⟩) n c)
  | empty {b o : Nat} {e : Emb} {a : Addr} (h : ρ b = some e) (ho : e.size ≤ o) : V ρ (.slice (some ⟨b, o, none⟩) 0 U) (.slice (some a) 0 0)
  | map {r : Nat} {e : Emb} (h : ρ r = some e) : V ρ (.map (some r)) (.map (some e.B))
  | func (fn : Fn) {a b a' b' : List Value} (ha : VL ρ a a') (hb : VL ρ b b') : V ρ (.func fn ⟨a⟩ ⟨b⟩) (.func fn ⟨a'⟩ ⟨b'⟩)
  | iface (t : TypeId) {v v' : Value} (h : V ρ v v') : V ρ (.iface t v) (.iface t v')
  | agg {a a' : List Value} (h : VL ρ a a') (h1 : ∀ v ∈ a', v.oneCell' = true) : V ρ (.agg ⟨a⟩) (.agg ⟨a'⟩)
  | tuple {a a' : List Value} (h : VL ρ a a') : V ρ (.tuple ⟨a⟩) (.tuple ⟨a'⟩)
inductive VL (ρ : Map) : List Value → List Value → Prop
  | nil : VL ρ [] []
  | cons {v v' : Value} {l l' : List Value} (h : V ρ v v') (t : VL ρ l l') : VL ρ (v :: l) (v' :: l')
end

end

variable [Sg]

/-- A map that knows more. -/
def Le (ρ ρ' : Map) : Prop := ∀ b e, ρ b = some e → ρ' b = some e

mutual
theorem V.mono {ρ ρ' : Map} (hρ : Le ρ ρ') : ∀ {v v' : Value}, V ρ v v' → V ρ' v v'
  | _, _, .sym i => .sym i
  | _, _, .any h => .any h
  | _, _, .bool b => .bool b
  | _, _, .int k n => .int k n
  | _, _, .string s => .string s
  | _, _, .nilPtr => .nilPtr
  | _, _, .nilSlice => .nilSlice
  | _, _, .nilMap => .nilMap
  | _, _, .nilFunc => .nilFunc
  | _, _, .nilIface => .nilIface
  | _, _, .ptr h => .ptr (hρ _ _ h)
  | _, _, .slice h hn hc => .slice (hρ _ _ h) hn hc
  | _, _, .sliceU h hn hc => .sliceU (hρ _ _ h) hn hc
  | _, _, .empty h ho => .empty (hρ _ _ h) ho
  | _, _, .map h => .map (hρ _ _ h)
  | _, _, .func fn ha hb => .func fn (VL.mono hρ ha) (VL.mono hρ hb)
  | _, _, .iface t h => .iface t (V.mono hρ h)
  | _, _, .agg h h1 => .agg (VL.mono hρ h) h1
  | _, _, .tuple h => .tuple (VL.mono hρ h)
theorem VL.mono {ρ ρ' : Map} (hρ : Le ρ ρ') : ∀ {l l' : List Value}, VL ρ l l' → VL ρ' l l'
  | _, _, .nil => .nil
  | _, _, .cons h t => .cons (V.mono hρ h) (VL.mono hρ t)
end

section vl
variable {ρ : Map}
theorem VL.length : ∀ {l l' : List Value}, VL ρ l l' → l.length = l'.length
  | _, _, .nil => rfl
  | _, _, .cons _ t => congrArg Nat.succ (VL.length t)
theorem VL.get : ∀ {l l' : List Value}, VL ρ l l' → ∀ {i : Nat} {v : Value}, l[i]? = some v → ∃ v', l'[i]? = some v' ∧ V ρ v v'
  | _, _, .nil, i, v, h => by simp at h
  | _, _, .cons hv _, 0, v, h => by simp at h; subst h; exact ⟨_, rfl, hv⟩
  | _, _, .cons _ t, i + 1, v, h => by simpa using VL.get t (i := i) (by simpa using h)
theorem VL.append : ∀ {l l' m m' : List Value}, VL ρ l l' → VL ρ m m' → VL ρ (l ++ m) (l' ++ m')
  | _, _, _, _, .nil, h => h
  | _, _, _, _, .cons h t, k => .cons h (VL.append t k)
theorem VL.take : ∀ {l l' : List Value} (n : Nat), VL ρ l l' → VL ρ (l.take n) (l'.take n)
  | _, _, 0, _ => by simpa using VL.nil
  | _, _, n + 1, .nil => by simpa using VL.nil
  | _, _, n + 1, .cons h t => by simpa using VL.cons h (VL.take n t)
theorem VL.drop : ∀ {l l' : List Value} (n : Nat), VL ρ l l' → VL ρ (l.drop n) (l'.drop n)
  | _, _, 0, h => by simpa using h
  | _, _, n + 1, .nil => by simpa using VL.nil
  | _, _, n + 1, .cons _ t => by simpa using VL.drop n t
theorem VL.write {l l' m m' : List Value} (i : Nat) (h : VL ρ l l') (k : VL ρ m m') : VL ρ (l.take i ++ (m ++ l.drop (i + m.length))) (l'.take i ++ (m' ++ l'.drop (i + m'.length))) := by
  have e := k.length
  exact (h.take i).append (k.append (by rw [← e]; exact h.drop _))
theorem VL.rep {x x' : List Value} (h : VL ρ x x') : ∀ n, VL ρ (repL x n) (repL x' n)
  | 0 => .nil
  | n + 1 => by
    show VL ρ (appL x (repL x n)) (appL x' (repL x' n))
    rw [appL_eq, appL_eq]; exact h.append (VL.rep h n)
theorem V.plain {v : Value} (h : Ev.plain v = true) : V ρ v v := by
  cases v with
  | bool b => exact .bool b
  | int k n => exact .int k n
  | string s => exact .string s
  | pointer a => cases a with | none => exact .nilPtr | some a => simp [Ev.plain] at h
  | slice a n c => cases a with
    | none => cases n with
      | zero => cases c with | zero => exact .nilSlice | succ c => simp [Ev.plain] at h
      | succ n => simp [Ev.plain] at h
    | some a => simp [Ev.plain] at h
  | map r => cases r with | none => exact .nilMap | some r => simp [Ev.plain] at h
  | nilFunc => exact .nilFunc
  | nilIface => exact .nilIface
  | _ => simp [Ev.plain] at h
end vl

inductive OV (ρ : Map) : Option Value → Option Value → Prop
  | none : OV ρ none none
  | some {v v' : Value} (h : V ρ v v') : OV ρ (some v) (some v')

omit [Sg] in
theorem orO_eq {α : Type} {a b : Option α} {v : α} (h : orO a b = some v) : a = some v ∨ (a = none ∧ b = some v) := by
  cases a with
  | none => exact .inr ⟨rfl, h⟩
  | some x => exact .inl h
end Go.Ev
