/- The relation between the abstract memory and the model's. -/
import Derived.Test.YthnojgpobfpgeaaGreatDoorEv
import Derived.Below
import Derived.Laws.IdiomCopy
import Derived.Laws.Strings
namespace Go.Ev
open Go.RowKit
section lists
variable {α β : Type}
theorem dropL_eq : ∀ (n : Nat) (l : List α), dropL n l = l.drop n
  | 0, _ => rfl
  | _ + 1, [] => rfl
  | n + 1, _ :: t => dropL_eq n t
theorem takeL_eq : ∀ (n : Nat) (l : List α), takeL n l = l.take n
  | 0, _ => rfl
  | _ + 1, [] => rfl
  | n + 1, a :: t => congrArg (a :: ·) (takeL_eq n t)
theorem appL_eq : ∀ (l m : List α), appL l m = l ++ m
  | [], _ => rfl
  | a :: t, m => congrArg (a :: ·) (appL_eq t m)
theorem lenL_eq : ∀ (l : List α), lenL l = l.length
  | [] => rfl
  | _ :: t => congrArg Nat.succ (lenL_eq t)
theorem nthL_eq : ∀ (n : Nat) (l : List α), nthL n l = l[n]?
  | 0, [] => rfl
  | 0, _ :: _ => rfl
  | _ + 1, [] => rfl
  | n + 1, _ :: t => nthL_eq n t
theorem mapL_eq (f : α -> β) : ∀ (l : List α), mapL f l = l.map f
  | [] => rfl
  | a :: t => congrArg (f a :: ·) (mapL_eq f t)
theorem repL_length (x : List α) : ∀ (n : Nat), (repL x n).length = n * x.length
  | 0 => by show ([] : List α).length = _; simp
  | n + 1 => by
    show (appL x (repL x n)).length = _
    rw [appL_eq, List.length_append, repL_length x n, Nat.succ_mul, Nat.add_comm]
@[simp] theorem bnd_some (a : α) (f : α -> Option β) : bnd (some a) f = f a := rfl
@[simp] theorem bnd_none (f : α -> Option β) : bnd none f = none := rfl
theorem bnd_eq {x : Option α} {f : α -> Option β} {b : β} : bnd x f = some b ↔ ∃ a, x = some a /\ f a = some b := by
  cases x <;> simp
@[simp] theorem chk_true (x : Option β) : chk true x = x := rfl
@[simp] theorem chk_false (x : Option β) : chk false x = none := rfl
theorem chk_eq {c : Bool} {x : Option β} {b : β} : chk c x = some b ↔ c = true /\ x = some b := by cases c <;> simp
@[simp] theorem ifB_true (x y : β) : ifB true x y = x := rfl
@[simp] theorem ifB_false (x y : β) : ifB false x y = y := rfl
theorem ifB_eq (c : Bool) (x y : β) : ifB c x y = if c = true then x else y := by cases c <;> simp
@[simp] theorem fN_eq (n : Nat) (k : Nat -> β) : fN n k = k n := by cases n <;> rfl
@[simp] theorem fI_eq (n : Int) (k : Int -> β) : fI n k = k n := by cases n <;> simp [fI]
theorem takeN_eq : ∀ (n : Nat) (l r : List α), takeN n l = some r ↔ n <= l.length /\ r = l.take n
  | 0, l, r => by
    show some [] = some r ↔ _
    simp [eq_comm]
  | n + 1, [], r => by
    show none = some r ↔ _
    simp
  | n + 1, a :: t, r => by
    show bnd (takeN n t) (fun r => some (a :: r)) = some r ↔ _
    rw [bnd_eq]
    constructor
    . rintro ⟨q, hq, hr⟩
      obtain ⟨h1, rfl⟩ := (takeN_eq n t q).1 hq
      simp at hr
      subst hr
      simp; omega
    . rintro ⟨h, rfl⟩
      exact ⟨t.take n, (takeN_eq n t _).2 ⟨by simpa using h, rfl⟩, by simp⟩
theorem writeAt_eq {vs : List α} {i : Nat} {cs r : List α} : (chk (Nat.ble (Nat.add i (lenL vs)) (lenL cs)) (some (appL (takeL i cs) (appL vs (dropL (Nat.add i (lenL vs)) cs)))) = some r) ↔
    i + vs.length <= cs.length /\ r = cs.take i ++ (vs ++ cs.drop (i + vs.length)) := by
  rw [chk_eq]
  simp only [lenL_eq, appL_eq, takeL_eq, dropL_eq, Nat.add_eq, Nat.ble_eq, Option.some.injEq]
  constructor <;> rintro ⟨h, k⟩ <;> exact ⟨h, k.symm⟩
end lists
theorem bits_zero (f : Nat) : bits f 0 = [] := by cases f <;> rfl
theorem bits_succ (f n : Nat) (h : n ≠ 0) : bits (f + 1) n = (Nat.beq (n % 2) 1) :: bits f (n / 2) := by
  show Bool.rec (motive := fun _ => List Bool) (Nat.beq (Nat.mod n 2) 1 :: bits f (Nat.div n 2)) [] (Nat.beq n 0) = _
  have : Nat.beq n 0 = false := by cases n with | zero => exact (h rfl).elim | succ n => rfl
  rw [this]; rfl
theorem bits_inj : ∀ (f n m : Nat), n < 2 ^ f -> m < 2 ^ f -> bits f n = bits f m -> n = m
  | 0, n, m, hn, hm, _ => by simp at hn hm; omega
  | f + 1, n, m, hn, hm, h => by
    by_cases h0 : n = 0
    . by_cases h1 : m = 0
      . omega
      . subst h0; rw [bits_zero, bits_succ f m h1] at h; cases h
    . by_cases h1 : m = 0
      . subst h1; rw [bits_zero, bits_succ f n h0] at h; cases h
      . rw [bits_succ f n h0, bits_succ f m h1] at h
        obtain ⟨ha, hb⟩ := List.cons.inj h
        have := bits_inj f (n / 2) (m / 2) (by rw [Nat.pow_succ] at hn; omega) (by rw [Nat.pow_succ] at hm; omega) hb
        have hc : Nat.beq (n % 2) 1 = Nat.beq (m % 2) 1 := ha
        have : n % 2 = m % 2 := by
          rcases Nat.mod_two_eq_zero_or_one n with a | a <;> rcases Nat.mod_two_eq_zero_or_one m with b | b <;> rw [a, b] at hc ⊢ <;> revert hc <;> decide
        omega
theorem bits_fuel : ∀ (f g n : Nat), n < 2 ^ f -> f <= g -> bits f n = bits g n
  | 0, g, n, h, _ => by
    have : n = 0 := by simpa using h
    subst this
    rw [bits_zero, bits_zero]
  | f + 1, g, n, h, hg => by
    obtain ⟨g, rfl⟩ : ∃ m, g = m + 1 := ⟨g - 1, by omega⟩
    by_cases h0 : n = 0
    . subst h0; rw [bits_zero, bits_zero]
    . rw [bits_succ f n h0, bits_succ g n h0, bits_fuel f g (n / 2) (by rw [Nat.pow_succ] at h; omega) (by omega)]
theorem path_inj' {n m : Nat} (h : path n = path m) : n = m := by
  have h1 : path n = bits (n + m) n := bits_fuel n (n + m) n Nat.lt_two_pow_self (by omega)
  have h2 : path m = bits (n + m) m := bits_fuel m (n + m) m Nat.lt_two_pow_self (by omega)
  rw [h1, h2] at h
  exact bits_inj (n + m) n m (Nat.lt_of_lt_of_le Nat.lt_two_pow_self (Nat.pow_le_pow_right (by decide) (by omega))) (Nat.lt_of_lt_of_le Nat.lt_two_pow_self (Nat.pow_le_pow_right (by decide) (by omega))) h
section tr
variable {α : Type}
theorem get_put_same (x : Option α) : ∀ (p : List Bool) (t : Tr α), (t.put x p).get p = x
  | [], .leaf => rfl
  | [], .node _ _ _ => rfl
  | true :: p, .leaf => get_put_same x p .leaf
  | false :: p, .leaf => get_put_same x p .leaf
  | true :: p, .node _ _ r => get_put_same x p r
  | false :: p, .node l _ _ => get_put_same x p l
theorem get_put_other (x : Option α) : ∀ (p q : List Bool) (t : Tr α), p ≠ q -> (t.put x p).get q = t.get q
  | [], [], _, h => (h rfl).elim
  | [], b :: q, .leaf, _ => by cases b <;> rfl
  | [], b :: q, .node _ _ _, _ => by cases b <;> rfl
  | b :: p, [], .leaf, _ => by cases b <;> rfl
  | b :: p, [], .node _ _ _, _ => by cases b <;> rfl
  | b :: p, c :: q, .leaf, h => by
    by_cases hbc : b = c
    . subst hbc
      have := get_put_other x p q .leaf (fun e => h (by rw [e]))
      cases b <;> exact this
    . cases b <;> cases c <;> first | (exact (hbc rfl).elim) | rfl
  | b :: p, c :: q, .node l v r, h => by
    by_cases hbc : b = c
    . subst hbc
      have hpq : p ≠ q := fun e => h (by rw [e])
      cases b
      . exact get_put_other x p q l hpq
      . exact get_put_other x p q r hpq
    . cases b <;> cases c <;> first | (exact (hbc rfl).elim) | rfl
end tr
section bank
variable {α : Type}
theorem lt16 {r : Nat} (h : r < 16) : r = 0 \/ r = 1 \/ r = 2 \/ r = 3 \/ r = 4 \/ r = 5 \/ r = 6 \/ r = 7 \/ r = 8 \/ r = 9 \/ r = 10 \/ r = 11 \/ r = 12 \/ r = 13 \/ r = 14 \/ r = 15 := by omega
theorem sel_same {r : Nat} (h : r < 16) (g : α -> α) (t : B16 α) : (selG α r).f ((selM α r).f g t) = g ((selG α r).f t) := by
  rcases lt16 h with rfl | rfl | rfl | rfl | rfl | rfl | rfl | rfl | rfl | rfl | rfl | rfl | rfl | rfl | rfl | rfl <;> rfl
theorem sel_other {r s : Nat} (h : r < 16) (h' : s < 16) (hne : r ≠ s) (g : α -> α) (t : B16 α) : (selG α r).f ((selM α s).f g t) = (selG α r).f t := by
  rcases lt16 h with rfl | rfl | rfl | rfl | rfl | rfl | rfl | rfl | rfl | rfl | rfl | rfl | rfl | rfl | rfl | rfl <;>
    rcases lt16 h' with rfl | rfl | rfl | rfl | rfl | rfl | rfl | rfl | rfl | rfl | rfl | rfl | rfl | rfl | rfl | rfl <;> first | rfl | (exact (hne rfl).elim)
theorem sel_both {r s : Nat} (h : r < 16) (h' : s < 16) (g : α -> α) (t : B16 α) : (selG α r).f ((selM α s).f g t) = if r = s then g ((selG α r).f t) else (selG α r).f t := by
  by_cases e : r = s
  . subst e; rw [if_pos rfl, sel_same h]
  . rw [if_neg e, sel_other h h' e]
theorem mkG_mkP : ∀ (k n m : Nat) (v : α) (t : PT α k), n < 16 ^ k -> m < 16 ^ k -> (mkG α k m).f ((mkP α k n).f v t) = if m = n then v else (mkG α k m).f t
  | 0, n, m, v, t, hn, hm => by
    have : m = n := by simp at hn hm; omega
    rw [if_pos this]; rfl
  | k + 1, n, m, v, t, hn, hm => by
    have hn' : n / 16 < 16 ^ k := by rw [Nat.pow_succ] at hn; omega
    have hm' : m / 16 < 16 ^ k := by rw [Nat.pow_succ] at hm; omega
    refine (congrArg (mkG α k (m / 16)).f (sel_both (α := PT α k) (Nat.mod_lt m (by decide : 16 > 0)) (Nat.mod_lt n (by decide : 16 > 0)) ((mkP α k (n / 16)).f v) t)).trans ?_
    by_cases e : m % 16 = n % 16
    . rw [if_pos e, mkG_mkP k (n / 16) (m / 16) v _ hn' hm']
      by_cases e3 : m / 16 = n / 16
      . rw [if_pos e3, if_pos (by omega)]
      . rw [if_neg e3, if_neg (by omega)]; rfl
    . rw [if_neg e, if_neg (by omega)]; rfl
theorem getF_putF (d : α) (k n m : Nat) (v : α) (b : Bank α k) : (getF d k m).f ((putF α k n).f v b) = if m = n then v else (getF d k m).f b := by
  unfold getF putF
  cases h1 : Nat.ble (Nat.succ n) (Nat.pow 16 k) with
  | true =>
    have h1' := Nat.le_of_ble_eq_true h1
    cases h2 : Nat.ble (Nat.succ m) (Nat.pow 16 k) with
    | true =>
      have h2' := Nat.le_of_ble_eq_true h2
      exact mkG_mkP k n m v b.lo h1' h2'
    | false =>
      have : m ≠ n := by rintro rfl; rw [h1] at h2; cases h2
      rw [if_neg this]
  | false =>
    cases h2 : Nat.ble (Nat.succ m) (Nat.pow 16 k) with
    | true =>
      have : m ≠ n := by rintro rfl; rw [h1] at h2; cases h2
      rw [if_neg this]
    | false =>
      show orD d ((b.hi.put (some v) (path n)).get (path m)) = _
      by_cases e : m = n
      . subst e; rw [get_put_same, if_pos rfl]; rfl
      . rw [get_put_other _ _ _ _ (fun h => e (path_inj' h).symm), if_neg e]
theorem selG_full {r : Nat} (h : r < 16) (d : α) : (selG α r).f (B16.mk d d d d d d d d d d d d d d d d) = d := by
  rcases lt16 h with rfl | rfl | rfl | rfl | rfl | rfl | rfl | rfl | rfl | rfl | rfl | rfl | rfl | rfl | rfl | rfl <;> rfl
theorem mkG_full (d : α) : ∀ (k n : Nat), (mkG α k n).f (full d k) = d
  | 0, _ => rfl
  | k + 1, n => by
    have e := selG_full (Nat.mod_lt n (by decide : 16 > 0)) (full d k)
    show (mkG α k (n / 16)).f ((selG (PT α k) (n % 16)).f (B16.mk (full d k) (full d k) (full d k) (full d k) (full d k) (full d k) (full d k) (full d k) (full d k) (full d k) (full d k) (full d k) (full d k) (full d k) (full d k) (full d k))) = d
    rw [e]
    exact mkG_full d k (n / 16)
theorem getF_bank (d : α) (k n : Nat) : (getF d k n).f (bank d k) = d := by
  unfold getF
  cases Nat.ble (Nat.succ n) (Nat.pow 16 k) with
  | true => exact mkG_full d k n
  | false => rfl
end bank
section heap
variable (H : Heap) (b c : Nat) (x : Blk)
theorem Heap.get_set_same : (H.set b x).get b = some x := by
  show (getF none 5 b).f ((putF (Option Blk) 5 b).f (some x) H.blks) = _
  rw [getF_putF, if_pos rfl]
theorem Heap.get_set_other (_ : b < 2 ^ 64) (_ : c < 2 ^ 64) (h : c ≠ b) : (H.set b x).get c = H.get c := by
  show (getF none 5 c).f ((putF (Option Blk) 5 b).f (some x) H.blks) = _
  rw [getF_putF, if_neg h]; rfl
theorem Heap.get_del_same : (H.del b).get b = none := by
  show (getF none 5 b).f ((putF (Option Blk) 5 b).f none H.blks) = _
  rw [getF_putF, if_pos rfl]
theorem Heap.get_del_other (_ : b < 2 ^ 64) (_ : c < 2 ^ 64) (h : c ≠ b) : (H.del b).get c = H.get c := by
  show (getF none 5 c).f ((putF (Option Blk) 5 b).f none H.blks) = _
  rw [getF_putF, if_neg h]; rfl
theorem Heap.get_empty : Heap.empty.get b = none := getF_bank none 5 b
end heap
structure Emb where
  B : Nat
  base : Nat
  size : Nat
  room : Nat
  k : Nat
abbrev Map := Nat -> Option Emb
def isIS : Value -> Bool
  | .int _ _ | .string _ => true
  | _ => false
class Sg where
  val : Nat -> Value
  kind : ∀ i, isIS (val i) = true
theorem isIS_plain {v : Value} (h : isIS v = true) : plain v = true := by
  cases v <;> first | rfl | (cases h; done)
theorem isIS_tuple {v : Value} (h : isIS v = true) (a : Array Value) : v ≠ .tuple a := by rintro rfl; cases h
theorem Sg.plain [Sg] (i : Nat) : Ev.plain (Sg.val i) = true := isIS_plain (Sg.kind i)
section
variable [Sg]
mutual
inductive V (ρ : Map) : Value -> Value -> Prop
  | sym (i : Nat) : V ρ (.float .f64 i) (Sg.val i)
  | any {v : Value} (h : ∀ b, v ≠ .bool b) : V ρ (.float .f32 0) v
  | bool (b : Bool) : V ρ (.bool b) (.bool b)
  | int (k : IntKind) (n : Int) : V ρ (.int k n) (.int k n)
  | string (s : ByteArray) : V ρ (.string s) (.string s)
  | nilPtr : V ρ (.pointer none) (.pointer none)
  | nilSlice : V ρ (.slice none 0 0) (.slice none 0 0)
  | nilMap : V ρ (.map none) (.map none)
  | nilFunc : V ρ .nilFunc .nilFunc
  | nilIface : V ρ .nilIface .nilIface
  | ptr {b o : Nat} {e : Emb} (h : ρ b = some e) : V ρ (.pointer (some ⟨b, o, none⟩)) (.pointer (some ⟨e.B, e.base + o, none⟩))
  | slice {b o n c : Nat} {e : Emb} (h : ρ b = some e) (hn : n <= c) (hc : c ≠ U) : V ρ (.slice (some ⟨b, o, none⟩) n c) (.slice (some ⟨e.B, e.base + o, none⟩) n c)
  | sliceU {b o n c : Nat} {e : Emb} (h : ρ b = some e) (hn : n <= c) (hc : o + c * e.k = e.room) : V ρ (.slice (some ⟨b, o, none⟩) n U) (.slice (some ⟨e.B, e.base + o, none⟩) n c)
  | empty {b o : Nat} {e : Emb} {a : Addr} (h : ρ b = some e) (ho : e.size <= o) : V ρ (.slice (some ⟨b, o, none⟩) 0 U) (.slice (some a) 0 0)
  | map {r : Nat} {e : Emb} (h : ρ r = some e) : V ρ (.map (some r)) (.map (some e.B))
  | func (fn : Fn) {a b a' b' : List Value} (ha : VL ρ a a') (hb : VL ρ b b') : V ρ (.func fn ⟨a⟩ ⟨b⟩) (.func fn ⟨a'⟩ ⟨b'⟩)
  | iface (t : TypeId) {v v' : Value} (h : V ρ v v') : V ρ (.iface t v) (.iface t v')
  | agg {a a' : List Value} (h : VL ρ a a') (h1 : ∀ v ∈ a', v.oneCell' = true) : V ρ (.agg ⟨a⟩) (.agg ⟨a'⟩)
  | tuple {a a' : List Value} (h : VL ρ a a') : V ρ (.tuple ⟨a⟩) (.tuple ⟨a'⟩)
inductive VL (ρ : Map) : List Value -> List Value -> Prop
  | nil : VL ρ [] []
  | cons {v v' : Value} {l l' : List Value} (h : V ρ v v') (t : VL ρ l l') : VL ρ (v :: l) (v' :: l')
end
end
variable [Sg]
def Le (ρ ρ' : Map) : Prop := ∀ b e, ρ b = some e -> ρ' b = some e
mutual
theorem V.mono {ρ ρ' : Map} (hρ : Le ρ ρ') : ∀ {v v' : Value}, V ρ v v' -> V ρ' v v'
  | _, _, .sym i => .sym i
  | _, _, .any h => .any h
  | _, _, .bool b => .bool b
  | _, _, .int k n => .int k n
  | _, _, .string s => .string s
  | _, _, .nilPtr => .nilPtr
  | _, _, .nilSlice => .nilSlice
  | _, _, .nilMap => .nilMap
  | _, _, .nilFunc => .nilFunc
  | _, _, .nilIface => .nilIface
  | _, _, .ptr h => .ptr (hρ _ _ h)
  | _, _, .slice h hn hc => .slice (hρ _ _ h) hn hc
  | _, _, .sliceU h hn hc => .sliceU (hρ _ _ h) hn hc
  | _, _, .empty h ho => .empty (hρ _ _ h) ho
  | _, _, .map h => .map (hρ _ _ h)
  | _, _, .func fn ha hb => .func fn (VL.mono hρ ha) (VL.mono hρ hb)
  | _, _, .iface t h => .iface t (V.mono hρ h)
  | _, _, .agg h h1 => .agg (VL.mono hρ h) h1
  | _, _, .tuple h => .tuple (VL.mono hρ h)
theorem VL.mono {ρ ρ' : Map} (hρ : Le ρ ρ') : ∀ {l l' : List Value}, VL ρ l l' -> VL ρ' l l'
  | _, _, .nil => .nil
  | _, _, .cons h t => .cons (V.mono hρ h) (VL.mono hρ t)
end
section vl
variable {ρ : Map}
theorem VL.length : ∀ {l l' : List Value}, VL ρ l l' -> l.length = l'.length
  | _, _, .nil => rfl
  | _, _, .cons _ t => congrArg Nat.succ (VL.length t)
theorem VL.get : ∀ {l l' : List Value}, VL ρ l l' -> ∀ {i : Nat} {v : Value}, l[i]? = some v -> ∃ v', l'[i]? = some v' /\ V ρ v v'
  | _, _, .nil, i, v, h => by simp at h
  | _, _, .cons hv _, 0, v, h => by simp at h; subst h; exact ⟨_, rfl, hv⟩
  | _, _, .cons _ t, i + 1, v, h => by simpa using VL.get t (i := i) (by simpa using h)
theorem VL.append : ∀ {l l' m m' : List Value}, VL ρ l l' -> VL ρ m m' -> VL ρ (l ++ m) (l' ++ m')
  | _, _, _, _, .nil, h => h
  | _, _, _, _, .cons h t, k => .cons h (VL.append t k)
theorem VL.take : ∀ {l l' : List Value} (n : Nat), VL ρ l l' -> VL ρ (l.take n) (l'.take n)
  | _, _, 0, _ => by simpa using VL.nil
  | _, _, n + 1, .nil => by simpa using VL.nil
  | _, _, n + 1, .cons h t => by simpa using VL.cons h (VL.take n t)
theorem VL.drop : ∀ {l l' : List Value} (n : Nat), VL ρ l l' -> VL ρ (l.drop n) (l'.drop n)
  | _, _, 0, h => by simpa using h
  | _, _, n + 1, .nil => by simpa using VL.nil
  | _, _, n + 1, .cons _ t => by simpa using VL.drop n t
theorem VL.write {l l' m m' : List Value} (i : Nat) (h : VL ρ l l') (k : VL ρ m m') : VL ρ (l.take i ++ (m ++ l.drop (i + m.length))) (l'.take i ++ (m' ++ l'.drop (i + m'.length))) := by
  have e := k.length
  exact (h.take i).append (k.append (by rw [<- e]; exact h.drop _))
theorem VL.rep {x x' : List Value} (h : VL ρ x x') : ∀ n, VL ρ (repL x n) (repL x' n)
  | 0 => .nil
  | n + 1 => by
    show VL ρ (appL x (repL x n)) (appL x' (repL x' n))
    rw [appL_eq, appL_eq]; exact h.append (VL.rep h n)
theorem V.plain {v : Value} (h : Ev.plain v = true) : V ρ v v := by
  cases v with
  | bool b => exact .bool b
  | int k n => exact .int k n
  | string s => exact .string s
  | pointer a => cases a with | none => exact .nilPtr | some a => simp [Ev.plain] at h
  | slice a n c => cases a with
    | none => cases n with
      | zero => cases c with | zero => exact .nilSlice | succ c => simp [Ev.plain] at h
      | succ n => simp [Ev.plain] at h
    | some a => simp [Ev.plain] at h
  | map r => cases r with | none => exact .nilMap | some r => simp [Ev.plain] at h
  | nilFunc => exact .nilFunc
  | nilIface => exact .nilIface
  | _ => simp [Ev.plain] at h
end vl
inductive OV (ρ : Map) : Option Value -> Option Value -> Prop
  | none : OV ρ none none
  | some {v v' : Value} (h : V ρ v v') : OV ρ (some v) (some v')
omit [Sg] in
theorem orO_eq {α : Type} {a b : Option α} {v : α} (h : orO a b = some v) : a = some v \/ (a = none /\ b = some v) := by
  cases a with
  | none => exact .inr ⟨rfl, h⟩
  | some x => exact .inl h
end Go.Ev
namespace Go.Ev
open Go.RowKit
variable [Sg]
omit [Sg] in
theorem isRw_eq {a : Acc} (h : isRw a = true) : a = .rw := by cases a <;> first | rfl | (cases h; done)
inductive EL (ρ : Map) : List MapEntry -> List MapEntry -> Prop
 | nil : EL ρ [] []
 | cons {k k' v v' : Value} {n : Nat} {l l' : List MapEntry} (hk : V ρ k k') (hv : V ρ v v') (t : EL ρ l l') : EL ρ (⟨k, v, n⟩ :: l) (⟨k', v', n⟩ :: l')
theorem EL.mono {ρ ρ' : Map} (hρ : Le ρ ρ') {l l' : List MapEntry} (h : EL ρ l l') : EL ρ' l l' := by
 induction h with
 | nil => exact .nil
 | cons hk hv _ ih => exact .cons (hk.mono hρ) (hv.mono hρ) ih
noncomputable def wr : Blk -> Bool
 | .cells _ _ ro => isW ro
 | .box _ => false
 | _ => true
def win (C : Array Value) (e : Emb) : List Value := (C.toList.drop e.base).take e.size
inductive BR (P : Program) (ρ : Map) (e : Emb) : Blk -> Option Obj -> Prop
 | cells {cs : List Value} {C : Array Value} {elem : TypeId} {ro : Acc} {fr : Nat × Nat} {i : TypeInfo} (hi : P.info? elem = some i) (hk : i.size = e.k)
   (hs : cs.length = e.size) (hr : e.size <= e.room) (hC : C.size = e.base + e.room) (hf : ro = .rw -> ∀ j, j < C.size -> ¬ (fr.1 <= j /\ j < fr.2))
   (hv : VL ρ cs (win C e)) (h1 : ∀ v ∈ win C e, v.oneCell' = true) (hb : e.base % e.k = 0) : BR P ρ e (.cells cs elem ro) (some (.cells C elem fr))
 | map {es : List MapEntry} {es' : Array MapEntry} {clock : Nat} (h : EL ρ es es'.toList) : BR P ρ e (.map es clock) (some (.map es' clock))
 | iter {s : List UInt8} {s' : ByteArray} {pos : Nat} (hb : e.base = 0) (h : s'.data.toList.drop pos = s) : BR P ρ e (.iter s pos) (some (.stringIter s' pos))
 | box {v v' : Value} {t : TypeId} {fr : Nat × Nat} (hb : e.base = 0) (h : V ρ v v') : BR P ρ e (.box v) (some (.cells #[v'] t fr))
 | mitNil {a c : Nat} {s : List Nat} (hb : e.base = 0) : BR P ρ e (.mit none a s c) (some (.mapIter none a ⟨s⟩ c))
 | mit {m : Nat} {em : Emb} {a c : Nat} {s : List Nat} (hb : e.base = 0) (h : ρ m = some em) : BR P ρ e (.mit (some m) a s c) (some (.mapIter (some em.B) a ⟨s⟩ c))
theorem BR.mono {P : Program} {ρ ρ' : Map} (hρ : Le ρ ρ') {e : Emb} {x : Blk} {o : Option Obj} (h : BR P ρ e x o) : BR P ρ' e x o := by
 cases h with
 | cells hi hk hs hr hC hf hv h1 hb => exact .cells hi hk hs hr hC hf (hv.mono hρ) h1 hb
 | map h => exact .map (h.mono hρ)
 | iter hb h => exact .iter hb h
 | box hb h => exact .box hb (h.mono hρ)
 | mitNil hb => exact .mitNil hb
 | mit hb h => exact .mit hb (hρ _ _ h)
structure HR (P : Program) (ρ : Map) (H : Heap) (w : World) : Prop where
 blk : ∀ b x e, H.get b = some x -> ρ b = some e -> BR P ρ e x w.heap[e.B]?
 inj : ∀ b1 b2 x1 x2 e1 e2, H.get b1 = some x1 -> H.get b2 = some x2 -> ρ b1 = some e1 -> ρ b2 = some e2 -> wr x1 = true -> e1.B = e2.B -> b1 = b2
 dom : ∀ b e, ρ b = some e -> b < H.next
 lim : H.next <= 2 ^ 64
 top : ∀ b, H.next <= b -> H.get b = none
def Wr (ρ : Map) (H : Heap) (B : Nat) : Prop := ∃ b x e, H.get b = some x /\ ρ b = some e /\ e.B = B /\ wr x = true
def Mp (ρ : Map) (H : Heap) (B : Nat) : Prop := ∃ b x e, H.get b = some x /\ ρ b = some e /\ e.B = B
omit [Sg] in
theorem Heap.get_set_ne {H : Heap} {b c : Nat} {x : Blk} (h : c ≠ b) : (H.set b x).get c = H.get c := by
 show (getF none 5 c).f ((putF (Option Blk) 5 b).f (some x) H.blks) = _
 rw [getF_putF, if_neg h]; rfl
omit [Sg] in
theorem Heap.get_del_ne {H : Heap} {b c : Nat} (h : c ≠ b) : (H.del b).get c = H.get c := by
 show (getF none 5 c).f ((putF (Option Blk) 5 b).f none H.blks) = _
 rw [getF_putF, if_neg h]; rfl
structure Step (S : Nat -> Prop) (ρ : Map) (H : Heap) (w : World) (ρ' : Map) (H' : Heap) (w' : World) : Prop where
 ext : ∀ b, ρ' b = ρ b \/ (ρ b = none /\ S b)
 os : w'.os = w.os
 tape : w'.tape = w.tape
 output : w'.output = w.output
 size : w.heap.size <= w'.heap.size
 keep : ∀ B, B < w.heap.size -> ¬ Wr ρ H B -> w'.heap[B]? = w.heap[B]?
 wr : ∀ B, B < w.heap.size -> Wr ρ' H' B -> Wr ρ H B
 next : H.next <= H'.next
 mp : ∀ B, B < w.heap.size -> Mp ρ' H' B -> Mp ρ H B
 abs1 : ∀ b, ρ b = none -> ¬ S b -> H'.get b = H.get b
 abs2 : ∀ b, H.get b = none -> ¬ S b -> H'.get b = none
omit [Sg] in
theorem Step.le {S : Nat -> Prop} {ρ ρ' : Map} {H H' : Heap} {w w' : World} (h : Step S ρ H w ρ' H' w') : Le ρ ρ' := fun b e hb => by
 rcases h.ext b with h | ⟨h, _⟩
 ·
  rw [h]; exact hb
 ·
  rw [h] at hb; cases hb
omit [Sg] in
theorem Step.refl (S : Nat -> Prop) (ρ : Map) (H : Heap) (w : World) : Step S ρ H w ρ H w :=
 ⟨fun _ => .inl rfl, rfl, rfl, rfl, Nat.le_refl _, fun _ _ _ => rfl, fun _ _ h => h, Nat.le_refl _, fun _ _ h => h, fun _ _ _ => rfl, fun _ h _ => h⟩
omit [Sg] in
theorem Step.trans {S : Nat -> Prop} {ρ ρ' ρ'' : Map} {H H' H'' : Heap} {w w' w'' : World} (h : Step S ρ H w ρ' H' w') (k : Step S ρ' H' w' ρ'' H'' w'') : Step S ρ H w ρ'' H'' w'' := by
 refine ⟨fun b => ?_, k.os.trans h.os, k.tape.trans h.tape, k.output.trans h.output, Nat.le_trans h.size k.size, fun B hB hn => ?_, fun B hB hw => ?_, Nat.le_trans h.next k.next, fun B hB hm => h.mp B hB (k.mp B (Nat.lt_of_lt_of_le hB h.size) hm), fun b hb hs => ?_, fun b hb hs => k.abs2 b (h.abs2 b hb hs) hs⟩
 ·
  rcases k.ext b with e | ⟨e, s⟩
  ·
   rcases h.ext b with e' | ⟨e', s'⟩
   ·
    exact .inl (e.trans e')
   ·
    exact .inr ⟨e', s'⟩
  ·
   rcases h.ext b with e' | ⟨e', s'⟩
   ·
    exact .inr ⟨by rw [<- e', e], s⟩
   ·
    exact .inr ⟨e', s'⟩
 ·
  have h1 := h.keep B hB hn
  rw [<- h1]
  exact k.keep B (Nat.lt_of_lt_of_le hB h.size) fun hw => hn (h.wr B hB hw)
 ·
  exact h.wr B hB (k.wr B (Nat.lt_of_lt_of_le hB h.size) hw)
 ·
  rw [<- h.abs1 b hb hs]
  refine k.abs1 b ?_ hs
  rcases h.ext b with e | ⟨_, s⟩
  ·
   rw [e]; exact hb
  ·
   exact (hs s).elim
omit [Sg] in
theorem Step.weaken {S S' : Nat -> Prop} (hS : ∀ b, S b -> S' b) {ρ ρ' : Map} {H H' : Heap} {w w' : World} (h : Step S ρ H w ρ' H' w') : Step S' ρ H w ρ' H' w' :=
 ⟨fun b => (h.ext b).imp id fun ⟨a, s⟩ => ⟨a, hS b s⟩, h.os, h.tape, h.output, h.size, h.keep, h.wr, h.next, h.mp, fun b hb hs => h.abs1 b hb fun s => hs (hS b s), fun b hb hs => h.abs2 b hb fun s => hs (hS b s)⟩
omit [Sg] in
theorem Step.below {S : Nat -> Prop} {ρ ρ' : Map} {H H' : Heap} {w w' : World} (h : Step S ρ H w ρ' H' w') (hn : ∀ B, B < w.heap.size -> ¬ Wr ρ H B) : Below w.heap.size w w' :=
 ⟨h.os, h.tape, h.output, h.size, fun B hB => h.keep B hB (hn B hB)⟩
def AR (ρ : Map) (a a' : Addr) : Prop := ∃ e, ρ a.block = some e /\ a.spot = none /\ a' = ⟨e.B, e.base + a.off, none⟩
theorem V.ptrInv {ρ : Map} {a : Addr} {v' : Value} (h : V ρ (.pointer (some a)) v') : ∃ a', v' = .pointer (some a') /\ AR ρ a a' := by
 cases h with
 | ptr h => exact ⟨_, rfl, _, h, rfl, rfl⟩
theorem AR.val {ρ : Map} {a a' : Addr} (h : AR ρ a a') : V ρ (.pointer (some a)) (.pointer (some a')) := by
 obtain ⟨b, o, s⟩ := a
 obtain ⟨e, he, hs, rfl⟩ := h
 simp at hs; subst hs
 exact .ptr he
omit [Sg] in
theorem AR.move {ρ : Map} {a a' : Addr} (h : AR ρ a a') (n : Nat) : AR ρ (moveBy a n) (a'.add n) := by
 obtain ⟨e, he, hs, rfl⟩ := h
 refine ⟨e, ?_, ?_, ?_⟩
 ·
  unfold moveBy; cases n.beq 0 <;> exact he
 ·
  unfold moveBy; cases n.beq 0 <;> first | exact hs | rfl
 ·
  unfold moveBy Addr.add
  cases n with
  | zero => rfl
  | succ n =>
   have : Nat.beq (n + 1) 0 = false := rfl
   simp [this, Nat.add_assoc]
omit [Sg] in
theorem noSpot_eq {a : Addr} : noSpot a = true ↔ a.spot = none := by
 unfold noSpot; cases a.spot <;> simp
omit [Sg] in
theorem cellsOf_eq {x : Blk} {c : List Value × TypeId × Acc} : cellsOf x = some c ↔ x = .cells c.1 c.2.1 c.2.2 := by
 cases x <;> simp [cellsOf, Prod.ext_iff, eq_comm]
omit [Sg] in
theorem cell?_of {w : World} {B : Nat} {C : Array Value} {t : TypeId} {fr : Nat × Nat} (h : w.heap[B]? = some (.cells C t fr)) (o : Nat) : w.cell? ⟨B, o, none⟩ = C[o]? := by
 simp [World.cell?, h]
omit [Sg] in
theorem add_mk (B o j : Nat) : (⟨B, o, none⟩ : Addr).add j = ⟨B, o + j, none⟩ := by
 unfold Addr.add; split <;> simp_all
section load
variable {P : Program} {ρ : Map} {H : Heap} {w : World}
omit [Sg] in
theorem win_get {C : Array Value} {e : Emb} {i : Nat} {v : Value} (h : (win C e)[i]? = some v) : C[e.base + i]? = some v := by
 unfold win at h
 rw [List.getElem?_take] at h
 split at h
 ·
  rw [List.getElem?_drop] at h; simpa using h
 ·
  cases h
theorem HR.load (hH : HR P ρ H w) {a a' : Addr} (ha : AR ρ a a') {n : Nat} {l : List Value} (h : cellsAt H a n = some l) :
  ∃ l', VL ρ l l' /\ (∀ v ∈ l', v.oneCell' = true) /\ l'.length = n /\ (∀ j v, l'[j]? = some v -> w.cell? (a'.add j) = some v) := by
 obtain ⟨e, he, hs, rfl⟩ := ha
 unfold cellsAt at h
 rw [chk_eq] at h
 obtain ⟨_, h⟩ := h
 rw [bnd_eq] at h
 obtain ⟨x, hx, h⟩ := h
 rw [bnd_eq] at h
 obtain ⟨c, hc, h⟩ := h
 rw [cellsOf_eq] at hc
 rw [takeN_eq, dropL_eq] at h
 obtain ⟨hn, rfl⟩ := h
 have hb := hH.blk _ _ _ hx he
 subst hc
 generalize hg : w.heap[e.B]? = g at hb
 cases hb with
 | cells hi hk hs' hr hC hf hv h1 hmodb =>
  have hlen := hv.length
  refine ⟨((win _ e).drop a.off).take n, (hv.drop _).take _, fun v hm => h1 v (List.mem_of_mem_drop (List.mem_of_mem_take hm)), ?_, fun j v hj => ?_⟩
  ·
   simp only [List.length_take, List.length_drop] at hn ⊢; omega
  ·
   rw [add_mk, cell?_of hg, Nat.add_assoc]
   rw [List.getElem?_take] at hj
   split at hj
   ·
    rw [List.getElem?_drop] at hj; exact win_get hj
   ·
    cases hj
omit [Sg] in
theorem run_loadCells_of {a' : Addr} {l' : List Value} {n : Nat} (hl : l'.length = n) (h : ∀ j v, l'[j]? = some v -> w.cell? (a'.add j) = some v) :
  (loadCells a' n).run P w = .ok ⟨l'⟩ w := by
 subst hl
 exact run_loadCells_list w a' l' h
end load
def putRow (C : Array Value) (o : Nat) (vs : List Value) : Array Value := ⟨C.toList.take o ++ (vs ++ C.toList.drop (o + vs.length))⟩
omit [Sg] in
theorem set_at : ∀ (l : List Value) (o : Nat) (v : Value), o < l.length -> l.set o v = l.take o ++ (v :: l.drop (o + 1))
 | [], _, _, h => by simp at h
 | _ :: _, 0, _, _ => rfl
 | a :: l, o + 1, v, h => by
  have := set_at l o v (by simpa using h)
  simp [this]
omit [Sg] in
theorem run_storeCells_row (P : Program) (B : Nat) (t : TypeId) (fr : Nat × Nat) (o : Nat) : ∀ (vs : List Value) (i : Nat) (C : Array Value) (w : World), w.heap[B]? = some (.cells C t fr) ->
  o + i + vs.length <= C.size -> (∀ j, j < C.size -> ¬ (fr.1 <= j /\ j < fr.2)) -> (∀ v ∈ vs, v.oneCell' = true) ->
  ∃ w', (storeCells ⟨B, o, none⟩ vs i).run P w = .ok () w' /\ w'.os = w.os /\ w'.tape = w.tape /\ w'.output = w.output /\ w'.heap.size = w.heap.size /\
   w'.heap[B]? = some (.cells (putRow C (o + i) vs) t fr) /\ ∀ k, k ≠ B -> w'.heap[k]? = w.heap[k]?
 | [], i, C, w, hg, _, _, _ => ⟨w, rfl, rfl, rfl, rfl, rfl, by rw [hg]; simp [putRow], fun _ _ => rfl⟩
 | v :: r, i, C, w, hg, hn, hf, h1 => by
  simp only [List.length_cons] at hn
  have hlt : o + i < C.size := by omega
  have hcell : w.cell? ⟨B, o + i, none⟩ = some C[o + i] := by rw [cell?_of hg]; simp [hlt]
  have hfz : w.frozen? ⟨B, o + i, none⟩ = false := by
   have := hf (o + i) hlt
   simp only [World.frozen?, hg]
   simp; omega
  have hst : (store ((⟨B, o, none⟩ : Addr).add i) v).run P w = .ok () (w.setCell ⟨B, o + i, none⟩ v) := by
   rw [add_mk, run_store P w _ v _ (h1 v (by simp)), hcell]
   simp [hfz]
  have hB : B < w.heap.size := by
   rcases Nat.lt_or_ge B w.heap.size with h | h
   ·
    exact h
   ·
    rw [Array.getElem?_eq_none h] at hg; cases hg
  have hg' : (w.setCell ⟨B, o + i, none⟩ v).heap[B]? = some (.cells (C.set (o + i) v hlt) t fr) := by
   simp only [World.setCell]
   rw [Array.getElem?_modify, if_pos rfl, hg]
   simp [Array.setIfInBounds, hlt]
  have ih := run_storeCells_row P B t fr o r (i + 1) (C.set (o + i) v hlt) (w.setCell ⟨B, o + i, none⟩ v) hg' (by simp; omega) (by simpa using hf) (fun x hx => h1 x (by simp [hx]))
  obtain ⟨w', hrun, h2, h3, h4, h5, h6, h7⟩ := ih
  refine ⟨w', by simp only [storeCells, Sem.run_bind, hst, Result.andThen_ok, hrun], h2, h3, h4, by rw [h5]; simp, ?_, fun k hk => by rw [h7 k hk, Below.heap_setCell _ _ _ _ (by simpa using hk)]⟩
  rw [h6]
  simp only [putRow, Array.toList_set, Option.some.injEq, Obj.cells.injEq, and_true, Array.mk.injEq]
  rw [set_at _ _ _ (by simpa using hlt)]
  have e1 : o + (i + 1) = o + i + 1 := by omega
  rw [e1]
  simp only [List.length_cons]
  have hlen : (C.toList.take (o + i)).length = o + i := by simp; omega
  rw [List.take_append, List.drop_append, hlen]
  simp only [List.take_take, List.append_assoc]
  have e2 : min (o + i + 1) (o + i) = o + i := by omega
  have e3 : o + i + 1 - (o + i) = 1 := by omega
  have e4 : o + i + 1 + r.length - (o + i) = r.length + 1 := by omega
  rw [e2, e3, e4, show List.drop (o + i + 1 + r.length) (List.take (o + i) C.toList) = [] from List.drop_eq_nil_of_le (by rw [hlen]; omega)]
  simp
  congr 1
  omega
section store
variable {P : Program} {ρ : Map} {H : Heap} {w : World}
omit [Sg] in
theorem win_put {C : Array Value} {e : Emb} {o : Nat} {vs : List Value} (hs : e.size <= e.room) (hC : C.size = e.base + e.room) (ho : o + vs.length <= e.size) :
  win (putRow C (e.base + o) vs) e = (win C e).take o ++ (vs ++ (win C e).drop (o + vs.length)) := by
 have hC' : C.toList.length = e.base + e.room := by simpa using hC
 apply List.ext_getElem?
 intro i
 unfold win putRow
 simp only [List.getElem?_take, List.getElem?_drop, List.getElem?_append, List.length_take, List.length_drop, hC']
 by_cases h1 : i < o
 ·
  have a1 : e.base + i < min (e.base + o) (e.base + e.room) := by omega
  have a2 : i < min o (min e.size (e.base + e.room - e.base)) := by omega
  have a3 : i < e.size := by omega
  have a4 : i < min o e.room := by omega
  have a5 : i < min o (min e.size e.room) := by omega
  simp [a3, a4, a5]
 ·
  have a1 : ¬ e.base + i < min (e.base + o) (e.base + e.room) := by omega
  have a2 : ¬ i < min o (min e.size (e.base + e.room - e.base)) := by omega
  have m1 : min (e.base + o) (e.base + e.room) = e.base + o := by omega
  have m2 : min o (min e.size (e.base + e.room - e.base)) = o := by omega
  have d1 : e.base + i - (e.base + o) = i - o := by omega
  simp only [m1, m2, d1]
  by_cases h2 : i - o < vs.length
  ·
   have a3 : i < e.size := by omega
   simp [h2, a3]
  ·
   by_cases h3 : i < e.size
   ·
    have b1 : o + vs.length + (i - o - vs.length) < e.size := by omega
    have b2 : e.base + o + vs.length + (i - o - vs.length) = e.base + i := by omega
    have b3 : e.base + (o + vs.length + (i - o - vs.length)) = e.base + i := by omega
    simp [h2, h3, b1, b2, b3]
   ·
    have b1 : ¬ o + vs.length + (i - o - vs.length) < e.size := by omega
    simp [h2, h3, b1]
theorem HR.turn' (hH : HR P ρ H w) {b : Nat} {x x' : Blk} {e : Emb} {w' : World} (hx : H.get b = some x) (he : ρ b = some e) (hw : wr x = true)
  (os : w'.os = w.os) (tape : w'.tape = w.tape) (out : w'.output = w.output) (size : w'.heap.size = w.heap.size) (ho : BR P ρ e x' w'.heap[e.B]?) (hk : ∀ k, k ≠ e.B -> w'.heap[k]? = w.heap[k]?) (S : Nat -> Prop) :
  HR P ρ (H.set b x') w' /\ Step S ρ H w ρ (H.set b x') w' := by
 have hlim : ∀ c e, ρ c = some e -> c < 2 ^ 64 := fun c e hc => Nat.lt_of_lt_of_le (hH.dom c e hc) hH.lim
 have hb := hlim b e he
 have get : ∀ c y f, (H.set b x').get c = some y -> ρ c = some f -> (c = b /\ y = x') \/ (c ≠ b /\ H.get c = some y) := by
  intro c y f hc hf
  by_cases hcb : c = b
  ·
   subst hcb; rw [Heap.get_set_same] at hc; exact .inl ⟨rfl, (Option.some.inj hc).symm⟩
  ·
   rw [Heap.get_set_other _ _ _ _ hb (hlim c f hf) hcb] at hc; exact .inr ⟨hcb, hc⟩
 have old : ∀ c y f, (H.set b x').get c = some y -> ρ c = some f -> ∃ z, H.get c = some z /\ (wr y = true -> wr z = true) := by
  intro c y f hc hf
  rcases get c y f hc hf with ⟨rfl, _⟩ | ⟨_, h⟩
  ·
   exact ⟨x, hx, fun _ => hw⟩
  ·
   exact ⟨y, h, id⟩
 refine ⟨⟨fun c y f hc hf => ?_, fun c d y z f g hc hd hf hg hy hB => ?_, hH.dom, hH.lim, fun c hc => by rw [Heap.get_set_ne (by have := hH.dom b e he; have : H.next <= c := hc; omega)]; exact hH.top c hc⟩, ⟨fun _ => .inl rfl, os, tape, out, Nat.le_of_eq size.symm, fun B hB hn => ?_, fun B hB hW => ?_, Nat.le_refl _, fun B hB hM => ?_, fun c hc _ => ?_, fun c hc _ => ?_⟩⟩
 ·
  rcases get c y f hc hf with ⟨rfl, rfl⟩ | ⟨hcb, hc'⟩
  ·
   rw [he] at hf; cases hf; exact ho
  ·
   have hne : f.B ≠ e.B := fun h => hcb (hH.inj b c x y e f hx hc' he hf hw h.symm).symm
   rw [hk _ hne]; exact hH.blk c y f hc' hf
 ·
  obtain ⟨y0, hy0, hwy⟩ := old c y f hc hf
  obtain ⟨z0, hz0, _⟩ := old d z g hd hg
  exact hH.inj c d y0 z0 f g hy0 hz0 hf hg (hwy hy) hB
 ·
  exact hk B fun h => hn ⟨b, x, e, hx, he, h.symm, hw⟩
 ·
  obtain ⟨c, y, f, hc, hf, hB', hy⟩ := hW
  obtain ⟨y0, hy0, hwy⟩ := old c y f hc hf
  exact ⟨c, y0, f, hy0, hf, hB', hwy hy⟩
 ·
  obtain ⟨c, y, f, hc, hf, hB'⟩ := hM
  obtain ⟨y0, hy0, _⟩ := old c y f hc hf
  exact ⟨c, y0, f, hy0, hf, hB'⟩
 ·
  exact Heap.get_set_ne fun e => by rw [e, he] at hc; cases hc
 ·
  rw [Heap.get_set_ne fun e => by rw [e, hx] at hc; cases hc]; exact hc
theorem HR.turn (hH : HR P ρ H w) {b : Nat} {x x' : Blk} {e : Emb} {w' : World} (hx : H.get b = some x) (he : ρ b = some e) (hw : wr x = true) (_ : wr x' = true)
  (os : w'.os = w.os) (tape : w'.tape = w.tape) (out : w'.output = w.output) (size : w'.heap.size = w.heap.size) (ho : BR P ρ e x' w'.heap[e.B]?) (hk : ∀ k, k ≠ e.B -> w'.heap[k]? = w.heap[k]?) (S : Nat -> Prop) :
  HR P ρ (H.set b x') w' /\ Step S ρ H w ρ (H.set b x') w' := hH.turn' hx he hw os tape out size ho hk S
theorem HR.store (hH : HR P ρ H w) {a a' : Addr} (ha : AR ρ a a') {vs vs' : List Value} {H' : Heap} (h : storeAt H a vs = some H') (hv : VL ρ vs vs') (h1 : ∀ v ∈ vs', v.oneCell' = true) (S : Nat -> Prop) :
  ∃ w', (storeCells a' vs').run P w = .ok () w' /\ HR P ρ H' w' /\ Step S ρ H w ρ H' w' := by
 obtain ⟨e, he, hs, rfl⟩ := ha
 unfold storeAt at h
 rw [chk_eq] at h
 obtain ⟨_, h⟩ := h
 rw [bnd_eq] at h
 obtain ⟨x, hx, h⟩ := h
 rw [bnd_eq] at h
 obtain ⟨⟨cs, elem, ro⟩, hc, h⟩ := h
 rw [cellsOf_eq] at hc
 rw [chk_eq] at h
 obtain ⟨hro, h⟩ := h
 rw [bnd_eq] at h
 obtain ⟨cs', hcs, h⟩ := h
 unfold writeAt at hcs
 rw [writeAt_eq] at hcs
 obtain ⟨hn, rfl⟩ := hcs
 simp only [Option.some.injEq] at h
 dsimp only at hn h hro hc
 subst h hc
 have hro' := isRw_eq hro
 subst hro'
 have hb := hH.blk _ _ _ hx he
 generalize hg : w.heap[e.B]? = g at hb
 cases hb with
 | cells hi hk hs' hr hC hf hv' h1' hmodb =>
  rename_i C fr i
  have hlen := hv.length
  obtain ⟨w', hrun, h2, h3, h4, h5, h6, h7⟩ := run_storeCells_row P e.B elem fr (e.base + a.off) vs' 0 C w hg (by omega) (hf rfl) h1
  refine ⟨w', hrun, ?_⟩
  have hput : win (putRow C (e.base + a.off) vs') e = _ := win_put hr hC (vs := vs') (o := a.off) (by omega)
  refine hH.turn hx he rfl rfl h2 h3 h4 h5 ?_ h7 S
  rw [h6]
  refine .cells hi hk ?_ hr ?_ ?_ ?_ ?_ hmodb
  ·
   simp only [List.length_append, List.length_take, List.length_drop]; omega
  ·
   simp [putRow]; omega
  ·
   intro _ j hj
   refine hf rfl j ?_
   simp [putRow] at hj; omega
  ·
   rw [Nat.add_zero, hput]
   exact hv'.write a.off hv
  ·
   rw [Nat.add_zero, hput]
   intro v hm
   rcases List.mem_append.1 hm with h | h
   ·
    exact h1' v (List.mem_of_mem_take h)
   ·
    rcases List.mem_append.1 h with h | h
    ·
     exact h1 v h
    ·
     exact h1' v (List.mem_of_mem_drop h)
end store
def ins (ρ : Map) (b : Nat) (e : Emb) : Map := fun c => if c = b then some e else ρ c
omit [Sg] in
theorem ins_same (ρ : Map) (b : Nat) (e : Emb) : ins ρ b e b = some e := by simp [ins]
omit [Sg] in
theorem ins_other (ρ : Map) {b c : Nat} (e : Emb) (h : c ≠ b) : ins ρ b e c = ρ c := by simp [ins, h]
omit [Sg] in
theorem Le.ins {ρ : Map} {b : Nat} (h : ρ b = none) (e : Emb) : Le ρ (ins ρ b e) := fun c f hc => by
 have : c ≠ b := fun hcb => by subst hcb; rw [h] at hc; cases hc
 rw [ins_other ρ e this]; exact hc
section fresh
variable {P : Program} {ρ : Map} {H : Heap} {w : World}
theorem HR.fresh (hH : HR P ρ H w) {id : Nat} (hid : ρ id = none) (hlt : id < H.next) {x : Blk} {e : Emb} {w' : World} {S : Nat -> Prop} (hS : S id) (heB : w.heap.size <= e.B)
  (os : w'.os = w.os) (tape : w'.tape = w.tape) (out : w'.output = w.output) (size : w.heap.size <= w'.heap.size) (ho : BR P (ins ρ id e) e x w'.heap[e.B]?)
  (hk : ∀ k, k < w.heap.size -> w'.heap[k]? = w.heap[k]?) :
  HR P (ins ρ id e) (H.set id x) w' /\ Step S ρ H w (ins ρ id e) (H.set id x) w' := by
 have hlim : ∀ c f, ρ c = some f -> c < 2 ^ 64 := fun c f hc => Nat.lt_of_lt_of_le (hH.dom c f hc) hH.lim
 have hid64 : id < 2 ^ 64 := Nat.lt_of_lt_of_le hlt hH.lim
 have get : ∀ c y f, (H.set id x).get c = some y -> ins ρ id e c = some f -> (c = id /\ y = x /\ f = e) \/ (c ≠ id /\ H.get c = some y /\ ρ c = some f) := by
  intro c y f hc hf
  by_cases hcb : c = id
  ·
   subst hcb; rw [Heap.get_set_same] at hc; rw [ins_same] at hf; exact .inl ⟨rfl, (Option.some.inj hc).symm, (Option.some.inj hf).symm⟩
  ·
   rw [ins_other ρ e hcb] at hf
   rw [Heap.get_set_other _ _ _ _ hid64 (hlim c f hf) hcb] at hc; exact .inr ⟨hcb, hc, hf⟩
 have lt : ∀ c y f, H.get c = some y -> ρ c = some f -> f.B < w.heap.size := by
  intro c y f hc hf
  have hb := hH.blk c y f hc hf
  rcases Nat.lt_or_ge f.B w.heap.size with h | h
  ·
   exact h
  ·
   rw [Array.getElem?_eq_none h] at hb; cases hb
 refine ⟨⟨fun c y f hc hf => ?_, fun c d y z f g hc hd hf hg hy hB => ?_, fun c f hf => ?_, hH.lim, fun c hc => by rw [Heap.get_set_ne (by have : H.next <= c := hc; omega)]; exact hH.top c hc⟩, ⟨fun c => ?_, os, tape, out, size, fun B hB _ => hk B hB, fun B hB hW => ?_, Nat.le_refl _, fun B hB hM => ?_, fun c _ hs => ?_, fun c hc hs => ?_⟩⟩
 ·
  rcases get c y f hc hf with ⟨rfl, rfl, rfl⟩ | ⟨_, hc', hf'⟩
  ·
   exact ho
  ·
   rw [hk _ (lt c y f hc' hf')]; exact (hH.blk c y f hc' hf').mono (Le.ins hid e)
 ·
  rcases get c y f hc hf with ⟨rfl, rfl, rfl⟩ | ⟨_, hc', hf'⟩
  ·
   rcases get d z g hd hg with ⟨rfl, _, _⟩ | ⟨_, hd', hg'⟩
   ·
    rfl
   ·
    have := lt d z g hd' hg'; omega
  ·
   rcases get d z g hd hg with ⟨rfl, rfl, rfl⟩ | ⟨_, hd', hg'⟩
   ·
    have := lt c y f hc' hf'; omega
   ·
    exact hH.inj c d y z f g hc' hd' hf' hg' hy hB
 ·
  by_cases hcb : c = id
  ·
   subst hcb; exact hlt
  ·
   rw [ins_other ρ e hcb] at hf; exact hH.dom c f hf
 ·
  by_cases hcb : c = id
  ·
   subst hcb; exact .inr ⟨hid, hS⟩
  ·
   exact .inl (ins_other ρ e hcb)
 ·
  obtain ⟨c, y, f, hc, hf, hB', hy⟩ := hW
  rcases get c y f hc hf with ⟨rfl, rfl, rfl⟩ | ⟨_, hc', hf'⟩
  ·
   omega
  ·
   exact ⟨c, y, f, hc', hf', hB', hy⟩
 ·
  obtain ⟨c, y, f, hc, hf, hB'⟩ := hM
  rcases get c y f hc hf with ⟨rfl, rfl, rfl⟩ | ⟨_, hc', hf'⟩
  ·
   omega
  ·
   exact ⟨c, y, f, hc', hf', hB'⟩
 ·
  exact Heap.get_set_ne fun e => hs (by rw [e]; exact hS)
 ·
  rw [Heap.get_set_ne fun e => hs (by rw [e]; exact hS)]; exact hc
theorem HR.drop (hH : HR P ρ H w) {b : Nat} {e : Emb} (he : ρ b = some e) (S : Nat -> Prop) : HR P ρ (H.del b) w /\ Step S ρ H w ρ (H.del b) w := by
 have hlim : ∀ c f, ρ c = some f -> c < 2 ^ 64 := fun c f hc => Nat.lt_of_lt_of_le (hH.dom c f hc) hH.lim
 have get : ∀ c y f, (H.del b).get c = some y -> ρ c = some f -> H.get c = some y := by
  intro c y f hc hf
  by_cases hcb : c = b
  ·
   subst hcb; rw [Heap.get_del_same] at hc; cases hc
  ·
   rwa [Heap.get_del_other _ _ _ (hlim b e he) (hlim c f hf) hcb] at hc
 refine ⟨⟨fun c y f hc hf => hH.blk c y f (get c y f hc hf) hf, fun c d y z f g hc hd hf hg hy hB => hH.inj c d y z f g (get c y f hc hf) (get d z g hd hg) hf hg hy hB, hH.dom, hH.lim, fun c hc => by rw [Heap.get_del_ne (by have := hH.dom b e he; have : H.next <= c := hc; omega)]; exact hH.top c hc⟩,
  ⟨fun _ => .inl rfl, rfl, rfl, rfl, Nat.le_refl _, fun _ _ _ => rfl, fun B _ ⟨c, y, f, hc, hf, hB, hy⟩ => ⟨c, y, f, get c y f hc hf, hf, hB, hy⟩, Nat.le_refl _,
   fun B _ ⟨c, y, f, hc, hf, hB⟩ => ⟨c, y, f, get c y f hc hf, hf, hB⟩, fun c hc _ => Heap.get_del_ne (fun e => by rw [e, he] at hc; cases hc),
   fun c hc _ => by
    by_cases h : c = b
    ·
     rw [h]; exact Heap.get_del_same _ _
    ·
     rw [Heap.get_del_ne h]; exact hc⟩⟩
theorem HR.renum (hH : HR P ρ H w) {b id : Nat} {x x' : Blk} {e e' : Emb} {w' : World} (hx : H.get b = some x) (he : ρ b = some e) (hw : wr x = true)
  (hid : ρ id = none) (hlt : id < H.next) (hB : e'.B = e.B) {S : Nat -> Prop} (hS : S id)
  (os : w'.os = w.os) (tape : w'.tape = w.tape) (out : w'.output = w.output) (size : w'.heap.size = w.heap.size) (ho : BR P (ins ρ id e') e' x' w'.heap[e.B]?)
  (hk : ∀ k, k ≠ e.B -> w'.heap[k]? = w.heap[k]?) :
  HR P (ins ρ id e') ((H.del b).set id x') w' /\ Step S ρ H w (ins ρ id e') ((H.del b).set id x') w' := by
 have hlim : ∀ c f, ρ c = some f -> c < 2 ^ 64 := fun c f hc => Nat.lt_of_lt_of_le (hH.dom c f hc) hH.lim
 have hid64 : id < 2 ^ 64 := Nat.lt_of_lt_of_le hlt hH.lim
 have get : ∀ c y f, ((H.del b).set id x').get c = some y -> ins ρ id e' c = some f -> (c = id /\ y = x' /\ f = e') \/ (c ≠ id /\ c ≠ b /\ H.get c = some y /\ ρ c = some f) := by
  intro c y f hc hf
  by_cases hcb : c = id
  ·
   subst hcb; rw [Heap.get_set_same] at hc; rw [ins_same] at hf; exact .inl ⟨rfl, (Option.some.inj hc).symm, (Option.some.inj hf).symm⟩
  ·
   rw [ins_other ρ e' hcb] at hf
   rw [Heap.get_set_other _ _ _ _ hid64 (hlim c f hf) hcb] at hc
   by_cases hcc : c = b
   ·
    subst hcc; rw [Heap.get_del_same] at hc; cases hc
   ·
    rw [Heap.get_del_other _ _ _ (hlim b e he) (hlim c f hf) hcc] at hc
    exact .inr ⟨hcb, hcc, hc, hf⟩
 have ne : ∀ c y f, c ≠ b -> H.get c = some y -> ρ c = some f -> f.B ≠ e.B := fun c y f hcb hc hf h => hcb (hH.inj b c x y e f hx hc he hf hw h.symm).symm
 refine ⟨⟨fun c y f hc hf => ?_, fun c d y z f g hc hd hf hg hy hB' => ?_, fun c f hf => ?_, hH.lim, fun c hc => by rw [Heap.get_set_ne (by have : H.next <= c := hc; omega), Heap.get_del_ne (by have := hH.dom b e he; have : H.next <= c := hc; omega)]; exact hH.top c hc⟩, ⟨fun c => ?_, os, tape, out, Nat.le_of_eq size.symm, fun B hB' hn => ?_, fun B hB' hW => ?_, Nat.le_refl _, fun B hB' hM => ?_, fun c hc hs => ?_, fun c hc hs => ?_⟩⟩
 ·
  rcases get c y f hc hf with ⟨rfl, rfl, rfl⟩ | ⟨_, hcb, hc', hf'⟩
  ·
   rw [hB]; exact ho
  ·
   rw [hk _ (ne c y f hcb hc' hf')]; exact (hH.blk c y f hc' hf').mono (Le.ins hid e')
 ·
  rcases get c y f hc hf with ⟨rfl, rfl, rfl⟩ | ⟨_, hcb, hc', hf'⟩
  ·
   rcases get d z g hd hg with ⟨rfl, _, _⟩ | ⟨_, hdb, hd', hg'⟩
   ·
    rfl
   ·
    exact (ne d z g hdb hd' hg' (by rw [<- hB', hB])).elim
  ·
   rcases get d z g hd hg with ⟨rfl, rfl, rfl⟩ | ⟨_, hdb, hd', hg'⟩
   ·
    exact (ne c y f hcb hc' hf' (by rw [hB', hB])).elim
   ·
    exact hH.inj c d y z f g hc' hd' hf' hg' hy hB'
 ·
  by_cases hcb : c = id
  ·
   subst hcb; exact hlt
  ·
   rw [ins_other ρ e' hcb] at hf; exact hH.dom c f hf
 ·
  by_cases hcb : c = id
  ·
   subst hcb; exact .inr ⟨hid, hS⟩
  ·
   exact .inl (ins_other ρ e' hcb)
 ·
  exact hk B fun h => hn ⟨b, x, e, hx, he, h.symm, hw⟩
 ·
  obtain ⟨c, y, f, hc, hf, hB'', hy⟩ := hW
  rcases get c y f hc hf with ⟨rfl, rfl, rfl⟩ | ⟨_, _, hc', hf'⟩
  ·
   exact ⟨b, x, e, hx, he, by rw [<- hB'', hB], hw⟩
  ·
   exact ⟨c, y, f, hc', hf', hB'', hy⟩
 ·
  obtain ⟨c, y, f, hc, hf, hB''⟩ := hM
  rcases get c y f hc hf with ⟨rfl, rfl, rfl⟩ | ⟨_, _, hc', hf'⟩
  ·
   exact ⟨b, x, e, hx, he, by rw [<- hB'', hB]⟩
  ·
   exact ⟨c, y, f, hc', hf', hB''⟩
 ·
  rw [Heap.get_set_ne fun e => hs (by rw [e]; exact hS), Heap.get_del_ne fun e => by rw [e, he] at hc; cases hc]
 ·
  rw [Heap.get_set_ne fun e => hs (by rw [e]; exact hS)]
  by_cases h : c = b
  ·
   rw [h]; exact Heap.get_del_same _ _
  ·
   rw [Heap.get_del_ne h]; exact hc
end fresh
end Go.Ev
namespace Go.Ev
variable [Sg]
omit [Sg] in
theorem uns_eq (k : IntKind) (x : Int) : uns k x = (x % (2 ^ k.bits : Int)).toNat := by
 have hM : ∀ (M : Nat), 0 < M -> Int.rec (motive := fun _ => Nat) (fun m => Nat.mod m M) (fun m => Nat.sub (Nat.sub M 1) (Nat.mod m M)) x = (x % (M : Int)).toNat := by
  intro M hM
  cases x with
  | ofNat m =>
   show m % M = (Int.ofNat m % (M : Int)).toNat
   rfl
  | negSucc m =>
   show M - 1 - m % M = _
   rw [Int.negSucc_emod _ (by omega)]
   have : m % M < M := Nat.mod_lt _ hM
   omega
 cases k <;> exact hM _ (by decide)
omit [Sg] in
theorem ofUns_signed (M Hf : Nat) (m : Int) (h0 : 0 <= m) (h1 : m < (M : Int)) :
  ifB (Nat.ble Hf m.toNat) (Int.negSucc (Nat.sub (Nat.sub M 1) m.toNat)) (Int.ofNat m.toNat) = if (Hf : Int) <= m then m - (M : Int) else m := by
 rw [ifB_eq]
 simp only [Nat.ble_eq, Nat.sub_eq, Int.negSucc_eq, Int.ofNat_eq_natCast]
 split <;> split <;> omega
def ofUns_signed_goal (M Hf : Nat) (n : Int) : Prop :=
 ifB (Nat.ble Hf (n % (M : Int)).toNat) (Int.negSucc (Nat.sub (Nat.sub M 1) (n % (M : Int)).toNat)) (Int.ofNat (n % (M : Int)).toNat) = if (Hf : Int) <= n % (M : Int) then n % (M : Int) - (M : Int) else n % (M : Int)
omit [Sg] in
theorem ofUns_eq (k : IntKind) (n : Int) : ofUns k (n % (2 ^ k.bits : Int)).toNat = k.wrap n := by
 have hs : ∀ (M Hf : Nat), 0 < M -> ofUns_signed_goal M Hf n := fun M Hf hM => ofUns_signed M Hf (n % (M : Int)) (Int.emod_nonneg _ (by omega)) (Int.emod_lt_of_pos _ (by omega))
 have hu : ∀ (M : Nat), 0 < M -> Int.ofNat (n % (M : Int)).toNat = n % (M : Int) := fun M hM => by
  have := Int.emod_nonneg n (b := (M : Int)) (by omega)
  simp only [Int.ofNat_eq_natCast]; omega
 cases k
 ·
  have := hs 256 128 (by decide); unfold ofUns_signed_goal at this; simpa [ofUns, ksigned, khalf, kmod, IntKind.wrap, IntKind.signed, IntKind.bits] using this
 ·
  have := hs 65536 32768 (by decide); unfold ofUns_signed_goal at this; simpa [ofUns, ksigned, khalf, kmod, IntKind.wrap, IntKind.signed, IntKind.bits] using this
 ·
  have := hs 4294967296 2147483648 (by decide); unfold ofUns_signed_goal at this; simpa [ofUns, ksigned, khalf, kmod, IntKind.wrap, IntKind.signed, IntKind.bits] using this
 ·
  have := hs 18446744073709551616 9223372036854775808 (by decide); unfold ofUns_signed_goal at this; simpa [ofUns, ksigned, khalf, kmod, IntKind.wrap, IntKind.signed, IntKind.bits] using this
 ·
  have := hu 256 (by decide); simpa [ofUns, ksigned, IntKind.wrap, IntKind.signed, IntKind.bits] using this
 ·
  have := hu 65536 (by decide); simpa [ofUns, ksigned, IntKind.wrap, IntKind.signed, IntKind.bits] using this
 ·
  have := hu 4294967296 (by decide); simpa [ofUns, ksigned, IntKind.wrap, IntKind.signed, IntKind.bits] using this
 ·
  have := hu 18446744073709551616 (by decide); simpa [ofUns, ksigned, IntKind.wrap, IntKind.signed, IntKind.bits] using this
omit [Sg] in
theorem wrapF_eq (k : IntKind) (n : Int) : wrapF k n = k.wrap n := by
 unfold wrapF; rw [uns_eq, ofUns_eq]
omit [Sg] in
theorem kn_eq {k k' : IntKind} (h : Nat.beq (kn k) (kn k') = true) : k = k' := by
 cases k <;> cases k' <;> first | rfl | cases h
omit [Sg] in
theorem ltI_eq (x y : Int) : ltI x y = decide (x < y) := by
 rw [Bool.eq_iff_iff, decide_eq_true_iff]
 cases x <;> cases y <;> simp only [ltI, Nat.ble_eq] <;> first | omega | (simp; try omega)
omit [Sg] in
theorem eqI_eq (x y : Int) : eqI x y = (x == y) := by
 rw [Bool.eq_iff_iff, beq_iff_eq]
 cases x <;> cases y <;> simp [eqI] <;> omega
omit [Sg] in
@[simp] theorem mkBool_eq (b : Bool) : mkBool b = some (.bool b) := by cases b <;> rfl
omit [Sg] in
@[simp] theorem mkInt_eq (k : IntKind) (n : Int) : mkInt k n = some (.int k n) := by simp [mkInt]
omit [Sg] in
@[simp] theorem wInt_eq (k : IntKind) (n : Int) : wInt k n = some (.int k (k.wrap n)) := by simp [wInt, wrapF_eq]
omit [Sg] in
theorem same_eq : ∀ (x y : List UInt8), same x y = (x == y)
 | [], [] => rfl
 | [], _ :: _ => rfl
 | _ :: _, [] => rfl
 | a :: x, b :: y => by
  show ifB (Nat.beq a.toNat b.toNat) (same x y) false = _
  have : Nat.beq a.toNat b.toNat = (a == b) := by
   rw [Bool.eq_iff_iff, beq_iff_eq, Nat.beq_eq, UInt8.toNat_inj]
  rw [this, same_eq x y, ifB_eq]
  show _ = (a == b && x == y)
  cases a == b <;> simp
omit [Sg] in
theorem less_eq : ∀ (x y : List UInt8), less x y = Op.bytesLess x y
 | [], [] => rfl
 | [], _ :: _ => rfl
 | _ :: _, [] => rfl
 | a :: x, b :: y => by
  show ifB (Nat.beq a.toNat b.toNat) (less x y) (Nat.ble (Nat.succ a.toNat) b.toNat) = (decide (a < b) || (a == b && Op.bytesLess x y))
  have h1 : Nat.beq a.toNat b.toNat = (a == b) := by
   rw [Bool.eq_iff_iff, beq_iff_eq, Nat.beq_eq, UInt8.toNat_inj]
  have h2 : Nat.ble (Nat.succ a.toNat) b.toNat = decide (a < b) := by
   rw [Bool.eq_iff_iff, decide_eq_true_iff, Nat.ble_eq, UInt8.lt_iff_toNat_lt]; rfl
  rw [h1, h2, less_eq x y, ifB_eq]
  by_cases h : a = b
  ·
   subst h; simp
  ·
   simp [h]
omit [Sg] in
theorem less_total : ∀ (x y : List UInt8), Op.bytesLess x y = !(Op.bytesLess y x || y == x)
 | [], [] => rfl
 | [], _ :: _ => rfl
 | _ :: _, [] => rfl
 | a :: x, b :: y => by
  have ih := less_total x y
  simp only [Op.bytesLess, List.cons_beq_cons]
  rcases Nat.lt_trichotomy a.toNat b.toNat with h | h | h
  ·
   have h1 : a < b := UInt8.lt_iff_toNat_lt.2 h
   have h2 : ¬ b < a := fun k => by have := UInt8.lt_iff_toNat_lt.1 k; omega
   have h3 : (b == a) = false := by rw [beq_eq_false_iff_ne]; rintro rfl; omega
   simp [h1, h2, h3]
  ·
   have h0 : a = b := UInt8.toNat_inj.1 h
   subst h0
   have h2 : ¬ a < a := fun k => by have := UInt8.lt_iff_toNat_lt.1 k; omega
   simp [h2, ih]
  ·
   have h1 : b < a := UInt8.lt_iff_toNat_lt.2 h
   have h2 : ¬ a < b := fun k => by have := UInt8.lt_iff_toNat_lt.1 k; omega
   have h3 : (a == b) = false := by rw [beq_eq_false_iff_ne]; rintro rfl; omega
   simp [h1, h2, h3]
omit [Sg] in
theorem toList_data (s : ByteArray) : s.toList = s.data.toList := ByteArray.toList_eq s
omit [Sg] in
theorem append_mk (x y : ByteArray) : x ++ y = ⟨⟨x.data.toList ++ y.data.toList⟩⟩ := by
 have : (x ++ y).data = x.data ++ y.data := by simp
 cases h : x ++ y with
 | mk d => rw [h] at this; simp only at this; subst this; congr 1; apply Array.ext'; simp
end Go.Ev
