/- Texts made of others and pressed texts, as the chapters 4 and 9 have them: the functions that both programs compute. -/
namespace Go.Ev
def numL (n : Nat) : List UInt8 := if n < 128 then [UInt8.ofNat n] else [UInt8.ofNat (n / 128 - 1 + 128), UInt8.ofNat (n % 128)]
theorem numL_le (n : Nat) : (numL n).length <= 2 := by unfold numL; split <;> simp
def cutL (l : List UInt8) (a w : Nat) : List UInt8 := (l.drop a).take w
theorem cutL_len {l : List UInt8} {a w : Nat} (h : a + w <= l.length) : (cutL l a w).length = w := by unfold cutL; rw [List.length_take, List.length_drop]; omega
def sameL (x y : List UInt8) (a b : Nat) : Nat -> Nat -> Nat
  | 0, n => n
  | f + 1, n => if a + n < x.length /\ b + n < y.length /\ x[a + n]? = y[b + n]? then sameL x y a b f (n + 1) else n
theorem sameL_le {x y : List UInt8} {a b : Nat} : ∀ (f n : Nat), a + n <= x.length -> a + sameL x y a b f n <= x.length /\ n <= sameL x y a b f n
  | 0, n, h => ⟨h, Nat.le_refl _⟩
  | f + 1, n, h => by
    unfold sameL
    split
    . rename_i hc
      have := sameL_le (b := b) (y := y) f (n + 1) (by omega : a + (n + 1) <= x.length)
      omega
    . exact ⟨h, Nat.le_refl _⟩
def lastL (s g : List UInt8) : Nat -> Option Nat
  | 0 => none
  | n + 1 => if n + 4 <= s.length /\ cutL s n 4 = g then some n else lastL s g n
theorem lastL_lt {s g : List UInt8} : ∀ {n k : Nat}, lastL s g n = some k -> k < n /\ k + 4 <= s.length /\ cutL s k 4 = g
  | n + 1, k, h => by
    unfold lastL at h
    split at h
    . rename_i hc; cases h; exact ⟨Nat.lt_succ_self _, hc.1, hc.2⟩
    . have := lastL_lt h; exact ⟨Nat.lt_succ_of_lt this.1, this.2⟩
def pressR (s : List UInt8) : Nat -> Nat -> Nat -> List UInt8
  | 0, fr, _ => if fr < s.length then numL (s.length - fr) ++ s.drop fr else []
  | f + 1, fr, a =>
    if s.length <= a then (if fr < s.length then numL (s.length - fr) ++ s.drop fr else [])
    else match (if a + 4 <= s.length then lastL s (cutL s a 4) a else none) with
      | none => pressR s f fr (a + 1)
      | some k => numL (a - fr) ++ cutL s fr (a - fr) ++ numL (a - k) ++ numL (sameL s s a k s.length 4 - 4) ++ pressR s f (a + sameL s s a k s.length 4) (a + sameL s s a k s.length 4)
def pressL (s : List UInt8) : List UInt8 := numL s.length ++ pressR s s.length 0 0
theorem pressR_more (s : List UInt8) : ∀ (f g fr a : Nat), s.length - a <= f -> s.length - a <= g -> pressR s f fr a = pressR s g fr a
  | 0, 0, _, _, _, _ => rfl
  | 0, g + 1, fr, a, hf, _ => by
    unfold pressR
    rw [if_pos (show s.length <= a by omega)]
  | f + 1, 0, fr, a, _, hg => by
    unfold pressR
    rw [if_pos (show s.length <= a by omega)]
  | f + 1, g + 1, fr, a, hf, hg => by
    unfold pressR
    split
    . rfl
    . split
      . exact pressR_more s f g fr (a + 1) (by omega) (by omega)
      . rename_i k hk
        split at hk
        . rename_i h4
          have h1 := (sameL_le (x := s) (y := s) (a := a) (b := k) s.length 4 h4).2
          rw [pressR_more s f g _ _ (by omega) (by omega)]
        . cases hk
theorem pressR_len (s : List UInt8) : ∀ (f fr a : Nat), fr <= a -> a <= s.length -> (pressR s f fr a).length <= (s.length - fr) + 6 * (s.length - a) + 2
  | 0, fr, a, h1, h2 => by
    unfold pressR
    split
    . have := numL_le (s.length - fr)
      simp only [List.length_append, List.length_drop] at this ⊢
      omega
    . simp
  | f + 1, fr, a, h1, h2 => by
    unfold pressR
    split
    . split
      . have := numL_le (s.length - fr)
        simp only [List.length_append, List.length_drop] at this ⊢
        omega
      . simp
    . split
      . have := pressR_len s f fr (a + 1) (by omega) (by omega)
        omega
      . rename_i k hk
        split at hk
        . have h3 := sameL_le (x := s) (y := s) (a := a) (b := k) s.length 4 (by assumption)
          have := pressR_len s f _ _ (Nat.le_refl (a + sameL s s a k s.length 4)) (by omega)
          have h4 := numL_le (a - fr)
          have h5 := numL_le (a - k)
          have h6 := numL_le (sameL s s a k s.length 4 - 4)
          have h7 := cutL_len (l := s) (a := fr) (w := a - fr) (by omega)
          simp only [List.length_append]
          omega
        . cases hk
end Go.Ev
namespace Go.Ev
def unnumR : List UInt8 -> Nat -> Nat -> Option (Nat × Nat)
 | [], _, _ => none
 | c :: l, i, n => if i = 9 then none else if c.toNat < 128 then some (n * 128 + c.toNat % 128, i + 1) else unnumR l (i + 1) (n * 128 + c.toNat % 128 + 1)
def unnumL (l : List UInt8) : Option (Nat × Nat) := unnumR l 0 0
theorem unnum_num {v : Nat} (h : v < 16512) (l : List UInt8) : unnumL (numL v ++ l) = some (v, (numL v).length) := by
 unfold unnumL numL
 split
 ·
  rename_i h1
  have e : (UInt8.ofNat v).toNat = v := by rw [UInt8.toNat_ofNat']; omega
  simp only [List.cons_append, List.nil_append, unnumR, e]
  rw [if_neg (by omega), if_pos h1]
  simp only [List.length_cons, List.length_nil, Option.some.injEq, Prod.mk.injEq, and_true]
  omega
 ·
  rename_i h1
  have e1 : (UInt8.ofNat (v / 128 - 1 + 128)).toNat = v / 128 - 1 + 128 := by rw [UInt8.toNat_ofNat']; omega
  have e2 : (UInt8.ofNat (v % 128)).toNat = v % 128 := by rw [UInt8.toNat_ofNat']; omega
  simp only [List.cons_append, List.nil_append, unnumR, e1, e2]
  rw [if_neg (by omega), if_neg (by omega), if_neg (by omega), if_pos (by omega)]
  simp only [List.length_cons, List.length_nil, Option.some.injEq, Prod.mk.injEq, and_true]
  omega
def takS (l : List UInt8) (most : Nat) : Option (Nat × List UInt8) := match unnumL l with
 | some (v, k) => if v <= most then some (v, l.drop k) else none
 | none => none
theorem take_num {v most : Nat} (h : v < 16512) (hm : v <= most) (l : List UInt8) : takS (numL v ++ l) most = some (v, l) := by
 unfold takS
 rw [unnum_num h]
 simp [hm]
def repS (back : Nat) : Nat -> List UInt8 -> List UInt8
 | 0, out => out
 | m + 1, out => repS back m (out ++ [out.getD (out.length - back) 0])
def spreadR (n : Nat) : Nat -> List UInt8 -> List UInt8 -> Option (List UInt8)
 | 0, _, _ => none
 | f + 1, t, out =>
  if n <= out.length then (if t = [] then some out else none)
  else match takS t (n - out.length) with
   | none => none
   | some (c, t1) =>
    if t1.length < c then none
    else if (out ++ t1.take c).length = n then (if t1.drop c = [] then some (out ++ t1.take c) else none)
    else match takS (t1.drop c) 32768 with
     | none => none
     | some (k, t3) => match takS t3 (n - (out ++ t1.take c).length) with
      | none => none
      | some (m, t4) => if m + 4 <= n - (out ++ t1.take c).length /\ 1 <= k /\ k <= (out ++ t1.take c).length then spreadR n f t4 (repS k (m + 4) (out ++ t1.take c)) else none
def spreadL (p : List UInt8) (most : Nat) : Option (List UInt8) := match takS p 1048576 with
 | none => none
 | some (n, t) => if most < n then none else spreadR n (n + 1) t []
theorem sameL_eq {x y : List UInt8} {a b : Nat} : ∀ (f n i : Nat), n <= i -> i < sameL x y a b f n -> x[a + i]? = y[b + i]?
 | 0, n, i, h1, h2 => by unfold sameL at h2; omega
 | f + 1, n, i, h1, h2 => by
  unfold sameL at h2
  split at h2
  ·
   rename_i hc
   by_cases hi : i = n
   ·
    subst hi; exact hc.2.2
   ·
    exact sameL_eq f (n + 1) i (by omega) h2
  ·
   omega
theorem cutL_get {l : List UInt8} {a w i : Nat} (h : i < w) : (cutL l a w)[i]? = l[a + i]? := by
 unfold cutL
 rw [List.getElem?_take_of_lt h, List.getElem?_drop]
theorem rep_same {s : List UInt8} {a k : Nat} (hk : k < a) : ∀ (m : Nat), a + m <= s.length -> (∀ i, i < m -> s[a + i]? = s[k + i]?) -> repS (a - k) m (s.take a) = s.take (a + m)
 | 0, _, _ => by simp [repS]
 | m + 1, h1, h2 => by
  have e0 := h2 0 (by omega)
  have hl : (s.take a).length = a := by rw [List.length_take]; omega
  have e1 : s.take a ++ [(s.take a).getD ((s.take a).length - (a - k)) 0] = s.take (a + 1) := by
   rw [hl, show a - (a - k) = k by omega, List.getD_eq_getElem?_getD, List.getElem?_take_of_lt hk]
   have : s[k]? = s[a]? := by simpa using e0.symm
   rw [this, List.getElem?_eq_getElem (by omega), Option.getD_some, List.take_add_one, List.getElem?_eq_getElem (by omega)]
   rfl
  unfold repS
  rw [e1, show a - k = (a + 1) - (k + 1) by omega, rep_same (by omega) m (by omega) (fun i hi => by
   have := h2 (i + 1) (by omega)
   rwa [show a + (i + 1) = a + 1 + i by omega, show k + (i + 1) = k + 1 + i by omega] at this)]
  congr 1
  omega
theorem spread_end {s : List UInt8} (hs : s.length < 16512) {fr a f : Nat} {p : List UInt8} (h1 : fr <= a) (h2 : a <= s.length) (hp : p = if fr < s.length then numL (s.length - fr) ++ s.drop fr else []) : spreadR s.length (f + 1) p (s.take fr) = some s := by
 have hl : (s.take fr).length = fr := by rw [List.length_take]; omega
 by_cases h : fr < s.length
 ·
  rw [if_pos h] at hp
  subst hp
  unfold spreadR
  rw [if_neg (by omega), take_num (by omega) (by omega)]
  simp only
  have hd : (s.drop fr).length = s.length - fr := List.length_drop
  have e : s.take fr ++ (s.drop fr).take (s.length - fr) = s := by rw [List.take_of_length_le (l := s.drop fr) (by omega), List.take_append_drop]
  rw [if_neg (by omega), e, if_pos rfl, if_pos (List.drop_of_length_le (by omega))]
 ·
  rw [if_neg h] at hp
  subst hp
  unfold spreadR
  rw [if_pos (by omega), if_pos rfl, List.take_of_length_le (by omega)]
theorem spread_pressR {s : List UInt8} (hs : s.length < 16512) : ∀ (g fr a f : Nat), fr <= a -> a <= s.length -> s.length - a <= g -> s.length - fr < f -> spreadR s.length f (pressR s g fr a) (s.take fr) = some s
 | g, fr, a, 0, _, _, _, h => by omega
 | 0, fr, a, f + 1, h1, h2, h3, h4 => spread_end hs h1 h2 (by unfold pressR; rfl)
 | g + 1, fr, a, f + 1, h1, h2, h3, h4 => by
  by_cases ha : s.length <= a
  ·
   exact spread_end hs h1 h2 (by unfold pressR; rw [if_pos ha])
  ·
   unfold pressR
   rw [if_neg ha]
   split
   ·
    exact spread_pressR hs g fr (a + 1) (f + 1) (by omega) (by omega) (by omega) h4
   ·
    rename_i k hk
    split at hk
    ·
     rename_i h5
     obtain ⟨k1, k2, k3⟩ := lastL_lt hk
     have h6 := sameL_le (x := s) (y := s) (a := a) (b := k) s.length 4 h5
     have hl : (s.take fr).length = fr := by rw [List.length_take]; omega
     have hc := cutL_len (l := s) (a := fr) (w := a - fr) (by omega)
     have hsame : ∀ i, i < sameL s s a k s.length 4 -> s[a + i]? = s[k + i]? := fun i hi => by
      by_cases h4i : i < 4
      ·
       have := congrArg (fun l => l[i]?) k3
       simp only [cutL_get h4i] at this
       exact this.symm
      ·
       exact sameL_eq _ _ i (by omega) hi
     have ho : s.take fr ++ cutL s fr (a - fr) = s.take a := by
      unfold cutL
      rw [<- List.take_append_drop fr (s.take a), List.take_take, Nat.min_eq_left h1, List.drop_take]
     unfold spreadR
     rw [if_neg (by omega), List.append_assoc, List.append_assoc, List.append_assoc, take_num (by omega) (by omega)]
     simp only
     rw [if_neg (by simp only [List.length_append, hc]; omega)]
     have e1 : ∀ r : List UInt8, (cutL s fr (a - fr) ++ r).take (a - fr) = cutL s fr (a - fr) := fun r => by rw [List.take_append_of_le_length (by omega), List.take_of_length_le (by omega)]
     have e2 : ∀ r : List UInt8, (cutL s fr (a - fr) ++ r).drop (a - fr) = r := fun r => by rw [List.drop_append_of_le_length (by omega), List.drop_of_length_le (by omega), List.nil_append]
     rw [e1, e2, ho]
     have hla : (s.take a).length = a := by rw [List.length_take]; omega
     rw [if_neg (by omega), take_num (by omega) (by omega)]
     simp only
     rw [take_num (by omega) (by omega)]
     simp only
     rw [if_pos (by omega), show sameL s s a k s.length 4 - 4 + 4 = sameL s s a k s.length 4 by omega, rep_same k1 _ h6.1 hsame]
     exact spread_pressR hs g _ _ f (Nat.le_refl _) h6.1 (by omega) (by omega)
    ·
     cases hk
theorem spread_press {s : List UInt8} (hs : s.length < 16512) {most : Nat} (hm : s.length <= most) : spreadL (pressL s) most = some s := by
 unfold spreadL pressL
 rw [take_num hs (by omega)]
 simp only
 rw [if_neg (by omega)]
 have := spread_pressR hs s.length 0 0 (s.length + 1) (Nat.le_refl _) (Nat.zero_le _) (Nat.le_refl _) (by omega)
 simpa using this
end Go.Ev
