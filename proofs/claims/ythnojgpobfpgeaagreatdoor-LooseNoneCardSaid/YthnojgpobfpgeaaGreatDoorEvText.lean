/- Texts made of others and pressed texts, as the chapters 4 and 9 have them: the functions that both programs compute. -/
/-! Texts made of others and pressed texts, as the chapters 4 and 9 have them: the functions that both programs compute. -/
namespace Go.Ev

/-- A number's bytes, below 16,512. -/
def numL (n : Nat) : List UInt8 := if n < 128 then [UInt8.ofNat n] else [UInt8.ofNat (n / 128 - 1 + 128), UInt8.ofNat (n % 128)]
theorem numL_le (n : Nat) : (numL n).length ≤ 2 := by unfold numL; split <;> simp

/-- the w bytes at a place -/
def cutL (l : List UInt8) (a w : Nat) : List UInt8 := (l.drop a).take w
theorem cutL_len {l : List UInt8} {a w : Nat} (h : a + w ≤ l.length) : (cutL l a w).length = w := by unfold cutL; rw [List.length_take, List.length_drop]; omega

/-- how many bytes of two texts are the same, from two places on, when n are so already -/
def sameL (x y : List UInt8) (a b : Nat) : Nat → Nat → Nat
  | 0, n => n
  | f + 1, n => if a + n < x.length ∧ b + n < y.length ∧ x[a + n]? = y[b + n]? then sameL x y a b f (n + 1) else n
theorem sameL_le {x y : List UInt8} {a b : Nat} : ∀ (f n : Nat), a + n ≤ x.length → a + sameL x y a b f n ≤ x.length ∧ n ≤ sameL x y a b f n
  | 0, n, h => ⟨h, Nat.le_refl _⟩
  | f + 1, n, h => by
    unfold sameL
    split
    · rename_i hc
      have := sameL_le (b := b) (y := y) f (n + 1) (by omega : a + (n + 1) ≤ x.length)
      omega
    · exact ⟨h, Nat.le_refl _⟩

/-- the last place below n at which these four bytes stand -/
def lastL (s g : List UInt8) : Nat → Option Nat
  | 0 => none
  | n + 1 => if n + 4 ≤ s.length ∧ cutL s n 4 = g then some n else lastL s g n
theorem lastL_lt {s g : List UInt8} : ∀ {n k : Nat}, lastL s g n = some k → k < n ∧ k + 4 ≤ s.length ∧ cutL s k 4 = g
  | n + 1, k, h => by
    unfold lastL at h
    split at h
    · rename_i hc; cases h; exact ⟨Nat.lt_succ_self _, hc.1, hc.2⟩
    · have := lastL_lt h; exact ⟨Nat.lt_succ_of_lt this.1, this.2⟩

/-- the pressed text's rest: what lies from `from_` on is not yet put, and at `a` it is looked -/
def pressR (s : List UInt8) : Nat → Nat → Nat → List UInt8
  | 0, fr, _ => if fr < s.length then numL (s.length - fr) ++ s.drop fr else []
  | f + 1, fr, a =>
    if s.length ≤ a then (if fr < s.length then numL (s.length - fr) ++ s.drop fr else [])
    else match (if a + 4 ≤ s.length then lastL s (cutL s a 4) a else none) with
      | none => pressR s f fr (a + 1)
      | some k => numL (a - fr) ++ cutL s fr (a - fr) ++ numL (a - k) ++ numL (sameL s s a k s.length 4 - 4) ++ pressR s f (a + sameL s s a k s.length 4) (a + sameL s s a k s.length 4)
def pressL (s : List UInt8) : List UInt8 := numL s.length ++ pressR s s.length 0 0
theorem pressR_more (s : List UInt8) : ∀ (f g fr a : Nat), s.length - a ≤ f → s.length - a ≤ g → pressR s f fr a = pressR s g fr a
  | 0, 0, _, _, _, _ => rfl
  | 0, g + 1, fr, a, hf, _ => by
    unfold pressR
    rw [if_pos (show s.length ≤ a by omega)]
  | f + 1, 0, fr, a, _, hg => by
    unfold pressR
    rw [if_pos (show s.length ≤ a by omega)]
  | f + 1, g + 1, fr, a, hf, hg => by
    unfold pressR
    split
    · rfl
    · split
      · exact pressR_more s f g fr (a + 1) (by omega) (by omega)
      · rename_i k hk
        split at hk
        · rename_i h4
          have h1 := (sameL_le (x := s) (y := s) (a := a) (b := k) s.length 4 h4).2
          rw [pressR_more s f g _ _ (by omega) (by omega)]
        · cases hk

theorem pressR_len (s : List UInt8) : ∀ (f fr a : Nat), fr ≤ a → a ≤ s.length → (pressR s f fr a).length ≤ (s.length - fr) + 6 * (s.length - a) + 2
  | 0, fr, a, h1, h2 => by
    unfold pressR
    split
    · have := numL_le (s.length - fr)
      simp only [List.length_append, List.length_drop] at this ⊢
      omega
    · simp
  | f + 1, fr, a, h1, h2 => by
    unfold pressR
    split
    · split
      · have := numL_le (s.length - fr)
        simp only [List.length_append, List.length_drop] at this ⊢
        omega
      · simp
    · split
      · have := pressR_len s f fr (a + 1) (by omega) (by omega)
        omega
      · rename_i k hk
        split at hk
        · have h3 := sameL_le (x := s) (y := s) (a := a) (b := k) s.length 4 (by assumption)
          have := pressR_len s f _ _ (Nat.le_refl (a + sameL s s a k s.length 4)) (by omega)
          have h4 := numL_le (a - fr)
          have h5 := numL_le (a - k)
          have h6 := numL_le (sameL s s a k s.length 4 - 4)
          have h7 := cutL_len (l := s) (a := fr) (w := a - fr) (by omega)
          simp only [List.length_append]
          omega
        · cases hk
end Go.Ev
