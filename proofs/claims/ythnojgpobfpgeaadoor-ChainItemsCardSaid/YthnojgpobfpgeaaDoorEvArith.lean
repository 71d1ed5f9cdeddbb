/- Integers and strings: the evaluator's own operations are the model's. -/
import Derived.Test.YthnojgpobfpgeaaDoorEvMem
import Derived.Laws.Strings
/-! Integers and strings: the evaluator's own operations are the model's. -/
namespace Go.Ev
variable [Sg]

omit [Sg] in
theorem uns_eq (k : IntKind) (x : Int) : uns k x = (x % (2 ^ k.bits : Int)).toNat := by
 have hM : ∀ (M : Nat), 0 < M → Int.rec (motive := fun _ => Nat) (fun m => Nat.mod m M) (fun m => Nat.sub (Nat.sub M 1) (Nat.mod m M)) x = (x % (M : Int)).toNat := by
  intro M hM
  cases x with
  | ofNat m =>
   show m % M = (Int.ofNat m % (M : Int)).toNat
   rfl
  | negSucc m =>
   show M - 1 - m % M = _
   rw [Int.negSucc_emod _ (by omega)]
   have : m % M < M := Nat.mod_lt _ hM
   omega
 cases k <;> exact hM _ (by decide)

omit [Sg] in
theorem ofUns_signed (M Hf : Nat) (m : Int) (h0 : 0 ≤ m) (h1 : m < (M : Int)) :
  ifB (Nat.ble Hf m.toNat) (Int.negSucc (Nat.sub (Nat.sub M 1) m.toNat)) (Int.ofNat m.toNat) = if (Hf : Int) ≤ m then m - (M : Int) else m := by
 rw [ifB_eq]
 simp only [Nat.ble_eq, Nat.sub_eq, Int.negSucc_eq, Int.ofNat_eq_natCast]
 split <;> split <;> omega

def ofUns_signed_goal (M Hf : Nat) (n : Int) : Prop :=
 ifB (Nat.ble Hf (n % (M : Int)).toNat) (Int.negSucc (Nat.sub (Nat.sub M 1) (n % (M : Int)).toNat)) (Int.ofNat (n % (M : Int)).toNat) = if (Hf : Int) ≤ n % (M : Int) then n % (M : Int) - (M : Int) else n % (M : Int)

omit [Sg] in
theorem ofUns_eq (k : IntKind) (n : Int) : ofUns k (n % (2 ^ k.bits : Int)).toNat = k.wrap n := by
 have hs : ∀ (M Hf : Nat), 0 < M → ofUns_signed_goal M Hf n := fun M Hf hM => ofUns_signed M Hf (n % (M : Int)) (Int.emod_nonneg _ (by omega)) (Int.emod_lt_of_pos _ (by omega))
 have hu : ∀ (M : Nat), 0 < M → Int.ofNat (n % (M : Int)).toNat = n % (M : Int) := fun M hM => by
  have := Int.emod_nonneg n (b := (M : Int)) (by omega)
  simp only [Int.ofNat_eq_natCast]; omega
 cases k
 ·
  have := hs 256 128 (by decide); unfold ofUns_signed_goal at this; simpa [ofUns, ksigned, khalf, kmod, IntKind.wrap, IntKind.signed, IntKind.bits] using this
 ·
  have := hs 65536 32768 (by decide); unfold ofUns_signed_goal at this; simpa [ofUns, ksigned, khalf, kmod, IntKind.wrap, IntKind.signed, IntKind.bits] using this
 ·
  have := hs 4294967296 2147483648 (by decide); unfold ofUns_signed_goal at this; simpa [ofUns, ksigned, khalf, kmod, IntKind.wrap, IntKind.signed, IntKind.bits] using this
 ·
  have := hs 18446744073709551616 9223372036854775808 (by decide); unfold ofUns_signed_goal at this; simpa [ofUns, ksigned, khalf, kmod, IntKind.wrap, IntKind.signed, IntKind.bits] using this
 ·
  have := hu 256 (by decide); simpa [ofUns, ksigned, IntKind.wrap, IntKind.signed, IntKind.bits] using this
 ·
  have := hu 65536 (by decide); simpa [ofUns, ksigned, IntKind.wrap, IntKind.signed, IntKind.bits] using this
 ·
  have := hu 4294967296 (by decide); simpa [ofUns, ksigned, IntKind.wrap, IntKind.signed, IntKind.bits] using this
 ·
  have := hu 18446744073709551616 (by decide); simpa [ofUns, ksigned, IntKind.wrap, IntKind.signed, IntKind.bits] using this

omit [Sg] in
theorem wrapF_eq (k : IntKind) (n : Int) : wrapF k n = k.wrap n := by
 unfold wrapF; rw [uns_eq, ofUns_eq]

omit [Sg] in
theorem kn_eq {k k' : IntKind} (h : Nat.beq (kn k) (kn k') = true) : k = k' := by
 cases k <;> cases k' <;> first | rfl | cases h

omit [Sg] in
theorem ltI_eq (x y : Int) : ltI x y = decide (x < y) := by
 rw [Bool.eq_iff_iff, decide_eq_true_iff]
 cases x <;> cases y <;> simp only [ltI, Nat.ble_eq] <;> first | omega | (simp; try omega)
omit [Sg] in
theorem eqI_eq (x y : Int) : eqI x y = (x == y) := by
 rw [Bool.eq_iff_iff, beq_iff_eq]
 cases x <;> cases y <;> simp [eqI] <;> omega
omit [Sg] in
@[simp] theorem mkBool_eq (b : Bool) : mkBool b = some (.bool b) := by cases b <;> rfl
omit [Sg] in
@[simp] theorem mkInt_eq (k : IntKind) (n : Int) : mkInt k n = some (.int k n) := by simp [mkInt]
omit [Sg] in
@[simp] theorem wInt_eq (k : IntKind) (n : Int) : wInt k n = some (.int k (k.wrap n)) := by simp [wInt, wrapF_eq]

/-! ### Strings -/
omit [Sg] in
theorem same_eq : ∀ (x y : List UInt8), same x y = (x == y)
 | [], [] => rfl
 | [], _ :: _ => rfl
 | _ :: _, [] => rfl
 | a :: x, b :: y => by
  show ifB (Nat.beq a.toNat b.toNat) (same x y) false = _
  have : Nat.beq a.toNat b.toNat = (a == b) := by
   rw [Bool.eq_iff_iff, beq_iff_eq, Nat.beq_eq, UInt8.toNat_inj]
  rw [this, same_eq x y, ifB_eq]
  show _ = (a == b && x == y)
  cases a == b <;> simp

omit [Sg] in
theorem less_eq : ∀ (x y : List UInt8), less x y = Op.bytesLess x y
 | [], [] => rfl
 | [], _ :: _ => rfl
 | _ :: _, [] => rfl
 | a :: x, b :: y => by
  show ifB (Nat.beq a.toNat b.toNat) (less x y) (Nat.ble (Nat.succ a.toNat) b.toNat) = (decide (a < b) || (a == b && Op.bytesLess x y))
  have h1 : Nat.beq a.toNat b.toNat = (a == b) := by
   rw [Bool.eq_iff_iff, beq_iff_eq, Nat.beq_eq, UInt8.toNat_inj]
  have h2 : Nat.ble (Nat.succ a.toNat) b.toNat = decide (a < b) := by
   rw [Bool.eq_iff_iff, decide_eq_true_iff, Nat.ble_eq, UInt8.lt_iff_toNat_lt]; rfl
  rw [h1, h2, less_eq x y, ifB_eq]
  by_cases h : a = b
  ·
   subst h; simp
  ·
   simp [h]

omit [Sg] in
theorem less_total : ∀ (x y : List UInt8), Op.bytesLess x y = !(Op.bytesLess y x || y == x)
 | [], [] => rfl
 | [], _ :: _ => rfl
 | _ :: _, [] => rfl
 | a :: x, b :: y => by
  have ih := less_total x y
  simp only [Op.bytesLess, List.cons_beq_cons]
  rcases Nat.lt_trichotomy a.toNat b.toNat with h | h | h
  ·
   have h1 : a < b := UInt8.lt_iff_toNat_lt.2 h
   have h2 : ¬ b < a := fun k => by have := UInt8.lt_iff_toNat_lt.1 k; omega
   have h3 : (b == a) = false := by rw [beq_eq_false_iff_ne]; rintro rfl; omega
   simp [h1, h2, h3]
  ·
   have h0 : a = b := UInt8.toNat_inj.1 h
   subst h0
   have h2 : ¬ a < a := fun k => by have := UInt8.lt_iff_toNat_lt.1 k; omega
   simp [h2, ih]
  ·
   have h1 : b < a := UInt8.lt_iff_toNat_lt.2 h
   have h2 : ¬ a < b := fun k => by have := UInt8.lt_iff_toNat_lt.1 k; omega
   have h3 : (a == b) = false := by rw [beq_eq_false_iff_ne]; rintro rfl; omega
   simp [h1, h2, h3]

omit [Sg] in
theorem toList_data (s : ByteArray) : s.toList = s.data.toList := ByteArray.toList_eq s

omit [Sg] in
theorem append_mk (x y : ByteArray) : x ++ y = ⟨⟨x.data.toList ++ y.data.toList⟩⟩ := by
 have : (x ++ y).data = x.data ++ y.data := by simp
 cases h : x ++ y with
 | mk d => rw [h] at this; simp only at this; subst this; congr 1; apply Array.ext'; simp
end Go.Ev
