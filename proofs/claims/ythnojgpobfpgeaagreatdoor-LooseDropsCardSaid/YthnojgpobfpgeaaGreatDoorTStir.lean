/- The program's stir, run with symbols. -/
import Derived.Test.YthnojgpobfpgeaaGreatDoorTEnv
import Derived.Test.YthnojgpobfpgeaaGreatDoorEvShaD
namespace Go.Proofs
open Go.Ev
noncomputable def envOfS (S : Syms) (l : List (FuncId × Spec)) : Env := envS S tyT fnT (fun _ => false) (specAt l)
theorem envS_ok [Go.Ev.Sg] {S : Syms} (hS : SymsOk Tryz.prog S) {l : List (FuncId × Spec)} : EnvOk Tryz.prog (envOfS S l) := envSOk hS rfl (fun _ h => by cases h)
def words8 : List Value := [.float .f64 0, .float .f64 1, .float .f64 2, .float .f64 3, .float .f64 4, .float .f64 5, .float .f64 6, .float .f64 7]
def bytes64 : List Value := [.float .f64 8, .float .f64 9, .float .f64 10, .float .f64 11, .float .f64 12, .float .f64 13, .float .f64 14, .float .f64 15, .float .f64 16, .float .f64 17, .float .f64 18, .float .f64 19, .float .f64 20, .float .f64 21, .float .f64 22, .float .f64 23, .float .f64 24, .float .f64 25, .float .f64 26, .float .f64 27, .float .f64 28, .float .f64 29, .float .f64 30, .float .f64 31, .float .f64 32, .float .f64 33, .float .f64 34, .float .f64 35, .float .f64 36, .float .f64 37, .float .f64 38, .float .f64 39, .float .f64 40, .float .f64 41, .float .f64 42, .float .f64 43, .float .f64 44, .float .f64 45, .float .f64 46, .float .f64 47, .float .f64 48, .float .f64 49, .float .f64 50, .float .f64 51, .float .f64 52, .float .f64 53, .float .f64 54, .float .f64 55, .float .f64 56, .float .f64 57, .float .f64 58, .float .f64 59, .float .f64 60, .float .f64 61, .float .f64 62, .float .f64 63, .float .f64 64, .float .f64 65, .float .f64 66, .float .f64 67, .float .f64 68, .float .f64 69, .float .f64 70, .float .f64 71]
def sums8 : List Value := [.float .f64 3609, .float .f64 3610, .float .f64 3611, .float .f64 3612, .float .f64 3613, .float .f64 3614, .float .f64 3615, .float .f64 3616]
end Go.Proofs
namespace Go.Proofs
open Go.Ev Go.RowKit
noncomputable def stirW (hw bs : Nat -> Nat) (k : Nat) : Nat := sv shaL hw bs (3609 + k)
theorem VL_map {ρ : Map} [Sg] (f g : Nat -> Value) : ∀ (l : List Nat), (∀ k ∈ l, V ρ (f k) (g k)) -> VL ρ (l.map f) (l.map g)
 | [], _ => .nil
 | k :: l, h => .cons (h k (by simp)) (VL_map f g l fun k hk => h k (by simp [hk]))
theorem info5 : (Tryz.prog.info? 5).map (fun i => i.size) = some 1 := by kernel_rfl
theorem words8_eq : words8 = (List.range 8).map fun k => Value.float .f64 k := by rfl
theorem bytes64_eq : bytes64 = (List.range 64).map fun k => Value.float .f64 (8 + k) := by rfl
theorem sums8_eq : sums8 = (List.range 8).map fun k => Value.float .f64 (3609 + k) := by rfl
end Go.Proofs
namespace Go.Proofs
open Go.Ev Go.RowKit
def hw0 : Nat -> Nat := fun k => [1779033703, 3144134277, 1013904242, 2773480762, 1359893119, 2600822924, 528734635, 1541459225].getD k 0
noncomputable def stirL (hw : Nat -> Nat) (l : List UInt8) : Nat -> Nat := stirW hw fun k => ((l.take 64).getD k 0).toNat
noncomputable def absN : Nat -> (Nat -> Nat) -> List UInt8 -> (Nat -> Nat)
 | 0, hw, _ => hw
 | n + 1, hw, l => absN n (stirL hw l) (l.drop 64)
theorem absN_add (a b : Nat) : ∀ (hw : Nat -> Nat) (l : List UInt8), absN (a + b) hw l = absN b (absN a hw l) (l.drop (64 * a)) := by
 induction a with
 | zero => intro hw l; simp [absN]
 | succ a ih =>
  intro hw l
  rw [Nat.succ_add_eq_add_succ a b, Nat.add_succ]
  show absN (a + b) (stirL hw l) (l.drop 64) = _
  rw [ih, List.drop_drop]
  show _ = absN b (absN a (stirL hw l) (l.drop 64)) (l.drop (64 * (a + 1)))
  have : 64 + 64 * a = 64 * (a + 1) := by omega
  rw [this]
theorem absN_succ (n : Nat) (hw : Nat -> Nat) (l : List UInt8) : absN (n + 1) hw l = stirL (absN n hw l) (l.drop (64 * n)) := by
 rw [absN_add n 1]; rfl
theorem stirL_app (hw : Nat -> Nat) {l m : List UInt8} (h : 64 <= l.length) : stirL hw (l ++ m) = stirL hw l := by
 unfold stirL
 rw [List.take_append_of_le_length h]
theorem absN_app : ∀ (n : Nat) (hw : Nat -> Nat) (l m : List UInt8), 64 * n <= l.length -> absN n hw (l ++ m) = absN n hw l
 | 0, _, _, _, _ => rfl
 | n + 1, hw, l, m, h => by
  show absN n (stirL hw (l ++ m)) ((l ++ m).drop 64) = absN n (stirL hw l) (l.drop 64)
  rw [stirL_app hw (by omega), List.drop_append_of_le_length (by omega)]
  exact absN_app n _ _ _ (by rw [List.length_drop]; omega)
theorem stirW_lt {hw bs : Nat -> Nat} (h8 : ∀ k, k < 8 -> hw k < W32) (h64 : ∀ k, k < 64 -> bs k < 256) (k : Nat) (hk : k < 8) : stirW hw bs k < W32 :=
 sv_word sha_ok h8 h64 (3609 + k) (.inr (by omega))
theorem stirL_lt {hw : Nat -> Nat} (h8 : ∀ k, k < 8 -> hw k < W32) (l : List UInt8) : ∀ k, k < 8 -> stirL hw l k < W32 :=
 fun k hk => stirW_lt h8 (fun _ _ => UInt8.toNat_lt _) k hk
theorem absN_lt : ∀ (n : Nat) {hw : Nat -> Nat}, (∀ k, k < 8 -> hw k < W32) -> ∀ (l : List UInt8) k, k < 8 -> absN n hw l k < W32
 | 0, _, h, _ => h
 | n + 1, _, h, l => absN_lt n (stirL_lt h l) _
theorem hw0_lt : ∀ k, k < 8 -> hw0 k < W32 := by
 intro k hk
 have : ∀ k : Fin 8, hw0 k.1 < W32 := by decide
 exact this ⟨k, hk⟩
def padN (n : Nat) : Nat := (55 + 64 - n % 64) % 64
def pad8 (n : Nat) : List UInt8 := (List.range 8).map fun i => UInt8.ofNat (n * 8 / 2 ^ (56 - 8 * i))
def pad (n : Nat) : List UInt8 := 128 :: (List.replicate (padN n) 0 ++ pad8 n)
def outL (hw : Nat -> Nat) : List UInt8 := (List.range 32).map fun i => UInt8.ofNat (hw (i / 4) / 2 ^ (24 - i % 4 * 8))
noncomputable def shaF (l : List UInt8) : List UInt8 := outL (absN ((l ++ pad l.length).length / 64) hw0 (l ++ pad l.length))
theorem pad_length (n : Nat) : (pad n).length = 9 + padN n := by simp [pad, pad8]; omega
theorem pad_mod (n : Nat) : (n + (pad n).length) % 64 = 0 := by rw [pad_length]; unfold padN; omega
end Go.Proofs
