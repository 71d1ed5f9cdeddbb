/- The program's stir, run with symbols. -/
import Derived.Test.YtildicgoadiodaaGreatDoorTEnv
import Derived.Test.YtildicgoadiodaaGreatDoorEvShaS
/-! The program's stir, run with symbols. -/
namespace Go.Proofs
open Go.Ev
noncomputable def envOfS (S : Syms) (l : List (FuncId × Spec)) : Env := envS S tyT fnT (fun _ => false) (specAt l)
theorem envS_ok [Go.Ev.Sg] {S : Syms} (hS : SymsOk Tryz.prog S) {l : List (FuncId × Spec)} : EnvOk Tryz.prog (envOfS S l) := envSOk hS rfl (fun _ h => by cases h)
def words8 : List Value := [.float .f64 0, .float .f64 1, .float .f64 2, .float .f64 3, .float .f64 4, .float .f64 5, .float .f64 6, .float .f64 7]
def bytes64 : List Value := [.float .f64 8, .float .f64 9, .float .f64 10, .float .f64 11, .float .f64 12, .float .f64 13, .float .f64 14, .float .f64 15, .float .f64 16, .float .f64 17, .float .f64 18, .float .f64 19, .float .f64 20, .float .f64 21, .float .f64 22, .float .f64 23, .float .f64 24, .float .f64 25, .float .f64 26, .float .f64 27, .float .f64 28, .float .f64 29, .float .f64 30, .float .f64 31, .float .f64 32, .float .f64 33, .float .f64 34, .float .f64 35, .float .f64 36, .float .f64 37, .float .f64 38, .float .f64 39, .float .f64 40, .float .f64 41, .float .f64 42, .float .f64 43, .float .f64 44, .float .f64 45, .float .f64 46, .float .f64 47, .float .f64 48, .float .f64 49, .float .f64 50, .float .f64 51, .float .f64 52, .float .f64 53, .float .f64 54, .float .f64 55, .float .f64 56, .float .f64 57, .float .f64 58, .float .f64 59, .float .f64 60, .float .f64 61, .float .f64 62, .float .f64 63, .float .f64 64, .float .f64 65, .float .f64 66, .float .f64 67, .float .f64 68, .float .f64 69, .float .f64 70, .float .f64 71]
def sums8 : List Value := [.float .f64 3609, .float .f64 3610, .float .f64 3611, .float .f64 3612, .float .f64 3613, .float .f64 3614, .float .f64 3615, .float .f64 3616]
noncomputable def heap64 : Heap := (⟨bank none 5, 1⟩ : Heap).set 0 (.cells bytes64 5 .still)
set_option maxRecDepth 100000 in
theorem stir_run (n : Nat) : sameRes (evF (envOfS (shaSyms {}) []) 100000 20 80 [.agg ⟨words8⟩, .slice (some ⟨0, 0, none⟩) n U] heap64) (.agg ⟨sums8⟩) = true := by kernel_rfl
end Go.Proofs

/-! The program's stir: what it answers. -/
namespace Go.Proofs
open Go.Ev Go.RowKit

/-- The words behind a span of bytes. -/
noncomputable def stirW (hw bs : Nat → Nat) (k : Nat) : Nat := sv shaL hw bs (3609 + k)
def wordsV (hw : Nat → Nat) : Value := .agg ⟨(List.range 8).map fun k => .int .u32 (hw k : Int)⟩

theorem VL_map {ρ : Map} [Sg] (f g : Nat → Value) : ∀ (l : List Nat), (∀ k ∈ l, V ρ (f k) (g k)) → VL ρ (l.map f) (l.map g)
  | [], _ => .nil
  | k :: l, h => .cons (h k (by simp)) (VL_map f g l fun k hk => h k (by simp [hk]))
theorem info5 : (Tryz.prog.info? 5).map (fun i => i.size) = some 1 := by kernel_rfl
theorem words8_eq : words8 = (List.range 8).map fun k => Value.float .f64 k := by rfl
theorem bytes64_eq : bytes64 = (List.range 64).map fun k => Value.float .f64 (8 + k) := by rfl
theorem sums8_eq : sums8 = (List.range 8).map fun k => Value.float .f64 (3609 + k) := by rfl
def noEx : Nat → Value := fun _ => .int .i64 0

set_option maxRecDepth 20000 in
theorem stir_calls {hw bs : Nat → Nat} (h8 : ∀ k, k < 8 → hw k < W32) (h64 : ∀ k, k < 64 → bs k < 256) {w : World} {B off n c : Nat} {C : Array Value} {fr : Nat × Nat}
    (hB : w.heap[B]? = some (.cells C 5 fr)) (hC : C.size = off + c) (hn : n ≤ c) (hc : 64 ≤ c) (hb : ∀ k, k < 64 → C[off + k]? = some (.int .u8 (bs k : Int))) :
    Calls Tryz.prog 80 #[wordsV hw, .slice (some ⟨B, off, none⟩) n c] w fun e w' => e = .returned (wordsV (stirW hw bs)) ∧ Below w.heap.size w w' := by
  have hex : ∀ k, isIS (noEx k) = true := fun _ => rfl
  letI := shaSg shaL hw bs noEx hex
  let ρ : Map := fun b => if b = 0 then some ⟨B, off, 64, c, 1⟩ else none
  have hρ0 : ρ 0 = some ⟨B, off, 64, c, 1⟩ := rfl
  have hρ : ∀ b e, ρ b = some e → b = 0 ∧ e = ⟨B, off, 64, c, 1⟩ := fun b e h => by
    simp only [ρ] at h
    split at h
    · rename_i h0; exact ⟨h0, (Option.some.inj h).symm⟩
    · cases h
  obtain ⟨H, hrun⟩ := sameRes_ok (stir_run n)
  have hwin : win C ⟨B, off, 64, c, 1⟩ = (List.range 64).map fun k => Value.int .u8 (bs k : Int) := by
    apply List.ext_getElem?
    intro i
    simp only [win, List.getElem?_take, List.getElem?_drop, List.getElem?_map]
    by_cases hi : i < 64
    · rw [if_pos hi, Array.getElem?_toList, hb i hi, List.getElem?_range hi]; rfl
    · rw [if_neg hi, List.getElem?_eq_none (by simpa using hi)]; rfl
  have hVw : ∀ k, k < 8 → Sg.val k = .int .u32 (hw k : Int) := fun k hk => by
    show shaV shaL hw bs noEx k = _
    rw [shaV_word ⟨.inl hk, by omega⟩]
    unfold sv
    rw [vals_lt _ _ _ k (by omega)]
    unfold f0
    rw [if_pos hk]
  have hVb : ∀ k, k < 64 → Sg.val (8 + k) = .int .u8 (bs k : Int) := fun k hk => by
    show shaV shaL hw bs noEx (8 + k) = _
    rw [shaV_byte (by omega) (by omega)]
    unfold sv
    rw [vals_lt _ _ _ (8 + k) (by omega)]
    unfold f0
    rw [if_neg (by omega), if_pos (by omega)]
    have e8 : 8 + k - 8 = k := by omega
    rw [e8]
  have hA : VL ρ [.agg ⟨words8⟩, .slice (some ⟨0, 0, none⟩) n U] [wordsV hw, .slice (some ⟨B, off, none⟩) n c] := by
    refine .cons ?_ (.cons ?_ .nil)
    · rw [words8_eq]
      refine .agg (VL_map _ _ _ fun k hk => ?_) fun v hv => ?_
      · rw [← hVw k (by simpa using hk)]; exact .sym k
      · obtain ⟨k, _, rfl⟩ := List.mem_map.1 hv; rfl
    · have := V.sliceU (ρ := ρ) (b := 0) (o := 0) (n := n) (c := c) hρ0 hn (by simp)
      simpa using this
  obtain ⟨i5, hi5, hs5⟩ := Option.map_eq_some_iff.1 info5
  have hH : HR Tryz.prog ρ heap64 w := by
    refine ⟨fun b x e hx he => ?_, fun b1 b2 x1 x2 e1 e2 hx1 hx2 he1 he2 _ _ => (hρ b1 e1 he1).1.trans (hρ b2 e2 he2).1.symm, fun b e he => ?_, by decide, fun b hb => ?_⟩
    · obtain ⟨rfl, rfl⟩ := hρ b e he
      unfold heap64 at hx
      rw [Heap.get_set_same] at hx
      cases hx
      rw [hB]
      refine .cells hi5 hs5 (by rfl) hc hC (fun h => by cases h) ?_ ?_ (Nat.mod_one _)
      · rw [hwin, bytes64_eq]
        refine VL_map _ _ _ fun k hk => ?_
        rw [← hVb k (by simpa using hk)]; exact .sym (8 + k)
      · rw [hwin]; intro v hv
        obtain ⟨k, _, rfl⟩ := List.mem_map.1 hv; rfl
    · rw [(hρ b e he).1]; decide
    · have hb1 : 1 ≤ b := hb
      unfold heap64
      rw [Heap.get_set_ne (by omega)]
      exact getF_bank none 5 b
  have hno : ∀ b, ¬ Wr ρ heap64 b := fun b ⟨b', x, e, hx, he, _, hw'⟩ => by
    obtain ⟨rfl, rfl⟩ := hρ b' e he
    unfold heap64 at hx
    rw [Heap.get_set_same] at hx
    cases hx
    cases hw'
  have hT : TabsOk ({} : Tabs) := ⟨fun _ h => (by cases h), fun _ h => (by cases h), fun _ h => (by cases h), fun _ h => (by cases h), fun _ h => (by cases h), fun _ h => (by cases h)⟩
  refine Calls.mono (calls_at (P := Tryz.prog) (env := envOfS (shaSyms {}) []) (envS_ok (shaSyms_ok hex h8 h64 hT)) mixed (funsSOk rfl) (specs_of (l := []) rfl (fun _ h => by cases h)) 100000 20 hrun hA hH hno (by rw [Tryz.func80]; rfl)) ?_
  rintro e w' ⟨u, rfl, ⟨ρ', hV⟩, hBl⟩
  refine ⟨?_, hBl⟩
  cases hV with
  | agg hl h1 =>
    rw [dens_inv (by rw [sums8_eq]; intro v hv; obtain ⟨k, _, rfl⟩ := List.mem_map.1 hv; rfl) hl]
    rw [sums8_eq, List.map_map]
    have e : List.map (den ∘ fun k => Value.float .f64 (3609 + k)) (List.range 8) = List.map (fun k => Value.int .u32 (stirW hw bs k : Int)) (List.range 8) := by
      apply List.map_congr_left
      intro k hk
      have hk : k < 8 := by simpa using hk
      exact shaV_word ⟨.inr (by omega), by omega⟩
    rw [e]
    rfl
end Go.Proofs

/-! The sum of bytes, block by block: plain. -/
namespace Go.Proofs
open Go.Ev Go.RowKit

/-- The words ahead of all bytes. -/
def hw0 : Nat → Nat := fun k => [1779033703, 3144134277, 1013904242, 2773480762, 1359893119, 2600822924, 528734635, 1541459225].getD k 0
/-- The words behind the first 64 bytes of a list. -/
noncomputable def stirL (hw : Nat → Nat) (l : List UInt8) : Nat → Nat := stirW hw fun k => ((l.take 64).getD k 0).toNat
/-- The words behind so many blocks. -/
noncomputable def absN : Nat → (Nat → Nat) → List UInt8 → (Nat → Nat)
  | 0, hw, _ => hw
  | n + 1, hw, l => absN n (stirL hw l) (l.drop 64)

theorem absN_add (a b : Nat) : ∀ (hw : Nat → Nat) (l : List UInt8), absN (a + b) hw l = absN b (absN a hw l) (l.drop (64 * a)) := by
  induction a with
  | zero => intro hw l; simp [absN]
  | succ a ih =>
    intro hw l
    rw [Nat.succ_add_eq_add_succ a b, Nat.add_succ]
    show absN (a + b) (stirL hw l) (l.drop 64) = _
    rw [ih, List.drop_drop]
    show _ = absN b (absN a (stirL hw l) (l.drop 64)) (l.drop (64 * (a + 1)))
    have : 64 + 64 * a = 64 * (a + 1) := by omega
    rw [this]
theorem absN_succ (n : Nat) (hw : Nat → Nat) (l : List UInt8) : absN (n + 1) hw l = stirL (absN n hw l) (l.drop (64 * n)) := by
  rw [absN_add n 1]; rfl
theorem stirL_app (hw : Nat → Nat) {l m : List UInt8} (h : 64 ≤ l.length) : stirL hw (l ++ m) = stirL hw l := by
  unfold stirL
  rw [List.take_append_of_le_length h]
theorem absN_app : ∀ (n : Nat) (hw : Nat → Nat) (l m : List UInt8), 64 * n ≤ l.length → absN n hw (l ++ m) = absN n hw l
  | 0, _, _, _, _ => rfl
  | n + 1, hw, l, m, h => by
    show absN n (stirL hw (l ++ m)) ((l ++ m).drop 64) = absN n (stirL hw l) (l.drop 64)
    rw [stirL_app hw (by omega), List.drop_append_of_le_length (by omega)]
    exact absN_app n _ _ _ (by rw [List.length_drop]; omega)

theorem stirW_lt {hw bs : Nat → Nat} (h8 : ∀ k, k < 8 → hw k < W32) (h64 : ∀ k, k < 64 → bs k < 256) (k : Nat) (hk : k < 8) : stirW hw bs k < W32 :=
  sv_word sha_ok h8 h64 (3609 + k) (.inr (by omega))
theorem stirL_lt {hw : Nat → Nat} (h8 : ∀ k, k < 8 → hw k < W32) (l : List UInt8) : ∀ k, k < 8 → stirL hw l k < W32 :=
  fun k hk => stirW_lt h8 (fun _ _ => UInt8.toNat_lt _) k hk
theorem absN_lt : ∀ (n : Nat) {hw : Nat → Nat}, (∀ k, k < 8 → hw k < W32) → ∀ (l : List UInt8) k, k < 8 → absN n hw l k < W32
  | 0, _, h, _ => h
  | n + 1, _, h, l => absN_lt n (stirL_lt h l) _
theorem hw0_lt : ∀ k, k < 8 → hw0 k < W32 := by
  intro k hk
  have : ∀ k : Fin 8, hw0 k.1 < W32 := by decide
  exact this ⟨k, hk⟩

/-- The bytes that follow a text of so many bytes. -/
def padN (n : Nat) : Nat := (55 + 64 - n % 64) % 64
def pad8 (n : Nat) : List UInt8 := (List.range 8).map fun i => UInt8.ofNat (n * 8 / 2 ^ (56 - 8 * i))
def pad (n : Nat) : List UInt8 := 128 :: (List.replicate (padN n) 0 ++ pad8 n)
/-- The bytes of eight words. -/
def outL (hw : Nat → Nat) : List UInt8 := (List.range 32).map fun i => UInt8.ofNat (hw (i / 4) / 2 ^ (24 - i % 4 * 8))
/-- The sum. -/
noncomputable def shaF (l : List UInt8) : List UInt8 := outL (absN ((l ++ pad l.length).length / 64) hw0 (l ++ pad l.length))

theorem pad_length (n : Nat) : (pad n).length = 9 + padN n := by simp [pad, pad8]; omega
theorem pad_mod (n : Nat) : (n + (pad n).length) % 64 = 0 := by rw [pad_length]; unfold padN; omega
end Go.Proofs
