/- Runs whose arguments bear addresses that nobody looks at. -/
import Derived.Test.YtildicgoadiodaaGreatDoorEvEnv
/-! Runs whose arguments bear addresses that nobody looks at. -/
namespace Go.Ev
open Go.RowKit
variable [Sg]

section
variable {P : Program} {env : Env} (hE : EnvOk P env) (hM : P.follows .mixedOrders = true) (hFn : FunsOk P env) (hSp : SpecsOk P env)

include hE hM hFn hSp in
/-- A function that may write nothing that was there. -/
theorem calls_at (N d : Nat) {f : FuncId} {args : List Value} {H : Heap} {v : Value} {H' : Heap} (h : evF env N d f args H = some (v, H')) {ρ : Map} {args' : List Value} (hA : VL ρ args args') {w : World} (hH : HR P ρ H w)
    (hno : ∀ B, ¬ Wr ρ H B) (hf : (P.funcs[f]?).any (fun F => F.body.isSome) = true) :
    Calls P f ⟨args'⟩ w fun e w' => ∃ u, e = .returned u ∧ (∃ ρ, V ρ v u) ∧ Below w.heap.size w w' := by
  rcases evF_ok hE hM hFn hSp N d f args H v H' h ρ w args' hA hH with ⟨u, w', hr, _⟩ | ⟨_, hc⟩
  · exfalso
    unfold callFunc at hr
    simp only [Sem.run_bind, run_program, Result.andThen_ok] at hr
    cases hP : P.funcs[f]? with
    | none => rw [hP] at hf; cases hf
    | some F =>
      rw [hP] at hf hr
      simp only [Option.any_some] at hf
      simp only at hr
      split at hr
      · simp at hr
      · rename_i hn
        have : F.body.isNone = false := by cases hb : F.body <;> simp_all
        rw [this] at hr
        simp at hr
  · refine Calls.mono hc ?_
    rintro e w' ⟨u, rfl, ρ', hV, hR, hS⟩
    exact ⟨u, rfl, ⟨ρ', hV⟩, hS.below fun B _ => hno B⟩
end

/-- A memory of which nothing is known, and so many numbers of blocks. -/
noncomputable def dark (n : Nat) : Heap := ⟨bank none 5, n⟩
omit [Sg] in
theorem dark_get (n b : Nat) : (dark n).get b = none := getF_bank none 5 b
theorem dark_hr {P : Program} {n : Nat} {ρ : Map} (hρ : ∀ b e, ρ b = some e → b < n) (hn : n ≤ 2 ^ 64) (w : World) : HR P ρ (dark n) w :=
  ⟨fun b _ _ h => (by rw [dark_get] at h; cases h), fun b _ _ _ _ _ h => (by rw [dark_get] at h; cases h), hρ, hn, fun b _ => dark_get n b⟩
omit [Sg] in
theorem dark_wr {n : Nat} {ρ : Map} (B : Nat) : ¬ Wr ρ (dark n) B := fun ⟨b, x, _, h, _⟩ => by rw [dark_get] at h; cases h

theorem V.some_ptr {e : Emb} {ρ : Map} {b : Nat} (h : ρ b = some e) {a : Addr} (ha : a.spot = none) (hB : e.B = a.block) (ho : e.base = a.off) {n c : Nat} (hn : n ≤ c) (hc : c ≠ U) :
    V ρ (.slice (some ⟨b, 0, none⟩) n c) (.slice (some a) n c) := by
  have := V.slice (ρ := ρ) (b := b) (o := 0) (e := e) h hn hc
  obtain ⟨ab, ao, as⟩ := a
  dsimp only at ha hB ho
  subst ha hB ho
  exact this
end Go.Ev
