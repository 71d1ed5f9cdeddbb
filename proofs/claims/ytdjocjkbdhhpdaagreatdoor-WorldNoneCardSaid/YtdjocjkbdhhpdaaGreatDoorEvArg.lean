/- Runs whose arguments bear addresses that nobody looks at. -/
import Derived.Test.YtdjocjkbdhhpdaaGreatDoorEvEnv
import Derived.Carry
import Derived.ChangeOld
import Derived.ClaimOpenTies
import GoSem.ClaimGoes
/-! Runs whose arguments bear addresses that nobody looks at. -/
namespace Go.Ev
open Go.RowKit

section
variable {P : Program} {env : Env} (hE : EnvOk P env) (hM : P.follows .mixedOrders = true) (hFn : FunsOk P env) (hSp : SpecsOk P env)

include hE hM hFn hSp in
/-- A function that may write nothing that was there. -/
theorem calls_at (N d : Nat) {f : FuncId} {args : List Value} {H : Heap} {v : Value} {H' : Heap} (h : evF env N d f args H = some (v, H')) {ρ : Map} {args' : List Value} (hA : VL ρ args args') {w : World} (hH : HR P ρ H w)
    (hno : ∀ B, ¬ Wr ρ H B) (hf : (P.funcs[f]?).any (fun F => F.body.isSome) = true) :
    Calls P f ⟨args'⟩ w fun e w' => ∃ u, e = .returned u ∧ (∃ ρ, V ρ v u) ∧ Below w.heap.size w w' := by
  rcases evF_ok hE hM hFn hSp N d f args H v H' h ρ w args' hA hH with ⟨u, w', hr, _⟩ | ⟨_, hc⟩
  · exfalso
    unfold callFunc at hr
    simp only [Sem.run_bind, run_program, Result.andThen_ok] at hr
    cases hP : P.funcs[f]? with
    | none => rw [hP] at hf; cases hf
    | some F =>
      rw [hP] at hf hr
      simp only [Option.any_some] at hf
      simp only at hr
      split at hr
      · simp at hr
      · rename_i hn
        have : F.body.isNone = false := by cases hb : F.body <;> simp_all
        rw [this] at hr
        simp at hr
  · refine Calls.mono hc ?_
    rintro e w' ⟨u, rfl, ρ', hV, hR, hS⟩
    exact ⟨u, rfl, ⟨ρ', hV⟩, hS.below fun B _ => hno B⟩
end

/-- A memory of which nothing is known, and so many numbers of blocks. -/
noncomputable def dark (n : Nat) : Heap := ⟨bank none 5, n⟩
theorem dark_get (n b : Nat) : (dark n).get b = none := getF_bank none 5 b
theorem dark_hr {P : Program} {n : Nat} {ρ : Map} (hρ : ∀ b e, ρ b = some e → b < n) (hn : n ≤ 2 ^ 64) (w : World) : HR P ρ (dark n) w :=
  ⟨fun b _ _ h => (by rw [dark_get] at h; cases h), fun b _ _ _ _ _ h => (by rw [dark_get] at h; cases h), hρ, hn, fun b _ => dark_get n b⟩
theorem dark_wr {n : Nat} {ρ : Map} (B : Nat) : ¬ Wr ρ (dark n) B := fun ⟨b, x, _, h, _⟩ => by rw [dark_get] at h; cases h

theorem V.some_ptr {e : Emb} {ρ : Map} {b : Nat} (h : ρ b = some e) {a : Addr} (ha : a.spot = none) (hB : e.B = a.block) (ho : e.base = a.off) {n c : Nat} (hn : n ≤ c) (hc : c ≠ U) :
    V ρ (.slice (some ⟨b, 0, none⟩) n c) (.slice (some a) n c) := by
  have := V.slice (ρ := ρ) (b := b) (o := 0) (e := e) h hn hc
  obtain ⟨ab, ao, as⟩ := a
  dsimp only at ha hB ho
  subst ha hB ho
  exact this
end Go.Ev

/-! A law's arguments read behind the call as they did. -/
namespace Go.Ev
open Go.RowKit Go.WideElems

theorem trod_stays1 {H : Type} {enc : TypeId × Value → H} {P : Program} (hl : laidOutB P = true) {W W' : World} (hb : Below W.heap.size W W') {t : TypeId} (hr : P.readableRec t = true) (ht : t < P.types.size)
    {v : Value} {d : DataW H} {ps : List MemPlace} (h : DataW.Trod enc P W 0 (fun _ => true) true t v d ps) : DataW.Trod enc P W' 0 (fun b => decide (b < W.heap.size)) true t v d ps := by
  obtain ⟨fuel, h⟩ := h
  have hp := DataW.trod_lt _ _ _ _ h
  exact ⟨fuel, DataW.trod_stays (kids_book hl hr) (book_sized hr) (fun h => by cases h) ⟨ht, book_self t⟩ h (fun x hx => hb.same (hp x hx)) (fun x hx => by simpa using hp x hx)⟩

/-- One closed fact: the parameters' types can be read. -/
def paramsRead (P : Program) (ts : List TypeId) : Bool := ts.all fun t => P.readableRec t && decide (t < P.types.size)

theorem trodAll_stays {H : Type} {enc : TypeId × Value → H} {P : Program} (hl : laidOutB P = true) {W W' : World} (hb : Below W.heap.size W W') :
    ∀ {ts : List TypeId} {vs : List Value} {ds : List (DataW H)} {ps : List MemPlace}, paramsRead P ts = true → DataW.TrodAll enc P W 0 (fun _ => true) true ts vs ds ps → DataW.TrodAll enc P W' 0 (fun b => decide (b < W.heap.size)) true ts vs ds ps
  | [], [], [], _, _, h => h
  | [], [], _ :: _, _, _, h => h.elim
  | [], _ :: _, _, _, _, h => h.elim
  | _ :: _, [], _, _, _, h => h.elim
  | _ :: _, _ :: _, [], _, _, h => h.elim
  | t :: ts, v :: vs, d :: ds, ps, hv, h => by
    obtain ⟨p, q, h1, h2, e⟩ := h
    have hv' : (P.readableRec t && decide (t < P.types.size) && paramsRead P ts) = true := hv
    simp only [Bool.and_eq_true, decide_eq_true_eq] at hv'
    exact ⟨p, q, trod_stays1 hl hb hv'.1.1 hv'.1.2 h1, trodAll_stays hl hb hv'.2 h2, e⟩

/-- A cell of a kind of which nobody's address is. -/
def plainKind : TypeDesc → Bool
  | .bool => true
  | .int _ => true
  | .string => true
  | _ => false

theorem cell_plain {P : Program} {W : World} {r : Reach} {b0 : Nat} {u : TypeId} {d : TypeDesc} {c : Value} (hu : P.underlying u = some d) (hd : plainKind d = true) (h : Cell.okWide P W r b0 u c) : plain c = true := by
  cases d <;> first | (cases hd; done) | skip
  all_goals (unfold Cell.okWide at h; rw [hu] at h; simp only at h; unfold Cell.ok at h; rw [hu] at h; cases c <;> first | rfl | (exact h.elim))

theorem cell_slice {P : Program} {W : World} {r : Reach} {b0 : Nat} {u e : TypeId} {c : Value} (hu : P.underlying u = some (.slice e)) (h : Cell.okWide P W r b0 u c) :
    c = .slice none 0 0 ∨ ∃ a n k, c = .slice (some a) n k ∧ a.spot = none ∧ n ≤ k ∧ k ≠ U := by
  unfold Cell.okWide at h
  rw [hu] at h
  simp only at h
  unfold Cell.ok at h
  rw [hu] at h
  cases c with
  | slice a n k =>
    cases a with
    | none =>
      cases n with
      | zero => cases k with
        | zero => exact .inl rfl
        | succ k => exact h.elim
      | succ n => exact h.elim
    | some a =>
      obtain ⟨h1, h2, h3⟩ := h
      refine .inr ⟨a, n, k, rfl, h3.2.1, h1, ?_⟩
      have : IntKind.i64.max = 9223372036854775807 := by decide
      rw [this] at h2
      unfold U
      omega
  | _ => exact h.elim
/-- Where no body of the program starts a goroutine, no row does. -/
theorem goes_none {P : Program} (h : (P.funcs.toList.any Func.goes) = false) (c : OpenClaim) : false = c.goesBy P := by
  have h1 : ∀ g : FuncId, ((P.funcs[g]?).any Func.goes) = false := fun g => by
    cases hg : P.funcs[g]? with
    | none => rfl
    | some fn =>
      have hm : fn ∈ P.funcs.toList := by simpa using Array.mem_of_getElem? hg
      have := List.any_eq_false.1 h fn hm
      simpa using this
  have h2 : ∀ f, P.goes f = false := fun f => by
    unfold Program.goes
    have a1 : ((P.closure f).any fun g => (P.funcs[g]?).any Func.goes) = false := by
      rw [List.any_eq_false]
      intro g _
      rw [h1 g]; simp
    have a2 : P.funcs.any Func.goes = false := by rw [← Array.any_toList]; exact h
    rw [a1, a2]; simp
  have h3 : (P.funcNamed c.func).any P.goes = false := by
    cases P.funcNamed c.func with
    | none => rfl
    | some f => simpa using h2 f
  have h4 : P.inits.toList.any P.goes = false := by
    rw [List.any_eq_false]
    intro g _
    rw [h2 g]; simp
  unfold OpenClaim.goesBy Program.goesAt Program.goesFrom
  rw [h3]
  cases c.start <;> simp [h4]
theorem len_succ {α : Type} {l : List α} {n : Nat} (h : l.length = n + 1) : ∃ a t, l = a :: t ∧ t.length = n := by
  cases l with
  | nil => cases h
  | cons a t => exact ⟨a, t, rfl, by simpa using h⟩
theorem twelve {α : Type} (l : List α) (h : l.length = 12) : ∃ c0 c1 c2 c3 c4 c5 c6 c7 c8 c9 c10 c11, l = [c0, c1, c2, c3, c4, c5, c6, c7, c8, c9, c10, c11] := by
  obtain ⟨c0, l0, e0, h0⟩ := len_succ h
  obtain ⟨c1, l1, e1, h1⟩ := len_succ h0
  obtain ⟨c2, l2, e2, h2⟩ := len_succ h1
  obtain ⟨c3, l3, e3, h3⟩ := len_succ h2
  obtain ⟨c4, l4, e4, h4⟩ := len_succ h3
  obtain ⟨c5, l5, e5, h5⟩ := len_succ h4
  obtain ⟨c6, l6, e6, h6⟩ := len_succ h5
  obtain ⟨c7, l7, e7, h7⟩ := len_succ h6
  obtain ⟨c8, l8, e8, h8⟩ := len_succ h7
  obtain ⟨c9, l9, e9, h9⟩ := len_succ h8
  obtain ⟨c10, l10, e10, h10⟩ := len_succ h9
  obtain ⟨c11, l11, e11, h11⟩ := len_succ h10
  have e : l11 = [] := List.eq_nil_of_length_eq_zero h11
  exact ⟨c0, c1, c2, c3, c4, c5, c6, c7, c8, c9, c10, c11, by rw [e0, e1, e2, e3, e4, e5, e6, e7, e8, e9, e10, e11, e]⟩
end Go.Ev
