/- A law's arguments read behind the call as they did. -/
import Derived.Test.YtildicgoadiodaaGreatDoorEvArg
import Derived.Carry
import Derived.ChangeOld
import Derived.ClaimOpenTies
import GoSem.ClaimGoes
import Derived.Test.YtildicgoadiodaaGreatDoorRows
import Derived.WalkKit
import Derived.ProofKit
import Derived.SevenTiedAt
/-! A law's arguments read behind the call as they did. -/
namespace Go.Ev
open Go.RowKit Go.WideElems
variable [Sg]

omit [Sg] in
theorem trod_stays1 {H : Type} {enc : TypeId × Value → H} {P : Program} (hl : laidOutB P = true) {W W' : World} (hb : Below W.heap.size W W') {t : TypeId} (hr : P.readableRec t = true) (ht : t < P.types.size)
    {v : Value} {d : DataW H} {ps : List MemPlace} (h : DataW.Trod enc P W 0 (fun _ => true) true t v d ps) : DataW.Trod enc P W' 0 (fun b => decide (b < W.heap.size)) true t v d ps := by
  obtain ⟨fuel, h⟩ := h
  have hp := DataW.trod_lt _ _ _ _ h
  exact ⟨fuel, DataW.trod_stays (kids_book hl hr) (book_sized hr) (fun h => by cases h) ⟨ht, book_self t⟩ h (fun x hx => hb.same (hp x hx)) (fun x hx => by simpa using hp x hx)⟩

/-- One closed fact: the parameters' types can be read. -/
def paramsRead (P : Program) (ts : List TypeId) : Bool := ts.all fun t => P.readableRec t && decide (t < P.types.size)

omit [Sg] in
theorem trodAll_stays {H : Type} {enc : TypeId × Value → H} {P : Program} (hl : laidOutB P = true) {W W' : World} (hb : Below W.heap.size W W') :
    ∀ {ts : List TypeId} {vs : List Value} {ds : List (DataW H)} {ps : List MemPlace}, paramsRead P ts = true → DataW.TrodAll enc P W 0 (fun _ => true) true ts vs ds ps → DataW.TrodAll enc P W' 0 (fun b => decide (b < W.heap.size)) true ts vs ds ps
  | [], [], [], _, _, h => h
  | [], [], _ :: _, _, _, h => h.elim
  | [], _ :: _, _, _, _, h => h.elim
  | _ :: _, [], _, _, _, h => h.elim
  | _ :: _, _ :: _, [], _, _, h => h.elim
  | t :: ts, v :: vs, d :: ds, ps, hv, h => by
    obtain ⟨p, q, h1, h2, e⟩ := h
    have hv' : (P.readableRec t && decide (t < P.types.size) && paramsRead P ts) = true := hv
    simp only [Bool.and_eq_true, decide_eq_true_eq] at hv'
    exact ⟨p, q, trod_stays1 hl hb hv'.1.1 hv'.1.2 h1, trodAll_stays hl hb hv'.2 h2, e⟩

/-- A cell of a kind of which nobody's address is. -/
def plainKind : TypeDesc → Bool
  | .bool => true
  | .int _ => true
  | .string => true
  | _ => false

omit [Sg] in
theorem cell_plain {P : Program} {W : World} {r : Reach} {b0 : Nat} {u : TypeId} {d : TypeDesc} {c : Value} (hu : P.underlying u = some d) (hd : plainKind d = true) (h : Cell.okWide P W r b0 u c) : plain c = true := by
  cases d <;> first | (cases hd; done) | skip
  all_goals (unfold Cell.okWide at h; rw [hu] at h; simp only at h; unfold Cell.ok at h; rw [hu] at h; cases c <;> first | rfl | (exact h.elim))

omit [Sg] in
theorem cell_slice {P : Program} {W : World} {r : Reach} {b0 : Nat} {u e : TypeId} {c : Value} (hu : P.underlying u = some (.slice e)) (h : Cell.okWide P W r b0 u c) :
    c = .slice none 0 0 ∨ ∃ a n k, c = .slice (some a) n k ∧ a.spot = none ∧ n ≤ k ∧ k ≠ U := by
  unfold Cell.okWide at h
  rw [hu] at h
  simp only at h
  unfold Cell.ok at h
  rw [hu] at h
  cases c with
  | slice a n k =>
    cases a with
    | none =>
      cases n with
      | zero => cases k with
        | zero => exact .inl rfl
        | succ k => exact h.elim
      | succ n => exact h.elim
    | some a =>
      obtain ⟨h1, h2, h3⟩ := h
      refine .inr ⟨a, n, k, rfl, h3.2.1, h1, ?_⟩
      have : IntKind.i64.max = 9223372036854775807 := by decide
      rw [this] at h2
      unfold U
      omega
  | _ => exact h.elim
omit [Sg] in
/-- Where no body of the program starts a goroutine, no row does. -/
theorem goes_none {P : Program} (h : (P.funcs.toList.any Func.goes) = false) (c : OpenClaim) : false = c.goesBy P := by
  have h1 : ∀ g : FuncId, ((P.funcs[g]?).any Func.goes) = false := fun g => by
    cases hg : P.funcs[g]? with
    | none => rfl
    | some fn =>
      have hm : fn ∈ P.funcs.toList := by simpa using Array.mem_of_getElem? hg
      have := List.any_eq_false.1 h fn hm
      simpa using this
  have h2 : ∀ f, P.goes f = false := fun f => by
    unfold Program.goes
    have a1 : ((P.closure f).any fun g => (P.funcs[g]?).any Func.goes) = false := by
      rw [List.any_eq_false]
      intro g _
      rw [h1 g]; simp
    have a2 : P.funcs.any Func.goes = false := by rw [← Array.any_toList]; exact h
    rw [a1, a2]; simp
  have h3 : (P.funcNamed c.func).any P.goes = false := by
    cases P.funcNamed c.func with
    | none => rfl
    | some f => simpa using h2 f
  have h4 : P.inits.toList.any P.goes = false := by
    rw [List.any_eq_false]
    intro g _
    rw [h2 g]; simp
  unfold OpenClaim.goesBy Program.goesAt Program.goesFrom
  rw [h3]
  cases c.start <;> simp [h4]
omit [Sg] in
theorem len_succ {α : Type} {l : List α} {n : Nat} (h : l.length = n + 1) : ∃ a t, l = a :: t ∧ t.length = n := by
  cases l with
  | nil => cases h
  | cons a t => exact ⟨a, t, rfl, by simpa using h⟩
omit [Sg] in
theorem twelve {α : Type} (l : List α) (h : l.length = 12) : ∃ c0 c1 c2 c3 c4 c5 c6 c7 c8 c9 c10 c11, l = [c0, c1, c2, c3, c4, c5, c6, c7, c8, c9, c10, c11] := by
  obtain ⟨c0, l0, e0, h0⟩ := len_succ h
  obtain ⟨c1, l1, e1, h1⟩ := len_succ h0
  obtain ⟨c2, l2, e2, h2⟩ := len_succ h1
  obtain ⟨c3, l3, e3, h3⟩ := len_succ h2
  obtain ⟨c4, l4, e4, h4⟩ := len_succ h3
  obtain ⟨c5, l5, e5, h5⟩ := len_succ h4
  obtain ⟨c6, l6, e6, h6⟩ := len_succ h5
  obtain ⟨c7, l7, e7, h7⟩ := len_succ h6
  obtain ⟨c8, l8, e8, h8⟩ := len_succ h7
  obtain ⟨c9, l9, e9, h9⟩ := len_succ h8
  obtain ⟨c10, l10, e10, h10⟩ := len_succ h9
  obtain ⟨c11, l11, e11, h11⟩ := len_succ h10
  have e : l11 = [] := List.eq_nil_of_length_eq_zero h11
  exact ⟨c0, c1, c2, c3, c4, c5, c6, c7, c8, c9, c10, c11, by rw [e0, e1, e2, e3, e4, e5, e6, e7, e8, e9, e10, e11, e]⟩
omit [Sg] in
theorem nine {α : Type} (l : List α) (h : l.length = 9) : ∃ c0 c1 c2 c3 c4 c5 c6 c7 c8, l = [c0, c1, c2, c3, c4, c5, c6, c7, c8] := by
  obtain ⟨c0, l0, e0, h0⟩ := len_succ h
  obtain ⟨c1, l1, e1, h1⟩ := len_succ h0
  obtain ⟨c2, l2, e2, h2⟩ := len_succ h1
  obtain ⟨c3, l3, e3, h3⟩ := len_succ h2
  obtain ⟨c4, l4, e4, h4⟩ := len_succ h3
  obtain ⟨c5, l5, e5, h5⟩ := len_succ h4
  obtain ⟨c6, l6, e6, h6⟩ := len_succ h5
  obtain ⟨c7, l7, e7, h7⟩ := len_succ h6
  obtain ⟨c8, l8, e8, h8⟩ := len_succ h7
  have e : l8 = [] := List.eq_nil_of_length_eq_zero h8
  exact ⟨c0, c1, c2, c3, c4, c5, c6, c7, c8, by rw [e0, e1, e2, e3, e4, e5, e6, e7, e8, e]⟩
end Go.Ev

/-! The row's closed facts, each in a declaration of its own: one theorem for all of them is too much for the kernel's memory. -/
namespace Go.Proofs.YtildicgoadiodaaGreatDoor
open Go.RowKit Go.ChangeShapes Go.WideShapes Go.ChangeAt Go.ChangeMaps

theorem rowNamed : Tryz.pinned.checked.prog.funcNamed Rows.serveNoneUptoRow.func = some 3 := by kernel_rfl
theorem row_laid : laidOutB Tryz.pinned.checked.prog = true := by kernel_rfl
theorem row_maps : mapsRowed Tryz.pinned.checked.prog = true := by kernel_rfl
theorem row_inPlace : (Rows.serveNoneUptoRow.inPlace == Tryz.pinned.checked.prog.inPlace 3) = true := by kernel_rfl
theorem row_unfollowed : (Rows.serveNoneUptoRow.unfollowed == Tryz.pinned.checked.prog.unfollowed 3) = true := by kernel_rfl
theorem row_recurses : (Rows.serveNoneUptoRow.recurses == Tryz.pinned.checked.prog.recurses 3) = true := by kernel_rfl
theorem row_named : (Rows.serveNoneUptoRow.named == Tryz.pinned.checked.prog.varsNamed 3) = true := by kernel_rfl
theorem row_plainKeys : (Rows.serveNoneUptoRow.plainKeys == Tryz.pinned.checked.prog.plainKeys) = true := by kernel_rfl
theorem row_heard : Tryz.pinned.checked.prog.stopsHeard = true := by kernel_rfl
theorem row_enter : Tryz.pinned.checked.prog.mayEnter = true := by kernel_rfl
theorem rowJoined : joinedFacts Tryz.pinned.checked.prog 3 Tryz.f3 (Rows.OpenSpec.upto Rows.serveNoneSpec).bare Rows.serveNoneUptoRow = true := by
  simp only [joinedFacts, row_laid, row_maps, row_inPlace, row_unfollowed, row_recurses, row_named, row_plainKeys, row_heard, row_enter, Bool.and_true, Bool.and_eq_true]
  repeat' refine And.intro ?_ ?_
  all_goals kernel_rfl
theorem rowInst : Func.isInstance Tryz.pinned.checked.prog Tryz.f3 Rows.serveNoneUptoRow.origin Rows.serveNoneUptoRow.targs := of_decide_eq_true (by kernel_rfl)
theorem rowWrap : Func.isWrapper Tryz.pinned.checked.prog Tryz.f3 Rows.serveNoneUptoRow.wrapper Rows.serveNoneUptoRow.mainSum := by
  unfold Func.isWrapper
  first
  | (rw [if_pos (by decide +kernel)]; kernel_rfl)
  | (rw [if_neg (by decide +kernel)]; exact ⟨rfl, rfl⟩)
theorem row_text : Rows.serveNoneUptoRow.wfByText (Rows.OpenSpec.upto Rows.serveNoneSpec) = true := by kernel_rfl
theorem row_looks : true = Tryz.pinned.checked.prog.looks [] := by kernel_rfl
theorem row_main : Tryz.pinned.checked.prog.mainIs = some (true, "6e7273fcdd872e50076b0caa854cafbad51bb68bd52083bafd34e8db37ae8565".toList) := by kernel_rfl
theorem no_go : (Tryz.pinned.checked.prog.funcs.toList.any Func.goes) = false := by kernel_rfl
theorem row_goes : false = Rows.serveNoneUptoRow.goesBy Tryz.pinned.checked.prog := Go.Ev.goes_none no_go _
theorem row_read : Go.Ev.paramsRead Tryz.prog [26] = true := by kernel_rfl
theorem row_types : Tryz.f3.params.toList = [26] := rfl
end Go.Proofs.YtildicgoadiodaaGreatDoor
