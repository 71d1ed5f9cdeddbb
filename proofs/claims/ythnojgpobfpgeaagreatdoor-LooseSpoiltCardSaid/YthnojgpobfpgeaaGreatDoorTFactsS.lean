/- A law's arguments read behind the call as they did. -/
import Derived.Test.YthnojgpobfpgeaaGreatDoorEvEnv
import Derived.Carry
import Derived.ChangeOld
import Derived.ClaimOpenTies
import GoSem.ClaimGoes
import Derived.Test.YthnojgpobfpgeaaGreatDoorRows
import Derived.WalkKit
import Derived.ProofKit
import Derived.SevenTiedAt
/-! A law's arguments read behind the call as they did. -/
namespace Go.Ev
open Go.RowKit Go.WideElems
variable [Sg]

omit [Sg] in
theorem trod_stays1 {H : Type} {enc : TypeId × Value → H} {P : Program} (hl : laidOutB P = true) {W W' : World} (hb : Below W.heap.size W W') {t : TypeId} (hr : P.readableRec t = true) (ht : t < P.types.size)
  {v : Value} {d : DataW H} {ps : List MemPlace} (h : DataW.Trod enc P W 0 (fun _ => true) true t v d ps) : DataW.Trod enc P W' 0 (fun b => decide (b < W.heap.size)) true t v d ps := by
 obtain ⟨fuel, h⟩ := h
 have hp := DataW.trod_lt _ _ _ _ h
 exact ⟨fuel, DataW.trod_stays (kids_book hl hr) (book_sized hr) (fun h => by cases h) ⟨ht, book_self t⟩ h (fun x hx => hb.same (hp x hx)) (fun x hx => by simpa using hp x hx)⟩

/-- One closed fact: the parameters' types can be read. -/
def paramsRead (P : Program) (ts : List TypeId) : Bool := ts.all fun t => P.readableRec t && decide (t < P.types.size)

omit [Sg] in
theorem trodAll_stays {H : Type} {enc : TypeId × Value → H} {P : Program} (hl : laidOutB P = true) {W W' : World} (hb : Below W.heap.size W W') :
  ∀ {ts : List TypeId} {vs : List Value} {ds : List (DataW H)} {ps : List MemPlace}, paramsRead P ts = true → DataW.TrodAll enc P W 0 (fun _ => true) true ts vs ds ps → DataW.TrodAll enc P W' 0 (fun b => decide (b < W.heap.size)) true ts vs ds ps
 | [], [], [], _, _, h => h
 | [], [], _ :: _, _, _, h => h.elim
 | [], _ :: _, _, _, _, h => h.elim
 | _ :: _, [], _, _, _, h => h.elim
 | _ :: _, _ :: _, [], _, _, h => h.elim
 | t :: ts, v :: vs, d :: ds, ps, hv, h => by
  obtain ⟨p, q, h1, h2, e⟩ := h
  have hv' : (P.readableRec t && decide (t < P.types.size) && paramsRead P ts) = true := hv
  simp only [Bool.and_eq_true, decide_eq_true_eq] at hv'
  exact ⟨p, q, trod_stays1 hl hb hv'.1.1 hv'.1.2 h1, trodAll_stays hl hb hv'.2 h2, e⟩

omit [Sg] in
/-- Where no body of the program starts a goroutine, no row does. -/
theorem goes_none {P : Program} (h : (P.funcs.toList.any Func.goes) = false) (c : OpenClaim) : false = c.goesBy P := by
 have h1 : ∀ g : FuncId, ((P.funcs[g]?).any Func.goes) = false := fun g => by
  cases hg : P.funcs[g]? with
  | none => rfl
  | some fn =>
   have hm : fn ∈ P.funcs.toList := by simpa using Array.mem_of_getElem? hg
   have := List.any_eq_false.1 h fn hm
   simpa using this
 have h2 : ∀ f, P.goes f = false := fun f => by
  unfold Program.goes
  have a1 : ((P.closure f).any fun g => (P.funcs[g]?).any Func.goes) = false := by
   rw [List.any_eq_false]
   intro g _
   rw [h1 g]; simp
  have a2 : P.funcs.any Func.goes = false := by rw [← Array.any_toList]; exact h
  rw [a1, a2]; simp
 have h3 : (P.funcNamed c.func).any P.goes = false := by
  cases P.funcNamed c.func with
  | none => rfl
  | some f => simpa using h2 f
 have h4 : P.inits.toList.any P.goes = false := by
  rw [List.any_eq_false]
  intro g _
  rw [h2 g]; simp
 unfold OpenClaim.goesBy Program.goesAt Program.goesFrom
 rw [h3]
 cases c.start <;> simp [h4]
end Go.Ev

/-! The row's closed facts, each in a declaration of its own: one theorem for all of them is too much for the kernel's memory. -/
namespace Go.Proofs.YthnojgpobfpgeaaGreatDoor
open Go.RowKit Go.ChangeShapes Go.WideShapes Go.ChangeAt Go.ChangeMaps

theorem rowNamed : Tryz.pinned.checked.prog.funcNamed Rows.looseSpoiltRow.func = some 3 := by kernel_rfl
theorem row_laid : laidOutB Tryz.pinned.checked.prog = true := by kernel_rfl
theorem row_maps : mapsRowed Tryz.pinned.checked.prog = true := by kernel_rfl
theorem row_inPlace : (Rows.looseSpoiltRow.inPlace == Tryz.pinned.checked.prog.inPlace 3) = true := by kernel_rfl
theorem row_unfollowed : (Rows.looseSpoiltRow.unfollowed == Tryz.pinned.checked.prog.unfollowed 3) = true := by kernel_rfl
theorem row_recurses : (Rows.looseSpoiltRow.recurses == Tryz.pinned.checked.prog.recurses 3) = true := by kernel_rfl
theorem row_named : (Rows.looseSpoiltRow.named == Tryz.pinned.checked.prog.varsNamed 3) = true := by kernel_rfl
theorem row_plainKeys : (Rows.looseSpoiltRow.plainKeys == Tryz.pinned.checked.prog.plainKeys) = true := by kernel_rfl
theorem row_heard : Tryz.pinned.checked.prog.stopsHeard = true := by kernel_rfl
theorem row_enter : Tryz.pinned.checked.prog.mayEnter = true := by kernel_rfl
theorem rowJoined : joinedFacts Tryz.pinned.checked.prog 3 Tryz.f3 Rows.looseSpoiltSpec Rows.looseSpoiltRow = true := by
 simp only [joinedFacts, row_laid, row_maps, row_inPlace, row_unfollowed, row_recurses, row_named, row_plainKeys, row_heard, row_enter, Bool.and_true, Bool.and_eq_true]
 repeat' refine And.intro ?_ ?_
 all_goals kernel_rfl
theorem rowInst : Func.isInstance Tryz.pinned.checked.prog Tryz.f3 Rows.looseSpoiltRow.origin Rows.looseSpoiltRow.targs := of_decide_eq_true (by kernel_rfl)
theorem rowWrap : Func.isWrapper Tryz.pinned.checked.prog Tryz.f3 Rows.looseSpoiltRow.wrapper Rows.looseSpoiltRow.mainSum := by
 unfold Func.isWrapper
 first
 | (rw [if_pos (by decide +kernel)]; kernel_rfl)
 | (rw [if_neg (by decide +kernel)]; exact ⟨rfl, rfl⟩)
theorem row_text : Rows.looseSpoiltRow.wfByText (OpenSpec.ofChange Rows.looseSpoiltSpec) = true := by kernel_rfl
theorem row_looks : true = Tryz.pinned.checked.prog.looks [] := by kernel_rfl
theorem row_main : Tryz.pinned.checked.prog.mainIs = some (true, "ace8e27d624056af9a59089a90886ab355b6b144509bdbceac3b329c15bdd12f".toList) := by kernel_rfl
theorem no_go : (Tryz.pinned.checked.prog.funcs.toList.any Func.goes) = false := by kernel_rfl
theorem row_goes : false = Rows.looseSpoiltRow.goesBy Tryz.pinned.checked.prog := Go.Ev.goes_none no_go _
theorem row_read : Go.Ev.paramsRead Tryz.prog [9, 9] = true := by kernel_rfl
theorem row_types : Tryz.f3.params.toList = [9, 9] := rfl
end Go.Proofs.YthnojgpobfpgeaaGreatDoor
