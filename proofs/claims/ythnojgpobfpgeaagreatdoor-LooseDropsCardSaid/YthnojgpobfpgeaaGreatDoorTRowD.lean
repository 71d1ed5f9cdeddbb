/- A law's arguments read behind the call as they did. -/
import Derived.Test.YthnojgpobfpgeaaGreatDoorEvEnv
import Derived.Carry
import Derived.ChangeOld
import Derived.ClaimOpenTies
import GoSem.ClaimGoes
import Derived.Test.YthnojgpobfpgeaaGreatDoorRows
import Derived.WalkKit
import Derived.ProofKit
import Derived.SevenTiedAt
import Derived.Test.YthnojgpobfpgeaaGreatDoorTLsH
import Derived.Test.YthnojgpobfpgeaaGreatDoorCards
import Derived.Test.YthnojgpobfpgeaaGreatDoorTie
import Derived.Lay
import Derived.LaidOnce
set_option linter.unusedVariables false
set_option linter.unusedSimpArgs false
namespace Go.Ev
open Go.RowKit Go.WideElems
variable [Sg]
omit [Sg] in
theorem trod_stays1 {H : Type} {enc : TypeId × Value -> H} {P : Program} (hl : laidOutB P = true) {W W' : World} (hb : Below W.heap.size W W') {t : TypeId} (hr : P.readableRec t = true) (ht : t < P.types.size)
    {v : Value} {d : DataW H} {ps : List MemPlace} (h : DataW.Trod enc P W 0 (fun _ => true) true t v d ps) : DataW.Trod enc P W' 0 (fun b => decide (b < W.heap.size)) true t v d ps := by
  obtain ⟨fuel, h⟩ := h
  have hp := DataW.trod_lt _ _ _ _ h
  exact ⟨fuel, DataW.trod_stays (kids_book hl hr) (book_sized hr) (fun h => by cases h) ⟨ht, book_self t⟩ h (fun x hx => hb.same (hp x hx)) (fun x hx => by simpa using hp x hx)⟩
def paramsRead (P : Program) (ts : List TypeId) : Bool := ts.all fun t => P.readableRec t && decide (t < P.types.size)
omit [Sg] in
theorem trodAll_stays {H : Type} {enc : TypeId × Value -> H} {P : Program} (hl : laidOutB P = true) {W W' : World} (hb : Below W.heap.size W W') :
    ∀ {ts : List TypeId} {vs : List Value} {ds : List (DataW H)} {ps : List MemPlace}, paramsRead P ts = true -> DataW.TrodAll enc P W 0 (fun _ => true) true ts vs ds ps -> DataW.TrodAll enc P W' 0 (fun b => decide (b < W.heap.size)) true ts vs ds ps
  | [], [], [], _, _, h => h
  | [], [], _ :: _, _, _, h => h.elim
  | [], _ :: _, _, _, _, h => h.elim
  | _ :: _, [], _, _, _, h => h.elim
  | _ :: _, _ :: _, [], _, _, h => h.elim
  | t :: ts, v :: vs, d :: ds, ps, hv, h => by
    obtain ⟨p, q, h1, h2, e⟩ := h
    have hv' : (P.readableRec t && decide (t < P.types.size) && paramsRead P ts) = true := hv
    simp only [Bool.and_eq_true, decide_eq_true_eq] at hv'
    exact ⟨p, q, trod_stays1 hl hb hv'.1.1 hv'.1.2 h1, trodAll_stays hl hb hv'.2 h2, e⟩
omit [Sg] in
theorem goes_none {P : Program} (h : (P.funcs.toList.any Func.goes) = false) (c : OpenClaim) : false = c.goesBy P := by
  have h1 : ∀ g : FuncId, ((P.funcs[g]?).any Func.goes) = false := fun g => by
    cases hg : P.funcs[g]? with
    | none => rfl
    | some fn =>
      have hm : fn ∈ P.funcs.toList := by simpa using Array.mem_of_getElem? hg
      have := List.any_eq_false.1 h fn hm
      simpa using this
  have h2 : ∀ f, P.goes f = false := fun f => by
    unfold Program.goes
    have a1 : ((P.closure f).any fun g => (P.funcs[g]?).any Func.goes) = false := by
      rw [List.any_eq_false]
      intro g _
      rw [h1 g]; simp
    have a2 : P.funcs.any Func.goes = false := by rw [<- Array.any_toList]; exact h
    rw [a1, a2]; simp
  have h3 : (P.funcNamed c.func).any P.goes = false := by
    cases P.funcNamed c.func with
    | none => rfl
    | some f => simpa using h2 f
  have h4 : P.inits.toList.any P.goes = false := by
    rw [List.any_eq_false]
    intro g _
    rw [h2 g]; simp
  unfold OpenClaim.goesBy Program.goesAt Program.goesFrom
  rw [h3]
  cases c.start <;> simp [h4]
end Go.Ev
namespace Go.Proofs.YthnojgpobfpgeaaGreatDoor
open Go.RowKit Go.ChangeShapes Go.WideShapes Go.ChangeAt Go.ChangeMaps
theorem rowNamed : Tryz.pinned.checked.prog.funcNamed Rows.looseDropsRow.func = some 5 := by kernel_rfl
theorem row_laid : laidOutB Tryz.pinned.checked.prog = true := by kernel_rfl
theorem row_maps : mapsRowed Tryz.pinned.checked.prog = true := by kernel_rfl
theorem row_inPlace : (Rows.looseDropsRow.inPlace == Tryz.pinned.checked.prog.inPlace 5) = true := by kernel_rfl
theorem row_unfollowed : (Rows.looseDropsRow.unfollowed == Tryz.pinned.checked.prog.unfollowed 5) = true := by kernel_rfl
theorem row_recurses : (Rows.looseDropsRow.recurses == Tryz.pinned.checked.prog.recurses 5) = true := by kernel_rfl
theorem row_named : (Rows.looseDropsRow.named == Tryz.pinned.checked.prog.varsNamed 5) = true := by kernel_rfl
theorem row_plainKeys : (Rows.looseDropsRow.plainKeys == Tryz.pinned.checked.prog.plainKeys) = true := by kernel_rfl
theorem row_heard : Tryz.pinned.checked.prog.stopsHeard = true := by kernel_rfl
theorem row_enter : Tryz.pinned.checked.prog.mayEnter = true := by kernel_rfl
theorem rowJoined : joinedFacts Tryz.pinned.checked.prog 5 Tryz.f5 Rows.looseDropsSpec Rows.looseDropsRow = true := by
  simp only [joinedFacts, row_laid, row_maps, row_inPlace, row_unfollowed, row_recurses, row_named, row_plainKeys, row_heard, row_enter, Bool.and_true, Bool.and_eq_true]
  repeat' refine And.intro ?_ ?_
  all_goals kernel_rfl
theorem rowInst : Func.isInstance Tryz.pinned.checked.prog Tryz.f5 Rows.looseDropsRow.origin Rows.looseDropsRow.targs := of_decide_eq_true (by kernel_rfl)
theorem rowWrap : Func.isWrapper Tryz.pinned.checked.prog Tryz.f5 Rows.looseDropsRow.wrapper Rows.looseDropsRow.mainSum := by
  unfold Func.isWrapper
  first
  | (rw [if_pos (by decide +kernel)]; kernel_rfl)
  | (rw [if_neg (by decide +kernel)]; exact ⟨rfl, rfl⟩)
theorem row_text : Rows.looseDropsRow.wfByText (OpenSpec.ofChange Rows.looseDropsSpec) = true := by kernel_rfl
theorem row_looks : true = Tryz.pinned.checked.prog.looks [] := by kernel_rfl
theorem row_main : Tryz.pinned.checked.prog.mainIs = some (true, "ace8e27d624056af9a59089a90886ab355b6b144509bdbceac3b329c15bdd12f".toList) := by kernel_rfl
theorem no_go : (Tryz.pinned.checked.prog.funcs.toList.any Func.goes) = false := by kernel_rfl
theorem row_goes : false = Rows.looseDropsRow.goesBy Tryz.pinned.checked.prog := Go.Ev.goes_none no_go _
theorem row_read : Go.Ev.paramsRead Tryz.prog [39, 3] = true := by kernel_rfl
theorem row_types : Tryz.f5.params.toList = [39, 3] := rfl
end Go.Proofs.YthnojgpobfpgeaaGreatDoor
namespace Go.Proofs.YthnojgpobfpgeaaGreatDoor
open Go.RowKit Go.ChangeShapes Go.WideShapes Go.ChangeAt Go.ChangeMaps
theorem own : ownKnob Tryz.prog.godebug = none := by kernel_rfl
set_option maxRecDepth 100000 in
theorem lifted (os : Os) (started : os.Started) (H : Type) (enc : TypeId × Value -> H) :
    ReturnsInHanded {} Tryz.checked os 5 .any (fun w args => (Rows.looseDropsSpec.pre enc Tryz.prog Tryz.f5 [] false w args /\ laidMetH Tryz.prog Rows.looseDropsRow.laid w) /\ sizedMet enc Tryz.prog Tryz.f5 (OpenSpec.ofChange Rows.looseDropsSpec) false w args)
      (Rows.looseDropsSpec.post enc Tryz.prog Tryz.f5 false true false false) := by
  refine returnsInHanded_of_change_and (C := Tryz.checked) (X := fun w _ => laidMetH Tryz.prog Rows.looseDropsRow.laid w) (fun _ _ _ hh h => h.of_heap hh) own started (by kernel_rfl) Tryz.func5
    (ChangeSpec.witness_shaped (enc := enc) (C := Tryz.checked) (os := os) (X := fun w _ => laidMetH Tryz.prog Rows.looseDropsRow.laid w) false (World.laidAll Tryz.prog os Rows.looseDropsRow.laid) #[.slice none 0 0, .int .i64 0] 8 (World.laidAll_os _ _ _)
      (World.shaped_of_ZipB (by kernel_rfl) (by kernel_rfl)) (by kernel_rfl) (by kernel_rfl) (by kernel_rfl)
      (by rw [MakeChecks.laidMetH_plain _ _ _ (by kernel_rfl)]; exact laidMet_laidAll _ (by kernel_rfl) (by kernel_rfl))) ?_
  intro W base args ds gs before hval0 hW _ _ _ _
  have hval : ∀ (j : Nat) t v, Tryz.f5.params[j]? = some t -> args[j]? = some v -> Value.okWide Tryz.prog W .any base t v := hval0
  have hW' := hW
  obtain ⟨p, q, hA0, hV, rfl, _, _⟩ := hW
  have hA : DataW.TrodAll enc Tryz.prog W 0 (fun _ => true) true [39, 3] args.toList ds p := hA0
  obtain ⟨rfl, rfl⟩ := trodVars_none hV
  obtain ⟨v0, v1, d0, d1, p0, p1, rfl, rfl, rfl, ⟨f0, h0⟩, h1⟩ := trodAll_two hA
  obtain ⟨a0, n0, c0, rfl⟩ := okWide_slice Tryz.underlying39 (hval 0 39 v0 rfl rfl)
  obtain ⟨x, rfl, rfl, rfl, wx⟩ := open_int Tryz.underlying3 (hval 1 3 v1 rfl rfl) h1
  obtain ⟨T, hT⟩ := args_of Tryz.underlying39 Tryz.underlying9 (by kernel_rfl) h0
  have hcalls := drops_calls hT (c := c0) x
  refine hcalls.mono fun e W' ⟨he, hb⟩ => ?_
  subst he
  exact ⟨_, rfl, _, _, _, [], _, [], hW', trodAll_mk1 (shut_bool Tryz.underlying4 _), Go.Ev.trodAll_stays row_laid hb row_read hA0, rfl, hb.frame _, fun h => by cases h⟩
theorem looseDrops_row : Rows.LooseDropsSaid :=
  OpenClaim.holds_of_wide 5 Tryz.f5 rfl rfl rfl rfl rfl rfl rfl ⟨rfl, rfl, rfl, rfl, rfl⟩ rfl rfl rfl rfl rfl rowNamed Tryz.func5 rowJoined rowInst rowWrap
    (fun os started H enc _ => lifted os started H enc)
theorem looseDrops_card : Rows.LooseDropsCardSaid :=
  Claim7.holds_tied_plain_at .later [] [.data, .pinned] true (true, "ace8e27d624056af9a59089a90886ab355b6b144509bdbceac3b329c15bdd12f") true looseDrops_row (fun _ h => by cases h) row_text (fun _ h => by cases h) looseDrops_row_tie rfl ⟨rfl, rfl⟩ row_main rfl
    (fun f fn hf hfn => by
      obtain rfl : f = 5 := Option.some.inj (rowNamed.symm.trans hf) |>.symm
      obtain rfl : fn = Tryz.f5 := (Option.some.inj (Tryz.func5.symm.trans hfn)).symm
      exact ⟨row_looks, fun j t ht => by
        have hm : t ∈ [39, 3] := by
          have h2 : t ∈ Tryz.f5.params.toList := by simpa using Array.mem_of_getElem? ht
          rw [row_types] at h2
          exact h2
        have hall : ([39, 3].all fun u => !Tryz.prog.wantsStandIn u) = true := by kernel_rfl
        exact (show Tryz.prog.wantsStandIn t = false by simpa using List.all_eq_true.1 hall t hm)⟩)
    row_goes
#print axioms looseDrops_card
end Go.Proofs.YthnojgpobfpgeaaGreatDoor
