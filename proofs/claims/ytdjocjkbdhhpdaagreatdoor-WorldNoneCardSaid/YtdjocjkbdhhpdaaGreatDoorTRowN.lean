/- The row and the card. -/
import Derived.Test.YtdjocjkbdhhpdaaGreatDoorTFinN
import Derived.Test.YtdjocjkbdhhpdaaGreatDoorTFactsN
import Derived.Test.YtdjocjkbdhhpdaaGreatDoorRows
import Derived.Test.YtdjocjkbdhhpdaaGreatDoorCards
import Derived.Test.YtdjocjkbdhhpdaaGreatDoorTie
import Derived.WalkKit
import Derived.ProofKit
import Derived.Lay
import Derived.LaidOnce
import Derived.SevenTiedAt
/-! The row and the card. -/
namespace Go.Proofs.YtdjocjkbdhhpdaaGreatDoor
open Go.RowKit Go.ChangeShapes Go.WideShapes Go.ChangeAt Go.ChangeMaps

theorem own : ownKnob Tryz.prog.godebug = none := by kernel_rfl
set_option maxRecDepth 100000 in
set_option maxHeartbeats 400000 in
theorem lifted (os : Os) (started : os.Started) (H : Type) (enc : TypeId × Value → H) :
    ReturnsInHanded {} Tryz.checked os 5 .any (fun w args => (Rows.worldNoneSpec.pre enc Tryz.prog Tryz.f5 [] false w args ∧ laidMetH Tryz.prog Rows.worldNoneRow.laid w) ∧ sizedMet enc Tryz.prog Tryz.f5 (OpenSpec.ofChange Rows.worldNoneSpec) false w args)
      (Rows.worldNoneSpec.post enc Tryz.prog Tryz.f5 false true false false) := by
  refine returnsInHanded_of_change_and (C := Tryz.checked) (X := fun w _ => laidMetH Tryz.prog Rows.worldNoneRow.laid w) (fun _ _ _ hh h => h.of_heap hh) own started (by kernel_rfl) Tryz.func5
    (ChangeSpec.witness_shaped (enc := enc) (C := Tryz.checked) (os := os) (X := fun w _ => laidMetH Tryz.prog Rows.worldNoneRow.laid w) false (World.laidAll Tryz.prog os Rows.worldNoneRow.laid) #[.agg #[.int .i64 0, .int .i64 0, .int .i64 0, .int .i64 0, .string ⟨#[]⟩, .slice none 0 0, .string ⟨#[]⟩, .int .u64 0, .string ⟨#[]⟩, .int .i64 0, .int .u64 0, .int .i64 0]] 8 (World.laidAll_os _ _ _)
      (World.shaped_of_ZipB (by kernel_rfl) (by kernel_rfl)) (by kernel_rfl) (by kernel_rfl) (by kernel_rfl)
      (by rw [MakeChecks.laidMetH_plain _ _ _ (by kernel_rfl)]; exact laidMet_laidAll _ (by kernel_rfl) (by kernel_rfl))) ?_
  intro W base args ds gs before hval0 hW _ _ _ _
  have hval : ∀ (j : Nat) t v, Tryz.f5.params[j]? = some t → args[j]? = some v → Value.okWide Tryz.prog W .any base t v := hval0
  have hW' := hW
  obtain ⟨p, q, hA0, hV, rfl, _, _⟩ := hW
  have hA : DataW.TrodAll enc Tryz.prog W 0 (fun _ => true) true [32] args.toList ds p := hA0
  obtain ⟨rfl, rfl⟩ := trodVars_none hV
  obtain ⟨v0, d0, rfl, rfl, h0⟩ := trodAll_one hA
  have hok := hval 0 32 v0 rfl rfl
  have hu := Tryz.underlying32
  unfold Value.okWide at hok
  rw [hu] at hok
  obtain ⟨⟨cs⟩, rfl, hsz, ts, hts, _, hcell⟩ := hok
  have hts' : Tryz.prog.cellTypes Tryz.prog.depth 32 = some [3, 3, 3, 3, 9, 25, 9, 26, 9, 3, 26, 3] := by kernel_rfl
  rw [hts'] at hts
  cases hts
  have hn : cs.length = 12 := by
    have : Tryz.prog.cellsOf 32 = 12 := by kernel_rfl
    rw [this] at hsz; exact hsz
  obtain ⟨c0, c1, c2, c3, c4, c5, c6, c7, c8, c9, c10, c11, rfl⟩ := Go.Ev.twelve cs hn
  have at_ : ∀ (i : Nat) (u : TypeId) (c : Value), ([3, 3, 3, 3, 9, 25, 9, 26, 9, 3, 26, 3] : List TypeId)[i % 12]? = some u → (#[c0, c1, c2, c3, c4, c5, c6, c7, c8, c9, c10, c11] : Array Value)[i]? = some c → Cell.okWide Tryz.prog W .any base u c := fun i u c hu hc => by
    obtain ⟨u', h1, h2⟩ := hcell i c hc
    have e : some u' = some u := h1.symm.trans hu
    cases e
    exact h2
  have u3 : Tryz.prog.underlying 3 = some (.int .i64) := Tryz.underlying3
  have u9 : Tryz.prog.underlying 9 = some .string := Tryz.underlying9
  have u26 : Tryz.prog.underlying 26 = some (.int .u64) := Tryz.underlying26
  have u25 := Tryz.underlying25
  have hcalls := law_calls c0 c1 c2 c3 c4 c5 c6 c7 c8 c9 c10 c11
    (Go.Ev.cell_plain u3 rfl (at_ 0 3 c0 rfl rfl)) (Go.Ev.cell_plain u3 rfl (at_ 1 3 c1 rfl rfl)) (Go.Ev.cell_plain u3 rfl (at_ 2 3 c2 rfl rfl)) (Go.Ev.cell_plain u3 rfl (at_ 3 3 c3 rfl rfl)) (Go.Ev.cell_plain u9 rfl (at_ 4 9 c4 rfl rfl))
    (Go.Ev.cell_slice u25 (at_ 5 25 c5 rfl rfl))
    (Go.Ev.cell_plain u9 rfl (at_ 6 9 c6 rfl rfl)) (Go.Ev.cell_plain u26 rfl (at_ 7 26 c7 rfl rfl)) (Go.Ev.cell_plain u9 rfl (at_ 8 9 c8 rfl rfl)) (Go.Ev.cell_plain u3 rfl (at_ 9 3 c9 rfl rfl)) (Go.Ev.cell_plain u26 rfl (at_ 10 26 c10 rfl rfl)) (Go.Ev.cell_plain u3 rfl (at_ 11 3 c11 rfl rfl)) W
  refine hcalls.mono fun e W' ⟨he, hb⟩ => ?_
  subst he
  exact ⟨_, rfl, _, _, _, [], _, [], hW', trodAll_mk1 (shut_bool Tryz.underlying4 _), Go.Ev.trodAll_stays row_laid hb row_read hA0, rfl, hb.frame _, fun h => by cases h⟩

theorem worldNone_row : Rows.WorldNoneSaid :=
  OpenClaim.holds_of_wide 5 Tryz.f5 rfl rfl rfl rfl rfl rfl rfl ⟨rfl, rfl, rfl, rfl, rfl⟩ rfl rfl rfl rfl rfl rowNamed Tryz.func5 rowJoined rowInst rowWrap
    (fun os started H enc _ => lifted os started H enc)

theorem worldNone_card : Rows.WorldNoneCardSaid :=
  Claim7.holds_tied_plain_at .later [] [.data, .pinned] true (true, "f3dbe281536021654853baeff578109e689837a08ac7a9773804881d42aa037b") true worldNone_row (fun _ h => by cases h) row_text (fun _ h => by cases h) worldNone_row_tie rfl ⟨rfl, rfl⟩ row_main rfl
    (fun f fn hf hfn => by
      obtain rfl : f = 5 := Option.some.inj (rowNamed.symm.trans hf) |>.symm
      obtain rfl : fn = Tryz.f5 := (Option.some.inj (Tryz.func5.symm.trans hfn)).symm
      exact ⟨row_looks, fun j t ht => by
        have hm : t ∈ [32] := by
          have h2 : t ∈ Tryz.f5.params.toList := by simpa using Array.mem_of_getElem? ht
          rw [row_types] at h2
          exact h2
        have hall : ([32].all fun u => !Tryz.prog.wantsStandIn u) = true := by kernel_rfl
        exact (show Tryz.prog.wantsStandIn t = false by simpa using List.all_eq_true.1 hall t hm)⟩)
    row_goes
#print axioms worldNone_card
end Go.Proofs.YtdjocjkbdhhpdaaGreatDoor
