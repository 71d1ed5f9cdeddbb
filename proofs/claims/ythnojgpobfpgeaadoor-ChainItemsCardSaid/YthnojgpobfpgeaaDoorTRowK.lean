/- The row and the card. -/
import Derived.Test.YthnojgpobfpgeaaDoorTOpenK
import Derived.Test.YthnojgpobfpgeaaDoorTFactsK
import Derived.Test.YthnojgpobfpgeaaDoorRows
import Derived.Test.YthnojgpobfpgeaaDoorCards
import Derived.Test.YthnojgpobfpgeaaDoorTie
import Derived.WalkKit
import Derived.ProofKit
import Derived.Lay
import Derived.LaidOnce
import Derived.SevenTiedAt
/-! The row and the card. -/
namespace Go.Proofs.YthnojgpobfpgeaaDoor
open Go.RowKit Go.ChangeShapes Go.WideShapes Go.ChangeAt Go.ChangeMaps

theorem own : ownKnob Tryd.prog.godebug = none := by kernel_rfl
set_option maxRecDepth 100000 in
theorem lifted (os : Os) (started : os.Started) (H : Type) (enc : TypeId × Value → H) :
  ReturnsInHanded {} Tryd.checked os 3 .any (fun w args => (Rows.chainItemsSpec.pre enc Tryd.prog Tryd.f3 [] false w args ∧ laidMetH Tryd.prog Rows.chainItemsRow.laid w) ∧ sizedMet enc Tryd.prog Tryd.f3 (OpenSpec.ofChange Rows.chainItemsSpec) false w args)
   (Rows.chainItemsSpec.post enc Tryd.prog Tryd.f3 false true false false) := by
 refine returnsInHanded_of_change_and (C := Tryd.checked) (X := fun w _ => laidMetH Tryd.prog Rows.chainItemsRow.laid w) (fun _ _ _ hh h => h.of_heap hh) own started (by kernel_rfl) Tryd.func3
  (ChangeSpec.witness_shaped (enc := enc) (C := Tryd.checked) (os := os) (X := fun w _ => laidMetH Tryd.prog Rows.chainItemsRow.laid w) false (World.laidAll Tryd.prog os Rows.chainItemsRow.laid) #[.slice none 0 0, .slice none 0 0] 8 (World.laidAll_os _ _ _)
   (World.shaped_of_ZipB (by kernel_rfl) (by kernel_rfl)) (by kernel_rfl) (by kernel_rfl) (by kernel_rfl)
   (by rw [MakeChecks.laidMetH_plain _ _ _ (by kernel_rfl)]; exact laidMet_laidAll _ (by kernel_rfl) (by kernel_rfl))) ?_
 intro W base args ds gs before hval0 hW _ _ _ _
 have hval : ∀ (j : Nat) t v, Tryd.f3.params[j]? = some t → args[j]? = some v → Value.okWide Tryd.prog W .any base t v := hval0
 have hW' := hW
 obtain ⟨p, q, hA0, hV, rfl, _, _⟩ := hW
 have hA : DataW.TrodAll enc Tryd.prog W 0 (fun _ => true) true [22, 23] args.toList ds p := hA0
 obtain ⟨rfl, rfl⟩ := trodVars_none hV
 obtain ⟨v0, v1, d0, d1, p0, p1, rfl, rfl, rfl, ⟨f0, h0⟩, ⟨f1, h1⟩⟩ := trodAll_two hA
 obtain ⟨a0, n0, c0, rfl⟩ := okWide_slice Tryd.underlying22 (hval 0 22 v0 rfl rfl)
 obtain ⟨a1, n1, c1, rfl⟩ := okWide_slice Tryd.underlying23 (hval 1 23 v1 rfl rfl)
 obtain ⟨L, hL, hc0, hm0, hC0⟩ := strs_of Tryd.underlying22 Tryd.underlying9 (by kernel_rfl) h0
 obtain ⟨B, hB, hc1, _, hC1⟩ := ints_of Tryd.underlying23 Tryd.underlying3 (by kernel_rfl) h1
 have hcalls := law_calls hL hc0 hm0 hC0 hB hc1 hC1
 refine hcalls.mono fun e W' ⟨he, hb⟩ => ?_
 subst he
 exact ⟨_, rfl, _, _, _, [], _, [], hW', trodAll_mk1 (shut_bool Tryd.underlying4 _), Go.Ev.trodAll_stays row_laid hb row_read hA0, rfl, hb.frame _, fun h => by cases h⟩

theorem chainItems_row : Rows.ChainItemsSaid :=
 OpenClaim.holds_of_wide 3 Tryd.f3 rfl rfl rfl rfl rfl rfl rfl ⟨rfl, rfl, rfl, rfl, rfl⟩ rfl rfl rfl rfl rfl rowNamed Tryd.func3 rowJoined rowInst rowWrap
  (fun os started H enc _ => lifted os started H enc)

theorem chainItems_card : Rows.ChainItemsCardSaid :=
 Claim7.holds_tied_plain_at .later [] [.data, .pinned] true (true, "cc6a1ee77b248a192bf8c919ba8eecd19eaf8f3fdd6302e2b7dea02a7c61e663") false chainItems_row (fun _ h => by cases h) row_text (fun _ h => by cases h) chainItems_row_tie rfl ⟨rfl, rfl⟩ row_main rfl
  (fun f fn hf hfn => by
   obtain rfl : f = 3 := Option.some.inj (rowNamed.symm.trans hf) |>.symm
   obtain rfl : fn = Tryd.f3 := (Option.some.inj (Tryd.func3.symm.trans hfn)).symm
   exact ⟨row_looks, fun j t ht => by
    have hm : t ∈ [22, 23] := by
     have h2 : t ∈ Tryd.f3.params.toList := by simpa using Array.mem_of_getElem? ht
     rw [row_types] at h2
     exact h2
    have hall : ([22, 23].all fun u => !Tryd.prog.wantsStandIn u) = true := by kernel_rfl
    exact (show Tryd.prog.wantsStandIn t = false by simpa using List.all_eq_true.1 hall t hm)⟩)
  row_goes
#print axioms chainItems_card
end Go.Proofs.YthnojgpobfpgeaaDoor
