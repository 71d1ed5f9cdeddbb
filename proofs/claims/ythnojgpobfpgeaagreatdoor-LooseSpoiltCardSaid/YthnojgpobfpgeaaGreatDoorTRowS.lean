/- The row and the card. -/
import Derived.Test.YthnojgpobfpgeaaGreatDoorTLooS
import Derived.Test.YthnojgpobfpgeaaGreatDoorTFactsS
import Derived.Test.YthnojgpobfpgeaaGreatDoorRows
import Derived.Test.YthnojgpobfpgeaaGreatDoorCards
import Derived.Test.YthnojgpobfpgeaaGreatDoorTie
import Derived.WalkKit
import Derived.ProofKit
import Derived.Lay
import Derived.LaidOnce
import Derived.SevenTiedAt
/-! The row and the card. -/
namespace Go.Proofs.YthnojgpobfpgeaaGreatDoor
open Go.RowKit Go.ChangeShapes Go.WideShapes Go.ChangeAt Go.ChangeMaps

theorem own : ownKnob Tryz.prog.godebug = none := by kernel_rfl
set_option maxRecDepth 100000 in
theorem lifted (os : Os) (started : os.Started) (H : Type) (enc : TypeId × Value → H) :
  ReturnsInHanded {} Tryz.checked os 3 .any (fun w args => (Rows.looseSpoiltSpec.pre enc Tryz.prog Tryz.f3 [] false w args ∧ laidMetH Tryz.prog Rows.looseSpoiltRow.laid w) ∧ sizedMet enc Tryz.prog Tryz.f3 (OpenSpec.ofChange Rows.looseSpoiltSpec) false w args)
   (Rows.looseSpoiltSpec.post enc Tryz.prog Tryz.f3 false true false false) := by
 refine returnsInHanded_of_change_and (C := Tryz.checked) (X := fun w _ => laidMetH Tryz.prog Rows.looseSpoiltRow.laid w) (fun _ _ _ hh h => h.of_heap hh) own started (by kernel_rfl) Tryz.func3
  (ChangeSpec.witness_shaped (enc := enc) (C := Tryz.checked) (os := os) (X := fun w _ => laidMetH Tryz.prog Rows.looseSpoiltRow.laid w) false (World.laidAll Tryz.prog os Rows.looseSpoiltRow.laid) #[.string ⟨#[]⟩, .string ⟨#[]⟩] 8 (World.laidAll_os _ _ _)
   (World.shaped_of_ZipB (by kernel_rfl) (by kernel_rfl)) (by kernel_rfl) (by kernel_rfl) (by kernel_rfl)
   (by rw [MakeChecks.laidMetH_plain _ _ _ (by kernel_rfl)]; exact laidMet_laidAll _ (by kernel_rfl) (by kernel_rfl))) ?_
 intro W base args ds gs before hval0 hW _ _ _ _
 have hval : ∀ (j : Nat) t v, Tryz.f3.params[j]? = some t → args[j]? = some v → Value.okWide Tryz.prog W .any base t v := hval0
 have hW' := hW
 obtain ⟨p, q, hA0, hV, rfl, _, _⟩ := hW
 have hA : DataW.TrodAll enc Tryz.prog W 0 (fun _ => true) true [9, 9] args.toList ds p := hA0
 obtain ⟨rfl, rfl⟩ := trodVars_none hV
 obtain ⟨v0, v1, d0, d1, p0, p1, rfl, rfl, rfl, h0, h1⟩ := trodAll_two hA
 obtain ⟨s, rfl, rfl, rfl, ws⟩ := open_string Tryz.underlying9 (hval 0 9 v0 rfl rfl) h0
 obtain ⟨x, rfl, rfl, rfl, wx⟩ := open_string Tryz.underlying9 (hval 1 9 v1 rfl rfl) h1
 have hcalls := spoilt_calls s x W
 refine hcalls.mono fun e W' ⟨he, hb⟩ => ?_
 subst he
 exact ⟨_, rfl, _, _, _, [], _, [], hW', trodAll_mk1 (shut_bool Tryz.underlying4 _), Go.Ev.trodAll_stays row_laid hb row_read hA0, rfl, hb.frame _, fun h => by cases h⟩

theorem looseSpoilt_row : Rows.LooseSpoiltSaid :=
 OpenClaim.holds_of_wide 3 Tryz.f3 rfl rfl rfl rfl rfl rfl rfl ⟨rfl, rfl, rfl, rfl, rfl⟩ rfl rfl rfl rfl rfl rowNamed Tryz.func3 rowJoined rowInst rowWrap
  (fun os started H enc _ => lifted os started H enc)

theorem looseSpoilt_card : Rows.LooseSpoiltCardSaid :=
 Claim7.holds_tied_plain_at .later [] [.data, .pinned] true (true, "ace8e27d624056af9a59089a90886ab355b6b144509bdbceac3b329c15bdd12f") true looseSpoilt_row (fun _ h => by cases h) row_text (fun _ h => by cases h) looseSpoilt_row_tie rfl ⟨rfl, rfl⟩ row_main rfl
  (fun f fn hf hfn => by
   obtain rfl : f = 3 := Option.some.inj (rowNamed.symm.trans hf) |>.symm
   obtain rfl : fn = Tryz.f3 := (Option.some.inj (Tryz.func3.symm.trans hfn)).symm
   exact ⟨row_looks, fun j t ht => by
    have hm : t ∈ [9, 9] := by
     have h2 : t ∈ Tryz.f3.params.toList := by simpa using Array.mem_of_getElem? ht
     rw [row_types] at h2
     exact h2
    have hall : ([9, 9].all fun u => !Tryz.prog.wantsStandIn u) = true := by kernel_rfl
    exact (show Tryz.prog.wantsStandIn t = false by simpa using List.all_eq_true.1 hall t hm)⟩)
  row_goes
#print axioms looseSpoilt_card
end Go.Proofs.YthnojgpobfpgeaaGreatDoor
