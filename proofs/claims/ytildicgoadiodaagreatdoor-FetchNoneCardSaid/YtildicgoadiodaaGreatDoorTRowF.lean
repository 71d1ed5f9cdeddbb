/- The row and the card. -/
import Derived.Test.YtildicgoadiodaaGreatDoorTFinF
import Derived.Test.YtildicgoadiodaaGreatDoorTFactsF
import Derived.Test.YtildicgoadiodaaGreatDoorRows
import Derived.Test.YtildicgoadiodaaGreatDoorCards
import Derived.Test.YtildicgoadiodaaGreatDoorTie
import Derived.WalkKit
import Derived.ProofKit
import Derived.Lay
import Derived.LaidOnce
import Derived.SevenTiedAt
/-! The row and the card. -/
namespace Go.Proofs.YtildicgoadiodaaGreatDoor
open Go.RowKit Go.ChangeShapes Go.WideShapes Go.ChangeAt Go.ChangeMaps

theorem own : ownKnob Tryz.prog.godebug = none := by kernel_rfl
set_option maxRecDepth 100000 in
theorem lifted (os : Os) (started : os.Started) (H : Type) (enc : TypeId × Value → H) :
    ReturnsInHanded {} Tryz.checked os 4 .any (fun w args => (Rows.fetchNoneSpec.pre enc Tryz.prog Tryz.f4 [] false w args ∧ laidMetH Tryz.prog Rows.fetchNoneRow.laid w) ∧ sizedMet enc Tryz.prog Tryz.f4 (OpenSpec.ofChange Rows.fetchNoneSpec) false w args)
      (Rows.fetchNoneSpec.post enc Tryz.prog Tryz.f4 false true false false) := by
  refine returnsInHanded_of_change_and (C := Tryz.checked) (X := fun w _ => laidMetH Tryz.prog Rows.fetchNoneRow.laid w) (fun _ _ _ hh h => h.of_heap hh) own started (by kernel_rfl) Tryz.func4
    (ChangeSpec.witness_shaped (enc := enc) (C := Tryz.checked) (os := os) (X := fun w _ => laidMetH Tryz.prog Rows.fetchNoneRow.laid w) false (World.laidAll Tryz.prog os Rows.fetchNoneRow.laid) #[.agg #[.int .i64 0, .int .u64 0, .slice none 0 0, .slice none 0 0, .slice none 0 0, .string ⟨#[]⟩, .int .i64 0, .int .i64 0, .string ⟨#[]⟩], .string ⟨#[]⟩] 8 (World.laidAll_os _ _ _)
      (World.shaped_of_ZipB (by kernel_rfl) (by kernel_rfl)) (by kernel_rfl) (by kernel_rfl) (by kernel_rfl)
      (by rw [MakeChecks.laidMetH_plain _ _ _ (by kernel_rfl)]; exact laidMet_laidAll _ (by kernel_rfl) (by kernel_rfl))) ?_
  intro W base args ds gs before hval0 hW _ _ _ _
  have hval : ∀ (j : Nat) t v, Tryz.f4.params[j]? = some t → args[j]? = some v → Value.okWide Tryz.prog W .any base t v := hval0
  have hW' := hW
  obtain ⟨p, q, hA0, hV, rfl, _, _⟩ := hW
  have hA : DataW.TrodAll enc Tryz.prog W 0 (fun _ => true) true [26, 9] args.toList ds p := hA0
  obtain ⟨rfl, rfl⟩ := trodVars_none hV
  obtain ⟨v0, v1, d0, d1, p0, p1, rfl, rfl, rfl, h0, h1⟩ := trodAll_two hA
  obtain ⟨s, rfl, rfl, rfl, ws⟩ := open_string Tryz.underlying9 (hval 1 9 v1 rfl rfl) h1
  have hsz : s.size ≤ 9223372036854775807 := Nat.le_trans ws (by decide)
  have hok := hval 0 26 v0 rfl rfl
  have hu := Tryz.underlying26
  unfold Value.okWide at hok
  rw [hu] at hok
  obtain ⟨⟨cs⟩, rfl, hsz2, ts, hts, _, hcell⟩ := hok
  have hts' : Tryz.prog.cellTypes Tryz.prog.depth 26 = some [3, 22, 23, 23, 24, 9, 3, 3, 9] := by kernel_rfl
  rw [hts'] at hts
  cases hts
  have hn : cs.length = 9 := by
    have : Tryz.prog.cellsOf 26 = 9 := by kernel_rfl
    rw [this] at hsz2; exact hsz2
  obtain ⟨c0, c1, c2, c3, c4, c5, c6, c7, c8, rfl⟩ := Go.Ev.nine cs hn
  have at_ : ∀ (i : Nat) (u : TypeId) (c : Value), ([3, 22, 23, 23, 24, 9, 3, 3, 9] : List TypeId)[i % 9]? = some u → (#[c0, c1, c2, c3, c4, c5, c6, c7, c8] : Array Value)[i]? = some c → Cell.okWide Tryz.prog W .any base u c := fun i u c hu hc => by
    obtain ⟨u', h1, h2⟩ := hcell i c hc
    have e : some u' = some u := h1.symm.trans hu
    cases e
    exact h2
  have u3 : Tryz.prog.underlying 3 = some (.int .i64) := Tryz.underlying3
  have u9 : Tryz.prog.underlying 9 = some .string := Tryz.underlying9
  have u22 : Tryz.prog.underlying 22 = some (.int .u64) := Tryz.underlying22
  have u23 := Tryz.underlying23
  have u24 := Tryz.underlying24
  have hcalls := law_calls hsz c0 c1 c2 c3 c4 c5 c6 c7 c8
    (Go.Ev.cell_plain u3 rfl (at_ 0 3 c0 rfl rfl)) (Go.Ev.cell_plain u22 rfl (at_ 1 22 c1 rfl rfl)) (Go.Ev.cell_slice u23 (at_ 2 23 c2 rfl rfl)) (Go.Ev.cell_slice u23 (at_ 3 23 c3 rfl rfl)) (Go.Ev.cell_slice u24 (at_ 4 24 c4 rfl rfl))
    (Go.Ev.cell_plain u9 rfl (at_ 5 9 c5 rfl rfl)) (Go.Ev.cell_plain u3 rfl (at_ 6 3 c6 rfl rfl)) (Go.Ev.cell_plain u3 rfl (at_ 7 3 c7 rfl rfl)) (Go.Ev.cell_plain u9 rfl (at_ 8 9 c8 rfl rfl)) W
  refine hcalls.mono fun e W' ⟨he, hb⟩ => ?_
  subst he
  exact ⟨_, rfl, _, _, _, [], _, [], hW', trodAll_mk1 (shut_bool Tryz.underlying4 _), Go.Ev.trodAll_stays row_laid hb row_read hA0, rfl, hb.frame _, fun h => by cases h⟩

theorem fetchNone_row : Rows.FetchNoneSaid :=
  OpenClaim.holds_of_wide 4 Tryz.f4 rfl rfl rfl rfl rfl rfl rfl ⟨rfl, rfl, rfl, rfl, rfl⟩ rfl rfl rfl rfl rfl rowNamed Tryz.func4 rowJoined rowInst rowWrap
    (fun os started H enc _ => lifted os started H enc)

theorem fetchNone_card : Rows.FetchNoneCardSaid :=
  Claim7.holds_tied_plain_at .later [] [.data, .pinned] true (true, "6e7273fcdd872e50076b0caa854cafbad51bb68bd52083bafd34e8db37ae8565") true fetchNone_row (fun _ h => by cases h) row_text (fun _ h => by cases h) fetchNone_row_tie rfl ⟨rfl, rfl⟩ row_main rfl
    (fun f fn hf hfn => by
      obtain rfl : f = 4 := Option.some.inj (rowNamed.symm.trans hf) |>.symm
      obtain rfl : fn = Tryz.f4 := (Option.some.inj (Tryz.func4.symm.trans hfn)).symm
      exact ⟨row_looks, fun j t ht => by
        have hm : t ∈ [26, 9] := by
          have h2 : t ∈ Tryz.f4.params.toList := by simpa using Array.mem_of_getElem? ht
          rw [row_types] at h2
          exact h2
        have hall : ([26, 9].all fun u => !Tryz.prog.wantsStandIn u) = true := by kernel_rfl
        exact (show Tryz.prog.wantsStandIn t = false by simpa using List.all_eq_true.1 hall t hm)⟩)
    row_goes
#print axioms fetchNone_card
end Go.Proofs.YtildicgoadiodaaGreatDoor
