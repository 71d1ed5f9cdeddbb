/- The second form's row and card of ServeNone. -/
import Derived.Test.YtildicgoadiodaaGreatDoorTLawF
import Derived.Test.YtildicgoadiodaaGreatDoorTFactsU
import Derived.Test.YtildicgoadiodaaGreatDoorRows
import Derived.Test.YtildicgoadiodaaGreatDoorCards
import Derived.Test.YtildicgoadiodaaGreatDoorTie
import Derived.WalkKit
import Derived.ProofKit
import Derived.Lay
import Derived.LaidOnce
import Derived.SevenTiedAt
import Derived.SliceStrings
import Derived.Deep.DeepHandedRow
/-! The second form's row and card of ServeNone. -/
namespace Go.Proofs.YtildicgoadiodaaGreatDoor
open Go.RowKit Go.ChangeShapes Go.WideShapes Go.ChangeAt Go.ChangeMaps

theorem uptoBulk_one_le {H : Type} (d : DataW H) : 1 ≤ Rows.uptoBulk d := by
  cases d with
  | lit l => cases l <;> simp [Rows.uptoBulk]
  | nil => simp [Rows.uptoBulk]
  | ptr d => simp [Rows.uptoBulk]
  | slice elems spare => simp [Rows.uptoBulk]
  | agg parts => simp [Rows.uptoBulk]
  | iface t d => simp [Rows.uptoBulk]
  | map entries => simp [Rows.uptoBulk]
  | held h => simp [Rows.uptoBulk]
theorem uptoBulk_part_le {H : Type} {d : DataW H} {l : List (DataW H)} (h : d ∈ l) : Rows.uptoBulk d ≤ Rows.uptoBulkAll l := by
  induction l with
  | nil => cases h
  | cons x r ih =>
    simp only [Rows.uptoBulkAll]
    cases List.mem_cons.1 h with
    | inl e => subst e; omega
    | inr e => have := ih e; omega
/-- the letters of the texts of a slice -/
theorem uptoBulk_strs {H : Type} (ss : List ByteArray) : (catL ss).length + ss.length ≤ Rows.uptoBulkAll (strs (H := H) ss) := by
  induction ss with
  | nil => simp [catL]
  | cons s r ih =>
    have e1 : (catL (s :: r)).length = s.data.toList.length + (catL r).length := by simp [catL]
    have e2 : Rows.uptoBulkAll (strs (H := H) (s :: r)) = s.data.toList.length + 1 + Rows.uptoBulkAll (strs (H := H) r) := rfl
    simp only [List.length_cons]
    omega

/-- A slice of texts, opened as the walk takes it. -/
theorem strsAt_of {H : Type} {enc : TypeId × Value → H} {P : Program} {W : World} {fuel : Nat} {t e : TypeId} {v : Value} {x : DataW H × List MemPlace}
    (ht : P.underlying t = some (.slice e)) (he : P.underlying e = some .string) (hc : P.cellsOf e = 1) (hs : v = .slice none 0 0 ∨ ∃ a n k, v = .slice (some a) n k ∧ a.spot = none)
    (h : DataW.trod enc P W 0 (fun _ => true) true fuel t [v] = some x) (hb : Rows.uptoBulk x.1 ≤ 1048576) :
    ∃ xs : List ByteArray, StrsAt W v xs ∧ (catL xs).length ≤ 268435456 ∧ xs.length ≤ 140737488355328 := by
  rcases open_strings ht he hc h with ⟨hcs, _⟩ | ⟨a, len, cap, ss, hcs, _, hl, hm, hz, hx, hcell, hsz⟩
  · obtain rfl : v = .slice none 0 0 := by simpa using hcs
    exact ⟨[], Or.inl ⟨rfl, _, _, rfl⟩, by simp [catL], by simp⟩
  · obtain rfl : v = .slice (some a) len cap := by simpa using hcs
    have hz' : ss.length = cap := hz
    subst hx
    have h1 : Rows.uptoBulkAll (strs (H := H) (ss.take len)) + 1 ≤ 1048576 := by
      have : Rows.uptoBulk (DataW.slice (strs (H := H) (ss.take len)) (strs (ss.drop len))) ≤ 1048576 := hb
      simp only [Rows.uptoBulk] at this
      omega
    have h2 := uptoBulk_strs (H := H) (ss.take len)
    have hlen : (ss.take len).length = len := by rw [List.length_take]; omega
    refine ⟨ss.take len, ?_, by omega, by omega⟩
    by_cases h0 : len = 0
    · subst h0; exact Or.inl ⟨rfl, _, _, rfl⟩
    · rcases hs with hs | ⟨a', n', k', hs, hsp⟩
      · cases hs
      cases hs
      obtain ⟨bk, o, sp⟩ := a
      obtain rfl : sp = none := hsp
      refine Or.inr ⟨bk, o, cap, by rw [hlen], by omega, by omega, ?_, fun j x hj => ?_⟩
      · have h3 := hcell 0 (by omega)
        refine Decidable.byContradiction fun hbk => ?_
        have : W.cell? ((⟨bk, o, none⟩ : Addr).add 0) = none := by
          simp [World.cell?, Addr.add, Array.getElem?_eq_none (Nat.not_lt.1 hbk)]
        rw [this] at h3
        cases h3
      · have hj' : j < len := by
          have := (List.getElem?_eq_some_iff.1 hj).1
          omega
        have h3 := hcell j (by omega)
        rw [List.getElem?_take_of_lt hj'] at hj
        rw [List.getD_eq_getElem?_getD, hj] at h3
        have e : (⟨bk, o, none⟩ : Addr).add j = ⟨bk, o + j, none⟩ := by
          unfold Addr.add
          split
          · subst_vars; rfl
          · rfl
        rw [e] at h3
        exact h3

theorem own : ownKnob Tryz.prog.godebug = none := by kernel_rfl

set_option maxRecDepth 100000 in
/-- WHAT THE WALK GIVES, for every argument of bounded bulk. -/
theorem contract (H : Type) (enc : TypeId × Value → H) (W : World) (base : Nat) (args : Array Value) (ds gs : List (DataW H)) (before : List MemPlace)
    (hval0 : ∀ (j : Nat) t v, Tryz.f3.params[j]? = some t → args[j]? = some v → Value.okWide Tryz.prog W .any base t v)
    (hW : DataW.Whole enc Tryz.prog Tryz.f3.params.toList Rows.serveNoneSpec.vars false W args.toList ds gs before) (hk : Rows.uptoSmall H (ds ++ gs) = true) :
    Calls Tryz.prog 3 args W fun e W' => ∃ v, e = .returned v ∧ Rows.serveNoneSpec.post enc Tryz.prog Tryz.f3 false true false false W args v W' := by
  have hval : ∀ (j : Nat) t v, Tryz.f3.params[j]? = some t → args[j]? = some v → Value.okWide Tryz.prog W .any base t v := hval0
  have hW' := hW
  obtain ⟨p, q, hA0, hV, rfl, _, _⟩ := hW
  have hA : DataW.TrodAll enc Tryz.prog W 0 (fun _ => true) true [26] args.toList ds p := hA0
  obtain ⟨rfl, rfl⟩ := trodVars_none hV
  obtain ⟨v0, d0, rfl, rfl, h0⟩ := trodAll_one hA
  have hok := hval 0 26 v0 rfl rfl
  have hu := Tryz.underlying26
  unfold Value.okWide at hok
  rw [hu] at hok
  obtain ⟨⟨cs⟩, rfl, hsz2, ts, hts, _, hcell⟩ := hok
  have hts' : Tryz.prog.cellTypes Tryz.prog.depth 26 = some [3, 22, 23, 23, 24, 9, 3, 3, 9] := by kernel_rfl
  rw [hts'] at hts
  cases hts
  have hn : cs.length = 9 := by
    have : Tryz.prog.cellsOf 26 = 9 := by kernel_rfl
    rw [this] at hsz2; exact hsz2
  obtain ⟨c0, c1, c2, c3, c4, c5, c6, c7, c8, rfl⟩ := Go.Ev.nine cs hn
  have at_ : ∀ (i : Nat) (u : TypeId) (c : Value), ([3, 22, 23, 23, 24, 9, 3, 3, 9] : List TypeId)[i % 9]? = some u → (#[c0, c1, c2, c3, c4, c5, c6, c7, c8] : Array Value)[i]? = some c → Cell.okWide Tryz.prog W .any base u c := fun i u c hu hc => by
    obtain ⟨u', h1, h2⟩ := hcell i c hc
    have e : some u' = some u := h1.symm.trans hu
    cases e
    exact h2
  have u23 := Tryz.underlying23
  have u9 : Tryz.prog.underlying 9 = some .string := Tryz.underlying9
  have k9 : Tryz.prog.cellsOf 9 = 1 := by kernel_rfl
  have k23 : Tryz.prog.cellsOf 23 = 1 := by kernel_rfl
  have hs2 := Go.Ev.cell_slice u23 (at_ 2 23 c2 rfl rfl)
  have hs3 := Go.Ev.cell_slice u23 (at_ 3 23 c3 rfl rfl)
  have hb0 : Rows.uptoBulk d0 ≤ 1048576 := by
    have : Rows.uptoBulkAll ([d0] ++ ([] : List (DataW H))) ≤ 1048576 := of_decide_eq_true hk
    simp only [List.append_nil, Rows.uptoBulkAll] at this
    omega
  obtain ⟨fuel, hf⟩ := h0
  obtain ⟨xs, n, _, hx, _, hlen, hfld⟩ := DataW.trod_struct hu hf
  have hd0 : d0 = .agg (xs.map (·.1)) := congrArg Prod.fst hx
  subst hd0
  have hpart : ∀ y, y ∈ xs → Rows.uptoBulk y.1 ≤ 1048576 := fun y hy => by
    have h1 := uptoBulk_part_le (List.mem_map_of_mem (f := (·.1)) hy)
    simp only [Rows.uptoBulk] at hb0
    omega
  have h2' := hfld 2 _ rfl
  have h3' := hfld 3 _ rfl
  have hl9 : xs.length = 9 := hlen
  obtain ⟨y2, hy2⟩ : ∃ y, xs[2]? = some y := ⟨_, List.getElem?_eq_getElem (by omega)⟩
  obtain ⟨y3, hy3⟩ : ∃ y, xs[3]? = some y := ⟨_, List.getElem?_eq_getElem (by omega)⟩
  rw [hy2] at h2'
  rw [hy3] at h3'
  have e2 : DataW.trod enc Tryz.prog W 0 (fun _ => true) true n 23 [c2] = some y2 := h2'
  have e3 : DataW.trod enc Tryz.prog W 0 (fun _ => true) true n 23 [c3] = some y3 := h3'
  obtain ⟨X, hX, hXl, hXn⟩ := strsAt_of u23 u9 k9 (hs2.imp id fun ⟨a, n, k, h1, h2, _⟩ => ⟨a, n, k, h1, h2⟩) e2 (hpart _ (List.mem_of_getElem? hy2))
  obtain ⟨Y, hY, hYl, hYn⟩ := strsAt_of u23 u9 k9 (hs3.imp id fun ⟨a, n, k, h1, h2, _⟩ => ⟨a, n, k, h1, h2⟩) e3 (hpart _ (List.mem_of_getElem? hy3))
  have hcalls := law_calls (c0 := c0) (c1 := c1) (c4 := c4) (c5 := c5) (c6 := c6) (c7 := c7) (c8 := c8) hX hY hXl hYl hXn hYn
  refine hcalls.mono fun e W' ⟨he, hb⟩ => ?_
  subst he
  exact ⟨_, rfl, _, _, _, [], _, [], hW', trodAll_mk1 (shut_bool Tryz.underlying4 _), Go.Ev.trodAll_stays row_laid hb row_read hA0, rfl, hb.frame _, fun h => by cases h⟩

theorem reads (os : Os) {H : Type} (enc : TypeId × Value → H) : ∃ places, DataW.whole enc Tryz.prog ((World.laidAll Tryz.prog os Rows.serveNoneUptoRow.laid).forCall (fun _ _ => 0) ⟨#[], #[.agg #[.int .i64 0, .int .u64 0, .slice none 0 0, .slice none 0 0, .slice none 0 0, .string ⟨#[]⟩, .int .i64 0, .int .i64 0, .string ⟨#[]⟩]], []⟩).memory Tryz.f3.params.toList Rows.serveNoneSpec.vars false
    (#[Value.agg #[.int .i64 0, .int .u64 0, .slice none 0 0, .slice none 0 0, .slice none 0 0, .string ⟨#[]⟩, .int .i64 0, .int .i64 0, .string ⟨#[]⟩]] : Array Value).toList 8 =
    some ([.agg [.lit (.int .i64 0), .lit (.int .u64 0), .nil, .nil, .nil, .lit (.string []), .lit (.int .i64 0), .lit (.int .i64 0), .lit (.string [])]], [], places) :=
  ⟨[], by kernel_rfl⟩

set_option maxRecDepth 100000 in
theorem liftedUpto (os : Os) (started : os.Started) (H : Type) (enc : TypeId × Value → H) (F : Stop.Interp) :
    ReturnsInHanded {} Tryz.checked os 3 .any ((Rows.OpenSpec.upto Rows.serveNoneSpec).preRow enc Tryz.prog Tryz.f3 Rows.serveNoneUptoRow.domain false Rows.serveNoneUptoRow.laid) (((Rows.OpenSpec.upto Rows.serveNoneSpec).at F).post enc Tryz.prog Tryz.f3 false true false false) := by
  obtain ⟨places, hx⟩ := reads os enc
  refine returnsInHanded_of_row (C := Tryz.checked) (s := Rows.OpenSpec.upto Rows.serveNoneSpec) own started (by kernel_rfl) Tryz.func3
    (witness_row_at (enc := enc) (C := Tryz.checked) false (World.laidAll Tryz.prog os Rows.serveNoneUptoRow.laid) #[.agg #[.int .i64 0, .int .u64 0, .slice none 0 0, .slice none 0 0, .slice none 0 0, .string ⟨#[]⟩, .int .i64 0, .int .i64 0, .string ⟨#[]⟩]] (World.laidAll_os _ _ _) (by kernel_rfl) (by kernel_rfl) (by kernel_rfl)
      (OpenSpec.preRow_of_cond 8 hx (by kernel_rfl) (fun k hk => by cases hk; kernel_rfl) (by kernel_rfl)
        (laidMet_laidAll _ (by kernel_rfl) (by kernel_rfl)))) ?_
  intro W base args ds gs before hval hW _ hcond _ _ _ _
  exact contract H enc W base args ds gs before hval hW (hcond _ rfl)

theorem serveNoneUpto_row : Rows.ServeNoneUptoSaid :=
  OpenClaim.holds_of_cond 3 Tryz.f3 rfl rfl rfl rfl rfl rfl rfl ⟨rfl, rfl, rfl, rfl, rfl⟩ rfl rfl rfl rfl rfl rowNamed Tryz.func3 rowJoined rowInst rowWrap
    (fun os started H enc _ F => by rw [OpenClaim.pre_eq_preRow]; exact liftedUpto os started H enc F)

theorem serveNoneUpto_card : Rows.ServeNoneUptoCardSaid :=
  Claim7.holds_tied_plain_at .later [] [.data, .pinned] true (true, "6e7273fcdd872e50076b0caa854cafbad51bb68bd52083bafd34e8db37ae8565") true serveNoneUpto_row (fun _ h => by cases h) row_text (fun _ h => by cases h) serveNoneUpto_row_tie rfl ⟨rfl, rfl⟩ row_main rfl
    (fun f fn hf hfn => by
      obtain rfl : f = 3 := Option.some.inj (rowNamed.symm.trans hf) |>.symm
      obtain rfl : fn = Tryz.f3 := (Option.some.inj (Tryz.func3.symm.trans hfn)).symm
      exact ⟨row_looks, fun j t ht => by
        have hm : t ∈ [26] := by
          have h2 : t ∈ Tryz.f3.params.toList := by simpa using Array.mem_of_getElem? ht
          rw [row_types] at h2
          exact h2
        have hall : ([26].all fun u => !Tryz.prog.wantsStandIn u) = true := by kernel_rfl
        exact (show Tryz.prog.wantsStandIn t = false by simpa using List.all_eq_true.1 hall t hm)⟩)
    row_goes
#print axioms serveNoneUpto_card
end Go.Proofs.YtildicgoadiodaaGreatDoor
