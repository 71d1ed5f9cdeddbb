/- FetchNone's runs: true, whatever is handed in. -/
import Derived.Test.YtildicgoadiodaaGreatDoorTAF
import Derived.Test.YtildicgoadiodaaGreatDoorTRef
import Derived.Test.YtildicgoadiodaaGreatDoorEvArg
/-! FetchNone's runs: true, whatever is handed in. -/
namespace Go.Proofs
open Go.Ev
open Go.RowKit
set_option maxRecDepth 1000000
noncomputable def envOfS (S : Syms) (l : List (FuncId × Spec)) : Env := envS S tyT fnT (fun _ => false) (specAt l)
theorem envS_ok [Go.Ev.Sg] {S : Syms} (hS : SymsOk Tryz.prog S) {l : List (FuncId × Spec)} : EnvOk Tryz.prog (envOfS S l) := envSOk hS rfl (fun _ h => by cases h)

noncomputable abbrev sy (i : Nat) : Value := .float .f64 i
noncomputable abbrev nat (n : Nat) : Value := .int .i64 (.ofNat n)
abbrev headsL : List UInt8 := [104, 101, 97, 100, 115, 47]
abbrev farL : List UInt8 := [104, 101, 97, 100, 115, 47, 102, 97, 114, 45]
noncomputable def tab0 : Tabs := {}
noncomputable def tab1 : Tabs :=
  { lens := [⟨0, sy 3⟩], slices := [⟨sy 0, none, some (nat 6), sy 4⟩, ⟨sy 0, some (nat 6), none, sy 1⟩]
    bins := [⟨.geq, sy 3, nat 6, .bool true⟩, ⟨.eql, sy 4, str headsL, .bool true⟩, ⟨.add, str farL, sy 1, sy 2⟩, ⟨.eql, sy 2, sy 2, .bool true⟩] }
noncomputable def tab2 : Tabs :=
  { lens := [⟨0, sy 3⟩], slices := [⟨sy 0, none, some (nat 6), sy 4⟩]
    bins := [⟨.geq, sy 3, nat 6, .bool true⟩, ⟨.eql, sy 4, str headsL, .bool false⟩, ⟨.eql, sy 0, sy 0, .bool true⟩] }
noncomputable def specsR (r : Nat) : List (FuncId × Spec) := (15, sOr (symS (nat r)) (runA 15)) :: specsA
noncomputable abbrev runF (T : Tabs) (r : Nat) : Go.Ev.Call := evF (envOfS T.syms (specsR r)) 100000 200
theorem run_0 (c0 c1 c2 c3 c4 c5 c6 c7 c8 : Value) : sameRes (runF tab0 0 4 [.agg ⟨[c0, c1, c2, c3, c4, c5, c6, c7, c8]⟩, sy 0] (dark 3)) (.bool true) = true := by kernel_rfl
theorem run_1 (c0 c1 c2 c3 c4 c5 c6 c7 c8 : Value) : sameRes (runF tab1 1 4 [.agg ⟨[c0, c1, c2, c3, c4, c5, c6, c7, c8]⟩, sy 0] (dark 3)) (.bool true) = true := by kernel_rfl
theorem run_2 (c0 c1 c2 c3 c4 c5 c6 c7 c8 : Value) : sameRes (runF tab2 2 4 [.agg ⟨[c0, c1, c2, c3, c4, c5, c6, c7, c8]⟩, sy 0] (dark 3)) (.bool true) = true := by kernel_rfl

/-- The name, and what comes of it. -/
def nmVal (s : ByteArray) : Nat → Value
  | 0 => .string s
  | 1 => str (s.data.toList.drop 6)
  | 2 => str (farL ++ s.data.toList.drop 6)
  | 3 => .int .i64 (s.size : Int)
  | _ => str (s.data.toList.take 6)
abbrev nmSg (s : ByteArray) : Sg := ⟨nmVal s, fun i => by
  match i with
  | 0 | 1 | 2 | 3 => rfl
  | _ + 4 => rfl⟩

theorem same_self (l : List UInt8) : same l l = true := by rw [same_eq]; simp
theorem eql_self (l : List UInt8) : scalarOp .eql (str l) (str l) = some (.bool true) := by
  show mkBool (same l l) = _
  rw [same_self]; rfl
theorem eql_not {l m : List UInt8} (h : l ≠ m) : scalarOp .eql (str l) (str m) = some (.bool false) := by
  show mkBool (same l m) = _
  have : same l m = false := by rw [same_eq]; simpa using h
  rw [this]; rfl
theorem add_strs {x y : List UInt8} (h : x.length + y.length ≤ 1000) : scalarOp .add (str x) (str y) = some (str (x ++ y)) := by
  show sAdd x y = _
  unfold sAdd
  have h1 : Nat.ble (Nat.add (lenL x) (lenL y)) 1099511627776 = true := by
    rw [lenL_eq, lenL_eq, Nat.ble_eq]
    show x.length + y.length ≤ _
    omega
  rw [h1, chk_true, appL_eq]
theorem cut_to {l : List UInt8} {n : Nat} (h : n ≤ l.length) : scalarSlice (str l) none (some (nat n)) = some (str (l.take n)) := by
  show bnd (bound (some (nat n)) (lenL l) (lenL l)) (fun h => bnd (bound none h 0) fun k => some (str (dropL k (takeL h l)))) = _
  have h1 : bound (some (nat n)) (lenL l) (lenL l) = some n := by
    show chk (Nat.ble n (lenL l)) (some n) = _
    have : Nat.ble n (lenL l) = true := by rw [lenL_eq, Nat.ble_eq]; exact h
    rw [this, chk_true]
  rw [h1, bnd_some]
  show some (str (dropL 0 (takeL n l))) = _
  rw [dropL_eq, takeL_eq, List.drop_zero]
theorem cut_from {l : List UInt8} {n : Nat} (h : n ≤ l.length) : scalarSlice (str l) (some (nat n)) none = some (str (l.drop n)) := by
  show bnd (bound none (lenL l) (lenL l)) (fun h => bnd (bound (some (nat n)) h 0) fun k => some (str (dropL k (takeL h l)))) = _
  have h0 : bound none (lenL l) (lenL l) = some (lenL l) := rfl
  rw [h0, bnd_some]
  have h1 : bound (some (nat n)) (lenL l) 0 = some n := by
    show chk (Nat.ble n (lenL l)) (some n) = _
    have : Nat.ble n (lenL l) = true := by rw [lenL_eq, Nat.ble_eq]; exact h
    rw [this, chk_true]
  rw [h1, bnd_some, dropL_eq, takeL_eq, lenL_eq, List.take_length]
theorem size_len (s : ByteArray) : s.size = s.data.toList.length := by simp

theorem tab0_ok (s : ByteArray) : @TabsOk (nmSg s) tab0 :=
  letI := nmSg s
  ⟨fun _ h => (by cases h), fun _ h => (by cases h), fun _ h => (by cases h), fun _ h => (by cases h), fun _ h => (by cases h)⟩
theorem lens_ok (s : ByteArray) : letI := nmSg s; ∀ e ∈ [(⟨0, sy 3⟩ : SLen)], atom e.v = true ∧ ∃ q : ByteArray, Sg.val e.i = .string q ∧ den e.v = .int .i64 q.size := by
  intro e he
  simp only [List.mem_cons, List.not_mem_nil, or_false] at he
  subst he
  exact ⟨rfl, s, rfl, rfl⟩
theorem tab1_ok {s : ByteArray} (h1 : 6 < s.size) (h2 : s.data.toList.take 6 = headsL) (h3 : (s.data.toList.drop 6).length ≤ 64) : @TabsOk (nmSg s) tab1 :=
  letI := nmSg s
  have hl : 6 ≤ s.data.toList.length := by rw [← size_len]; omega
  { bins := fun e he => by
      simp only [tab1, List.mem_cons, List.not_mem_nil, or_false] at he
      rcases he with rfl | rfl | rfl | rfl
      · exact ⟨rfl, rfl, rfl, ints_geq (a := (s.size : Int)) (b := 6) true (decide_eq_true (by omega))⟩
      · refine ⟨rfl, rfl, rfl, ?_⟩
        show scalarOp .eql (str (s.data.toList.take 6)) (str headsL) = _
        rw [h2]; exact eql_self _
      · refine ⟨rfl, rfl, rfl, ?_⟩
        exact add_strs (x := farL) (y := s.data.toList.drop 6) (by show 10 + _ ≤ _; omega)
      · exact ⟨rfl, rfl, rfl, eql_self _⟩
    convs := fun _ h => by cases h
    bytes := fun _ h => by cases h
    slices := fun e he => by
      simp only [tab1, List.mem_cons, List.not_mem_nil, or_false] at he
      rcases he with rfl | rfl
      · exact ⟨rfl, fun _ h => (by cases h), fun _ h => (by cases h; rfl), rfl, cut_to hl⟩
      · exact ⟨rfl, fun _ h => (by cases h; rfl), fun _ h => (by cases h), rfl, cut_from hl⟩
    lens := lens_ok s }
theorem tab2_ok {s : ByteArray} (h1 : 6 ≤ s.size) (h2 : s.data.toList.take 6 ≠ headsL) : @TabsOk (nmSg s) tab2 :=
  letI := nmSg s
  have hl : 6 ≤ s.data.toList.length := by rw [← size_len]; omega
  { bins := fun e he => by
      simp only [tab2, List.mem_cons, List.not_mem_nil, or_false] at he
      rcases he with rfl | rfl | rfl
      · exact ⟨rfl, rfl, rfl, ints_geq (a := (s.size : Int)) (b := 6) true (decide_eq_true (by omega))⟩
      · exact ⟨rfl, rfl, rfl, eql_not (l := s.data.toList.take 6) h2⟩
      · exact ⟨rfl, rfl, rfl, eql_self s.data.toList⟩
    convs := fun _ h => by cases h
    bytes := fun _ h => by cases h
    slices := fun e he => by
      simp only [tab2, List.mem_cons, List.not_mem_nil, or_false] at he
      subst he
      exact ⟨rfl, fun _ h => (by cases h), fun _ h => (by cases h; rfl), rfl, cut_to hl⟩
    lens := lens_ok s }

theorem enters15 : Enters Tryz.prog 15 := enters_of Tryz.func15 (by kernel_rfl) rfl
theorem specsR_ok {s : ByteArray} (hs : s.size ≤ 9223372036854775807) {r : Nat} (hr : refF s = (r : Int)) : letI := nmSg s; ∀ e ∈ specsR r, SpecOk Tryz.prog e.1 e.2 := by
  letI := nmSg s
  intro e he
  rcases List.mem_cons.1 he with rfl | he
  · refine SpecOk.or (symS_ok enters15 (name := s) rfl rfl fun w => ?_) (call_spec runA_ok 15)
    have := ref_calls s hs w
    rw [hr] at this
    exact this
  · exact specsA_ok e he

theorem case_calls {s : ByteArray} (hs : s.size ≤ 9223372036854775807) {T : Tabs} {r : Nat} (hr : refF s = (r : Int)) (hT : @TabsOk (nmSg s) T)
    (h : ∀ c0 c1 c2 c3 c4 c5 c6 c7 c8 : Value, sameRes (runF T r 4 [.agg ⟨[c0, c1, c2, c3, c4, c5, c6, c7, c8]⟩, sy 0] (dark 3)) (.bool true) = true)
    (c0 c1 c2 c3 c4 c5 c6 c7 c8 : Value) (h0 : plain c0 = true) (h1 : plain c1 = true)
    (h2 : c2 = .slice none 0 0 ∨ ∃ a n k, c2 = .slice (some a) n k ∧ a.spot = none ∧ n ≤ k ∧ k ≠ U) (h3 : c3 = .slice none 0 0 ∨ ∃ a n k, c3 = .slice (some a) n k ∧ a.spot = none ∧ n ≤ k ∧ k ≠ U)
    (h4 : c4 = .slice none 0 0 ∨ ∃ a n k, c4 = .slice (some a) n k ∧ a.spot = none ∧ n ≤ k ∧ k ≠ U)
    (h5 : plain c5 = true) (h6 : plain c6 = true) (h7 : plain c7 = true) (h8 : plain c8 = true) (w : World) :
    Calls Tryz.prog 4 #[.agg #[c0, c1, c2, c3, c4, c5, c6, c7, c8], .string s] w fun e w' => e = .returned (.bool true) ∧ Below w.heap.size w w' := by
  letI := nmSg s
  obtain ⟨s2, e2, k2, o2⟩ := slice_abs 0 h2
  obtain ⟨s3, e3, k3, o3⟩ := slice_abs 1 h3
  obtain ⟨s4, e4, k4, o4⟩ := slice_abs 2 h4
  let ρ : Map := fun b => if b = 0 then e2 else if b = 1 then e3 else if b = 2 then e4 else none
  have hρ : ∀ b e, ρ b = some e → b < 3 := fun b e hb => by
    rcases Nat.lt_or_ge b 3 with h | h
    · exact h
    · simp only [ρ] at hb
      rw [if_neg (by omega), if_neg (by omega), if_neg (by omega)] at hb
      cases hb
  obtain ⟨H, hrun⟩ := sameRes_ok (h c0 c1 s2 s3 s4 c5 c6 c7 c8)
  have hA : VL ρ [.agg ⟨[c0, c1, s2, s3, s4, c5, c6, c7, c8]⟩, sy 0] [.agg ⟨[c0, c1, c2, c3, c4, c5, c6, c7, c8]⟩, .string s] :=
    .cons (.agg (.cons (.plain h0) (.cons (.plain h1) (.cons (k2 ρ rfl) (.cons (k3 ρ rfl) (.cons (k4 ρ rfl) (.cons (.plain h5) (.cons (.plain h6) (.cons (.plain h7) (.cons (.plain h8) .nil))))))))) (by
      intro v hv
      simp only [List.mem_cons, List.not_mem_nil, or_false] at hv
      rcases hv with rfl | rfl | rfl | rfl | rfl | rfl | rfl | rfl | rfl
      · exact plain_one h0
      · exact plain_one h1
      · exact o2
      · exact o3
      · exact o4
      · exact plain_one h5
      · exact plain_one h6
      · exact plain_one h7
      · exact plain_one h8)) (.cons (.sym 0) .nil)
  refine Calls.mono (calls_at (P := Tryz.prog) (env := envOfS T.syms (specsR r)) (envS_ok (tabs_ok hT)) mixed (funsSOk rfl) (specs_of rfl (specsR_ok hs hr)) 100000 200 hrun hA (dark_hr hρ (by decide) w) (fun B => dark_wr B) (by rw [Tryz.func4]; rfl)) ?_
  rintro e w' ⟨u, rfl, ⟨ρ, hV⟩, hB⟩
  cases hV
  exact ⟨rfl, hB⟩

theorem law_calls {s : ByteArray} (hs : s.size ≤ 9223372036854775807)
    (c0 c1 c2 c3 c4 c5 c6 c7 c8 : Value) (h0 : plain c0 = true) (h1 : plain c1 = true)
    (h2 : c2 = .slice none 0 0 ∨ ∃ a n k, c2 = .slice (some a) n k ∧ a.spot = none ∧ n ≤ k ∧ k ≠ U) (h3 : c3 = .slice none 0 0 ∨ ∃ a n k, c3 = .slice (some a) n k ∧ a.spot = none ∧ n ≤ k ∧ k ≠ U)
    (h4 : c4 = .slice none 0 0 ∨ ∃ a n k, c4 = .slice (some a) n k ∧ a.spot = none ∧ n ≤ k ∧ k ≠ U)
    (h5 : plain c5 = true) (h6 : plain c6 = true) (h7 : plain c7 = true) (h8 : plain c8 = true) (w : World) :
    Calls Tryz.prog 4 #[.agg #[c0, c1, c2, c3, c4, c5, c6, c7, c8], .string s] w fun e w' => e = .returned (.bool true) ∧ Below w.heap.size w w' := by
  rcases refF_cases s with hr | hr | ⟨hr, hp⟩
  · exact case_calls hs (r := 0) hr (tab0_ok s) run_0 c0 c1 c2 c3 c4 c5 c6 c7 c8 h0 h1 h2 h3 h4 h5 h6 h7 h8 w
  · obtain ⟨g1, g2, g3⟩ := refF_one hr
    exact case_calls hs (r := 1) hr (tab1_ok g1 g2 g3) run_1 c0 c1 c2 c3 c4 c5 c6 c7 c8 h0 h1 h2 h3 h4 h5 h6 h7 h8 w
  · refine case_calls hs (r := 2) hr (tab2_ok hp.1 fun h => ?_) run_2 c0 c1 c2 c3 c4 c5 c6 c7 c8 h0 h1 h2 h3 h4 h5 h6 h7 h8 w
    have e : s.data.toList.take 5 = (s.data.toList.take 6).take 5 := by rw [List.take_take]; rfl
    have h5 := hp.2
    rw [e, h] at h5
    cases h5
end Go.Proofs
