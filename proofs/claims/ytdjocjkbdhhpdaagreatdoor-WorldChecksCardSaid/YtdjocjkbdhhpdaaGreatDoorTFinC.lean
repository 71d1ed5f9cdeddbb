/- WorldChecks' runs: true, whatever the two numbers are. -/
import Derived.Test.YtdjocjkbdhhpdaaGreatDoorTA
import Derived.Test.YtdjocjkbdhhpdaaGreatDoorEvArg
/-! WorldChecks' runs: true, whatever the two numbers are. -/
namespace Go.Proofs
open Go.Ev
open Go.RowKit
set_option maxRecDepth 1000000
noncomputable def envOfS (S : Syms) (l : List (FuncId × Spec)) : Env := envS S tyT fnT (fun _ => false) (specAt l)
theorem envS_ok [Go.Ev.Sg] {S : Syms} (hS : SymsOk Tryz.prog S) {l : List (FuncId × Spec)} : EnvOk Tryz.prog (envOfS S l) := envSOk hS rfl (fun _ h => by cases h)

noncomputable abbrev sN : Value := .float .f64 0
noncomputable abbrev sR : Value := .float .f64 1
noncomputable abbrev nat (n : Nat) : Value := .int .i64 (.ofNat n)
/-- The room is one that there may be. -/
noncomputable def tabD : Tabs := { bins := [⟨.gtr, sR, nat 67108864, .bool false⟩, ⟨.lss, sR, nat 0, .bool false⟩, ⟨.geq, sR, nat 0, .bool true⟩, ⟨.leq, sR, nat 67108864, .bool true⟩] }
/-- It is too great. -/
noncomputable def tabB : Tabs := { bins := [⟨.gtr, sR, nat 67108864, .bool true⟩, ⟨.geq, sR, nat 0, .bool true⟩, ⟨.leq, sR, nat 67108864, .bool false⟩] }
/-- It is below 0. -/
noncomputable def tabN : Tabs := { bins := [⟨.gtr, sR, nat 67108864, .bool false⟩, ⟨.lss, sR, nat 0, .bool true⟩, ⟨.geq, sR, nat 0, .bool false⟩] }
/-- There are too few. -/
noncomputable def tabF : Tabs := { bins := [⟨.lss, sN, nat 1, .bool true⟩, ⟨.geq, sN, nat 1, .bool false⟩] }
/-- There are too many. -/
noncomputable def tabM : Tabs := { bins := [⟨.lss, sN, nat 1, .bool false⟩, ⟨.gtr, sN, nat 4, .bool true⟩, ⟨.geq, sN, nat 1, .bool true⟩, ⟨.leq, sN, nat 4, .bool false⟩] }
noncomputable abbrev runC (T : Tabs) : Go.Ev.Call := evF (envOfS T.syms specsA) 100000 200

theorem runD1 : sameRes (runC tabD 4 [nat 1, sR] (dark 0)) (.bool true) = true := by kernel_rfl
theorem runD2 : sameRes (runC tabD 4 [nat 2, sR] (dark 0)) (.bool true) = true := by kernel_rfl
theorem runD3 : sameRes (runC tabD 4 [nat 3, sR] (dark 0)) (.bool true) = true := by kernel_rfl
theorem runD4 : sameRes (runC tabD 4 [nat 4, sR] (dark 0)) (.bool true) = true := by kernel_rfl
theorem runB1 : sameRes (runC tabB 4 [nat 1, sR] (dark 0)) (.bool true) = true := by kernel_rfl
theorem runB2 : sameRes (runC tabB 4 [nat 2, sR] (dark 0)) (.bool true) = true := by kernel_rfl
theorem runB3 : sameRes (runC tabB 4 [nat 3, sR] (dark 0)) (.bool true) = true := by kernel_rfl
theorem runB4 : sameRes (runC tabB 4 [nat 4, sR] (dark 0)) (.bool true) = true := by kernel_rfl
theorem runN1 : sameRes (runC tabN 4 [nat 1, sR] (dark 0)) (.bool true) = true := by kernel_rfl
theorem runN2 : sameRes (runC tabN 4 [nat 2, sR] (dark 0)) (.bool true) = true := by kernel_rfl
theorem runN3 : sameRes (runC tabN 4 [nat 3, sR] (dark 0)) (.bool true) = true := by kernel_rfl
theorem runN4 : sameRes (runC tabN 4 [nat 4, sR] (dark 0)) (.bool true) = true := by kernel_rfl
theorem runF : sameRes (runC tabF 4 [sN, sR] (dark 0)) (.bool true) = true := by kernel_rfl
theorem runM : sameRes (runC tabM 4 [sN, sR] (dark 0)) (.bool true) = true := by kernel_rfl

/-- The two numbers. -/
abbrev twoSg (n room : Int) : Sg := ⟨fun i => Nat.casesOn i (.int .i64 n) (fun _ => .int .i64 room), fun i => by cases i <;> rfl⟩

theorem tabD_ok {n room : Int} (h0 : 0 ≤ room) (h1 : room ≤ 67108864) : @TabsOk (twoSg n room) tabD :=
  letI := twoSg n room
  ⟨fun e he => by
    simp only [tabD, List.mem_cons, List.not_mem_nil, or_false] at he
    rcases he with rfl | rfl | rfl | rfl
    · exact ⟨rfl, rfl, rfl, ints_gtr (a := room) (b := 67108864) false (decide_eq_false (by omega))⟩
    · exact ⟨rfl, rfl, rfl, ints_lss (a := room) (b := 0) false (decide_eq_false (by omega))⟩
    · exact ⟨rfl, rfl, rfl, ints_geq (a := room) (b := 0) true (decide_eq_true (by omega))⟩
    · exact ⟨rfl, rfl, rfl, ints_leq (a := room) (b := 67108864) true (decide_eq_true (by omega))⟩,
   fun _ h => (by cases h), fun _ h => (by cases h), fun _ h => (by cases h), fun _ h => (by cases h)⟩
theorem tabB_ok {n room : Int} (h1 : 67108864 < room) : @TabsOk (twoSg n room) tabB :=
  letI := twoSg n room
  ⟨fun e he => by
    simp only [tabB, List.mem_cons, List.not_mem_nil, or_false] at he
    rcases he with rfl | rfl | rfl
    · exact ⟨rfl, rfl, rfl, ints_gtr (a := room) (b := 67108864) true (decide_eq_true (by omega))⟩
    · exact ⟨rfl, rfl, rfl, ints_geq (a := room) (b := 0) true (decide_eq_true (by omega))⟩
    · exact ⟨rfl, rfl, rfl, ints_leq (a := room) (b := 67108864) false (decide_eq_false (by omega))⟩,
   fun _ h => (by cases h), fun _ h => (by cases h), fun _ h => (by cases h), fun _ h => (by cases h)⟩
theorem tabN_ok {n room : Int} (h1 : room < 0) : @TabsOk (twoSg n room) tabN :=
  letI := twoSg n room
  ⟨fun e he => by
    simp only [tabN, List.mem_cons, List.not_mem_nil, or_false] at he
    rcases he with rfl | rfl | rfl
    · exact ⟨rfl, rfl, rfl, ints_gtr (a := room) (b := 67108864) false (decide_eq_false (by omega))⟩
    · exact ⟨rfl, rfl, rfl, ints_lss (a := room) (b := 0) true (decide_eq_true (by omega))⟩
    · exact ⟨rfl, rfl, rfl, ints_geq (a := room) (b := 0) false (decide_eq_false (by omega))⟩,
   fun _ h => (by cases h), fun _ h => (by cases h), fun _ h => (by cases h), fun _ h => (by cases h)⟩
theorem tabF_ok {n room : Int} (h1 : n < 1) : @TabsOk (twoSg n room) tabF :=
  letI := twoSg n room
  ⟨fun e he => by
    simp only [tabF, List.mem_cons, List.not_mem_nil, or_false] at he
    rcases he with rfl | rfl
    · exact ⟨rfl, rfl, rfl, ints_lss (a := n) (b := 1) true (decide_eq_true (by omega))⟩
    · exact ⟨rfl, rfl, rfl, ints_geq (a := n) (b := 1) false (decide_eq_false (by omega))⟩,
   fun _ h => (by cases h), fun _ h => (by cases h), fun _ h => (by cases h), fun _ h => (by cases h)⟩
theorem tabM_ok {n room : Int} (h1 : 4 < n) : @TabsOk (twoSg n room) tabM :=
  letI := twoSg n room
  ⟨fun e he => by
    simp only [tabM, List.mem_cons, List.not_mem_nil, or_false] at he
    rcases he with rfl | rfl | rfl | rfl
    · exact ⟨rfl, rfl, rfl, ints_lss (a := n) (b := 1) false (decide_eq_false (by omega))⟩
    · exact ⟨rfl, rfl, rfl, ints_gtr (a := n) (b := 4) true (decide_eq_true (by omega))⟩
    · exact ⟨rfl, rfl, rfl, ints_geq (a := n) (b := 1) true (decide_eq_true (by omega))⟩
    · exact ⟨rfl, rfl, rfl, ints_leq (a := n) (b := 4) false (decide_eq_false (by omega))⟩,
   fun _ h => (by cases h), fun _ h => (by cases h), fun _ h => (by cases h), fun _ h => (by cases h)⟩

/-- One case, as the model has it. -/
theorem case_calls {n room : Int} {T : Tabs} (hT : @TabsOk (twoSg n room) T) {x : Value} (hx : letI := twoSg n room; den x = .int .i64 n ∧ atom x = true)
    (h : sameRes (runC T 4 [x, sR] (dark 0)) (.bool true) = true) (w : World) :
    Calls Tryz.prog 4 #[.int .i64 n, .int .i64 room] w fun e w' => e = .returned (.bool true) ∧ Below w.heap.size w w' := by
  letI := twoSg n room
  obtain ⟨H, h⟩ := sameRes_ok h
  have hV : V (fun _ => none) x (.int .i64 n) := by rw [← hx.1]; exact den_V hx.2
  have hA : VL (fun _ => none) [x, sR] [.int .i64 n, .int .i64 room] := .cons hV (.cons (.sym 1) .nil)
  refine Calls.mono (calls_at (P := Tryz.prog) (env := envOfS T.syms specsA) (envS_ok (tabs_ok hT)) mixed (funsSOk rfl) (specs_of rfl specsA_ok) 100000 200 h hA (dark_hr (fun _ _ h => by cases h) (by decide) w) (fun B => dark_wr B) (by rw [Tryz.func4]; rfl)) ?_
  rintro e w' ⟨u, rfl, ⟨ρ, hV⟩, hB⟩
  cases hV
  exact ⟨rfl, hB⟩

theorem law_calls (n room : Int) (w : World) : Calls Tryz.prog 4 #[.int .i64 n, .int .i64 room] w fun e w' => e = .returned (.bool true) ∧ Below w.heap.size w w' := by
  rcases Int.lt_or_le n 1 with h | h
  · exact case_calls (tabF_ok h) (x := sN) ⟨rfl, rfl⟩ runF w
  rcases Int.lt_or_le 4 n with h' | h'
  · exact case_calls (tabM_ok h') (x := sN) ⟨rfl, rfl⟩ runM w
  have hn : n = 1 ∨ n = 2 ∨ n = 3 ∨ n = 4 := by omega
  rcases Int.lt_or_le room 0 with r | r
  · have ok := tabN_ok (n := n) r
    rcases hn with rfl | rfl | rfl | rfl
    · exact case_calls ok (x := nat 1) ⟨rfl, rfl⟩ runN1 w
    · exact case_calls ok (x := nat 2) ⟨rfl, rfl⟩ runN2 w
    · exact case_calls ok (x := nat 3) ⟨rfl, rfl⟩ runN3 w
    · exact case_calls ok (x := nat 4) ⟨rfl, rfl⟩ runN4 w
  rcases Int.lt_or_le 67108864 room with r' | r'
  · have ok := tabB_ok (n := n) r'
    rcases hn with rfl | rfl | rfl | rfl
    · exact case_calls ok (x := nat 1) ⟨rfl, rfl⟩ runB1 w
    · exact case_calls ok (x := nat 2) ⟨rfl, rfl⟩ runB2 w
    · exact case_calls ok (x := nat 3) ⟨rfl, rfl⟩ runB3 w
    · exact case_calls ok (x := nat 4) ⟨rfl, rfl⟩ runB4 w
  · have ok := tabD_ok (n := n) r r'
    rcases hn with rfl | rfl | rfl | rfl
    · exact case_calls ok (x := nat 1) ⟨rfl, rfl⟩ runD1 w
    · exact case_calls ok (x := nat 2) ⟨rfl, rfl⟩ runD2 w
    · exact case_calls ok (x := nat 3) ⟨rfl, rfl⟩ runD3 w
    · exact case_calls ok (x := nat 4) ⟨rfl, rfl⟩ runD4 w
end Go.Proofs
