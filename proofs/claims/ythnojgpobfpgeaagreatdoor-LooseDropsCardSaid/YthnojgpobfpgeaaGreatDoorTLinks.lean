/- code.Undec at the digits of a number up to 200: run at each. -/
import Derived.Test.YthnojgpobfpgeaaGreatDoorTSym
import Derived.Test.YthnojgpobfpgeaaGreatDoorTEnv
import Derived.Test.YthnojgpobfpgeaaGreatDoorTPathR
namespace Go.Proofs
open Go.Ev Go.RowKit
noncomputable def undecB (n : Nat) : Bool := sameRes (runU 99 [str (decF 2 n)] Heap.empty) (.tuple ⟨[.int .u64 (.ofNat n), .int .i64 (.ofNat 0)]⟩)
set_option maxRecDepth 1000000
theorem und0 : allN undecB 0 51 = true := by kernel_rfl
theorem und1 : allN undecB 51 50 = true := by kernel_rfl
theorem und2 : allN undecB 101 50 = true := by kernel_rfl
theorem und3 : allN undecB 151 50 = true := by kernel_rfl
theorem undec_all {n : Nat} (h : n <= 200) : undecB n = true := by
 by_cases h1 : n < 51
 ·
  have := allN_ok und0 n h1
  rwa [Nat.zero_add] at this
 ·
  by_cases h2 : n < 101
  ·
   have := allN_ok und1 (n - 51) (by omega)
   rwa [show 51 + (n - 51) = n by omega] at this
  ·
   by_cases h3 : n < 151
   ·
    have := allN_ok und2 (n - 101) (by omega)
    rwa [show 101 + (n - 101) = n by omega] at this
   ·
    have := allN_ok und3 (n - 151) (by omega)
    rwa [show 151 + (n - 151) = n by omega] at this
theorem undec_calls {n : Nat} (h : n <= 200) (w : World) : Calls Tryz.prog 99 ⟨[str (decF 2 n)]⟩ w fun e w' => e = .returned (.tuple ⟨[.int .u64 (.ofNat n), nat 0]⟩) /\ Below w.heap.size w w' := by
 letI : Sg := sgF (fun _ => .int .i64 0) fun _ => rfl
 obtain ⟨H, hrun⟩ := sameRes_ok (undec_all h)
 refine (calls_closed env_ok mixed (funsOk rfl) (specs_of rfl (fun e he => by cases he)) 100000 200 hrun (.cons (.string _) .nil) w (by rw [Tryz.func99]; rfl)).mono ?_
 rintro e w' ⟨u, rfl, ⟨ρ, hV⟩, hb⟩
 cases hV with
 | tuple h =>
  cases h with
  | cons h1 t =>
   cases t with
   | cons h2 t2 =>
    cases t2
    rw [h1.int_inv, h2.int_inv]
    exact ⟨rfl, hb⟩
end Go.Proofs
namespace Go.Proofs
open Go.Ev Go.RowKit
noncomputable def tabL : Tabs :=
  { bins := [⟨.eql, str [0], sy 3, .bool false⟩, ⟨.eql, str [32], sy 17, .bool false⟩, ⟨.geq, sy 15, nat 0, .bool true⟩, ⟨.add, sy 15, nat 1, sy 16⟩, ⟨.gtr, sy 20, .int .u64 (.ofNat 262144), .bool false⟩, ⟨.gtr, sy 21, sy 21, .bool false⟩, ⟨.lss, sy 21, sy 21, .bool false⟩]
    convs := [⟨3, sy 20, sy 21⟩]
    lens := [⟨18, sy 21⟩]
    slices := [⟨sy 3, none, some (sy 15), sy 17⟩, ⟨sy 3, some (sy 16), none, sy 18⟩, ⟨sy 17, none, some (nat 4), str [98, 108, 111, 98]⟩, ⟨sy 17, some (nat 5), none, sy 19⟩] }
noncomputable def rowsL152 : List SRow := [⟨[sy 3, u8 0], sy 15⟩, ⟨[sy 17, u8 32], nat 4⟩]
noncomputable def rowsL99 : List SRow := [⟨[sy 19], .tuple ⟨[sy 20, nat 0]⟩⟩]
noncomputable def specsL : List (FuncId × Spec) := [(152, rowsT rowsL152), (99, rowsT rowsL99)]
noncomputable abbrev runL : Go.Ev.Call := evF (envOfS tabL.syms specsL) 100000 200
set_option maxRecDepth 1000000 in
theorem links3 : sameRes (runL 26 [sy 3] Heap.empty) (.tuple ⟨[.slice none 0 0, nat 0]⟩) = true := by kernel_rfl
section
variable {s : ByteArray} {room : Int} {t id : List UInt8} {pr : PrE}
theorem decF_dig : ∀ f n, n < 10 ^ (f + 1) -> ∀ c ∈ decF f n, Dig c.toNat
  | 0, n, h, c, hc => by
    have : c = UInt8.ofNat (48 + n) := by simpa [decF] using hc
    subst this
    left
    show 48 <= (48 + n) % 256 /\ (48 + n) % 256 <= 57
    omega
  | f + 1, n, h, c, hc => by
    unfold decF at hc
    by_cases h10 : n < 10
    . rw [if_pos h10] at hc
      have : c = UInt8.ofNat (48 + n) := by simpa using hc
      subst this
      left
      show 48 <= (48 + n) % 256 /\ (48 + n) % 256 <= 57
      omega
    . rw [if_neg h10] at hc
      rcases List.mem_append.1 hc with hc | hc
      . refine decF_dig f (n / 10) ?_ c hc
        rw [Nat.div_lt_iff_lt_mul (by omega), <- Nat.pow_succ]; exact h
      . have : c = UInt8.ofNat (48 + n % 10) := by simpa using hc
        subst this
        left
        show 48 <= (48 + n % 10) % 256 /\ (48 + n % 10) % 256 <= 57
        omega
theorem head_0 (ht : t.length <= 200) : ∀ c ∈ [98, 108, 111, 98, 32] ++ decF 2 t.length, c ≠ 0 := by
  intro c hc
  rcases List.mem_append.1 hc with hc | hc
  . have h : ∀ c ∈ ([98, 108, 111, 98, 32] : List UInt8), c ≠ 0 := by decide
    exact h c hc
  . exact dig_ne (decF_dig 2 t.length (by omega)) (by decide) c hc
theorem blob_split : blobL t = ([98, 108, 111, 98, 32] ++ decF 2 t.length) ++ 0 :: t := by
  unfold blobL
  simp
theorem head_split : [98, 108, 111, 98, 32] ++ decF 2 t.length = [98, 108, 111, 98] ++ 32 :: decF 2 t.length := rfl
theorem head_len : ([98, 108, 111, 98, 32] ++ decF 2 t.length).length = 5 + (decF 2 t.length).length := by rw [List.length_append]; rfl
theorem blob_len : (blobL t).length = 6 + (decF 2 t.length).length + t.length := by rw [blob_split, List.length_append, head_len, List.length_cons]; omega
theorem tabL_ok (ht : t.length <= 200) : @TabsOk (looSg s room t id pr) tabL :=
  letI := looSg s room t id pr
  have hd := decF_len 2 t.length
  { bins := fun e he => by
      simp only [tabL, List.mem_cons, List.not_mem_nil, or_false] at he
      rcases he with rfl | rfl | rfl | rfl | rfl | rfl | rfl
      . exact ⟨rfl, rfl, rfl, eql_no (a := [0]) (b := blobL t) (by rw [blob_len]; show 1 ≠ _; omega)⟩
      . exact ⟨rfl, rfl, rfl, eql_no (a := [32]) (b := [98, 108, 111, 98, 32] ++ decF 2 t.length) (by rw [head_len]; show 1 ≠ _; omega)⟩
      . exact ⟨rfl, rfl, rfl, ints_geq (a := ((5 + (decF 2 t.length).length : Nat) : Int)) (b := 0) true (decide_eq_true (by omega))⟩
      . refine ⟨rfl, rfl, rfl, ?_⟩
        have e := add_nat (a := 5 + (decF 2 t.length).length) (b := 1) (by omega)
        rw [show 5 + (decF 2 t.length).length + 1 = 6 + (decF 2 t.length).length by omega] at e
        exact e
      . refine ⟨rfl, rfl, rfl, ?_⟩
        show mkBool (ltI (.ofNat 262144) (.ofNat t.length)) = _
        rw [mkBool_eq, ltI_eq]
        have h6 : decide (Int.ofNat 262144 < Int.ofNat t.length) = false := decide_eq_false (by show ¬ ((262144 : Nat) : Int) < (t.length : Int); omega)
        rw [h6]
        rfl
      . exact ⟨rfl, rfl, rfl, ints_gtr (a := (t.length : Int)) (b := (t.length : Int)) false (decide_eq_false (by omega))⟩
      . exact ⟨rfl, rfl, rfl, ints_lss (a := (t.length : Int)) (b := (t.length : Int)) false (decide_eq_false (by omega))⟩
    convs := fun e he => by
      simp only [tabL, List.mem_cons, List.not_mem_nil, or_false] at he
      subst he
      refine ⟨by decide, rfl, rfl, ?_⟩
      show some (Value.int .i64 (IntKind.i64.wrap (t.length : Int))) = some (nat t.length)
      rw [wrapI64 _ (by omega)]
      rfl
    bytes := fun _ he => by cases he
    slices := fun e he => by
      simp only [tabL, List.mem_cons, List.not_mem_nil, or_false] at he
      rcases he with rfl | rfl | rfl | rfl
      . refine ⟨rfl, fun _ h => (by cases h), fun _ h => (by cases h; rfl), rfl, ?_⟩
        have e := cutHi (l := blobL t) (n := 5 + (decF 2 t.length).length) (by rw [blob_len]; omega)
        rw [show List.take (5 + (decF 2 t.length).length) (blobL t) = [98, 108, 111, 98, 32] ++ decF 2 t.length by rw [blob_split]; exact List.take_left' head_len] at e
        exact e
      . refine ⟨rfl, fun _ h => (by cases h; rfl), fun _ h => (by cases h), rfl, ?_⟩
        have e := cutLo (l := blobL t) (n := 6 + (decF 2 t.length).length) (by rw [blob_len]; omega)
        rw [show List.drop (6 + (decF 2 t.length).length) (blobL t) = t by
          rw [blob_split, show ([98, 108, 111, 98, 32] ++ decF 2 t.length) ++ 0 :: t = (([98, 108, 111, 98, 32] ++ decF 2 t.length) ++ [0]) ++ t by simp]
          exact List.drop_left' (by rw [List.length_append, head_len]; show _ + 1 = _; omega)] at e
        exact e
      . exact ⟨rfl, fun _ h => (by cases h), fun _ h => (by cases h; rfl), rfl, cutHi (l := [98, 108, 111, 98, 32] ++ decF 2 t.length) (n := 4) (by rw [head_len]; omega)⟩
      . exact ⟨rfl, fun _ h => (by cases h; rfl), fun _ h => (by cases h), rfl, cutLo (l := [98, 108, 111, 98, 32] ++ decF 2 t.length) (n := 5) (by rw [head_len]; omega)⟩
    lens := fun e he => by
      simp only [tabL, List.mem_cons, List.not_mem_nil, or_false] at he
      subst he
      exact ⟨rfl, ⟨⟨t⟩⟩, rfl, rfl⟩
    idx := fun _ he => by cases he
    keys := fun _ he => by cases he }
theorem specsL_ok (ht : t.length <= 200) : letI := looSg s room t id pr; ∀ e ∈ specsL, SpecOk Tryz.prog e.1 e.2 := by
  letI := looSg s room t id pr
  intro e he
  simp only [specsL, List.mem_cons, List.not_mem_nil, or_false] at he
  rcases he with rfl | rfl
  . show SpecOk Tryz.prog 152 (rowsT rowsL152)
    refine rowsX_ok ext152 fun e he => ?_
    simp only [rowsL152, List.mem_cons, List.not_mem_nil, or_false] at he
    rcases he with rfl | rfl
    . exact rowI (l := blobL t) (n := 5 + (decF 2 t.length).length) rfl rfl rfl rfl (by rw [blob_split]; exact (idx_at (head_0 ht)).trans (by rw [head_len]))
    . exact rowI (l := [98, 108, 111, 98, 32] ++ decF 2 t.length) (n := 4) rfl rfl rfl rfl (by rw [head_split]; exact idx_at (by decide))
  . show SpecOk Tryz.prog 99 (rowsT rowsL99)
    refine rows_ok (enters_of Tryz.func99 (by kernel_rfl) rfl) fun e he => ?_
    simp only [rowsL99, List.mem_cons, List.not_mem_nil, or_false] at he
    subst he
    exact ⟨rfl, rfl, fun w => undec_calls ht w⟩
end
theorem links_calls {t : List UInt8} (ht : t.length <= 200) (w : World) : Calls Tryz.prog 26 ⟨[str (blobL t)]⟩ w fun e w' => e = .returned (.tuple ⟨[.slice none 0 0, nat 0]⟩) /\ Below w.heap.size w w' := by
  letI := looSg .empty 0 t [] (prN [])
  obtain ⟨H, hrun⟩ := sameRes_ok links3
  refine (calls_closed (envS_ok (tabs_ok (tabL_ok ht))) mixed (funsSOk rfl) (specs_of rfl (specsL_ok ht)) 100000 200 hrun (.cons (.sym 3) .nil) w (by rw [Tryz.func26]; rfl)).mono ?_
  rintro e w' ⟨u, rfl, ⟨ρ, hV⟩, hb⟩
  cases hV with
  | tuple h =>
    cases h with
    | cons h1 t =>
      cases t with
      | cons h2 t2 =>
        cases t2
        rw [h2.int_inv]
        cases h1
        exact ⟨rfl, hb⟩
end Go.Proofs
