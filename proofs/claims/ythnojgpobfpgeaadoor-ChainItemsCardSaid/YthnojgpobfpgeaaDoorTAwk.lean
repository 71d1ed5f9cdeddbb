/- awake, run. -/
import Derived.Test.YthnojgpobfpgeaaDoorTGiv
import Derived.Test.YthnojgpobfpgeaaDoorEvSym
import Derived.Test.YthnojgpobfpgeaaDoorTEnv
/-! awake, run. -/
namespace Go.Proofs
open Go.Ev Go.RowKit
noncomputable def sMake (args : List Value) (H : Heap) : Res := bnd (strStr args) fun p => chk (Nat.ble (lenL p.1) 1000) (chk (Nat.ble (lenL p.2) 1000) (some (str (deltaL p.1 p.2), H)))
theorem sMake_ok [Sg] : SpecOk Tryd.prog 10 sMake := by
 intro args H u H' hs ρ w args' hA hH
 unfold sMake strStr at hs
 simp only [bnd_eq, chk_eq] at hs
 obtain ⟨p, ⟨q, hq, b, hb, s, hs', e1⟩, h1, h2, e⟩ := hs
 cases e
 cases e1
 have hq2 := two_inv hq
 subst hq2
 obtain ⟨v1, v2⟩ := q
 have str_of : ∀ {v : Value} {l : List UInt8}, strOf v = some l → ∃ q : ByteArray, v = .string q ∧ l = q.data.toList := by
  intro v l h
  cases v with
  | string q => simp [strOf] at h; exact ⟨q, rfl, h.symm⟩
  | _ => simp [strOf] at h
 obtain ⟨q1, rfl, rfl⟩ := str_of hb
 obtain ⟨q2, rfl, rfl⟩ := str_of hs'
 have g1 := Nat.le_of_ble_eq_true h1
 have g2 := Nat.le_of_ble_eq_true h2
 rw [lenL_eq] at g1 g2
 match args', hA with
 | [_, _], .cons e1 (.cons e2 .nil) =>
  rw [e1.string_inv, e2.string_inv]
  refine spec_calls (enters_of Tryd.func10 (by kernel_rfl) rfl) (Calls.mono (make_calls w (by simpa using g1) (by simpa using g2)) ?_)
  rintro e w' ⟨rfl, hB⟩
  exact ⟨_, rfl, below_postV hH (den_V (v := str (deltaL q1.data.toList q2.data.toList)) rfl) hB⟩
theorem ext83 : Go.Ev.Ext Tryd.prog 83 Extern.BytealgIndexByte.indexByte := ⟨Tryd.f83, Tryd.func83, by decide, rfl, by kernel_rfl, by kernel_rfl⟩
noncomputable def specsA : List (FuncId × Spec) := [(10, sMake), (83, sIndexByte)]
theorem specsA_ok [Go.Ev.Sg] : ∀ e ∈ specsA, SpecOk Tryd.prog e.1 e.2 := by
 intro e he
 simp only [specsA, List.mem_cons, List.not_mem_nil, or_false] at he
 rcases he with rfl | rfl
 ·
  exact sMake_ok
 ·
  exact indexByte_ok ext83
noncomputable abbrev runAw : Go.Ev.Call := evF (envOf specsA) 100000 200
set_option maxRecDepth 1000000 in
theorem aw7 : sameRes (runAw 7 [] Heap.empty) (.bool true) = true := by kernel_rfl
theorem awake_calls (w : World) : Calls Tryd.prog 7 #[] w fun e w' => e = .returned (.bool true) ∧ Below w.heap.size w w' := by
 letI : Sg := sgF (fun _ => .int .i64 0) fun _ => rfl
 obtain ⟨H, hrun⟩ := sameRes_ok aw7
 refine (calls_closed env_ok mixed (funsOk rfl) (specs_of rfl specsA_ok) 100000 200 hrun .nil w (by rw [Tryd.func7]; rfl)).mono ?_
 rintro e w' ⟨u, rfl, ⟨ρ, hV⟩, hb⟩
 cases hV
 exact ⟨rfl, hb⟩
end Go.Proofs
namespace Go.Proofs.YthnojgpobfpgeaaDoor.PCg
open Go.RowKit
theorem pollardlaw12_awake.calls (r : Bool) (w : World) (h : pollardlaw12_awake.f = some r) : Calls Tryd.prog 7 #[] w fun e w' => e = .returned (.bool r) ∧ Below w.heap.size w w' := by
 cases h
 exact Go.Proofs.awake_calls w
end Go.Proofs.YthnojgpobfpgeaaDoor.PCg
