/- code.Hex and loose.Path, at every text. -/
import Derived.Test.YtgfkoolajkccnaaGreatDoorTBuild
import Derived.Test.YtgfkoolajkccnaaGreatDoorTEnv
/-! code.Hex and loose.Path, at every text. -/
namespace Go.Proofs
open Go.Ev Go.RowKit
noncomputable def digS (n : Nat) : UInt8 := UInt8.ofNat (ifB (Nat.ble n 9) (Nat.add 48 n) (Nat.add 87 n))
noncomputable def hexS (l : List UInt8) : List UInt8 := List.rec (motive := fun _ => List UInt8) [] (fun c _ ih => digS (Nat.div c.toNat 16) :: digS (Nat.mod c.toNat 16) :: ih) l
theorem digS_eq (n : Nat) : digS n = digL n := by
  unfold digS digL
  by_cases h : n < 10
  · rw [if_pos h, Nat.ble_eq_true_of_le (by omega : n ≤ 9)]; rfl
  · rw [if_neg h]
    have : Nat.ble n 9 = false := by
      cases hb : Nat.ble n 9 with
      | false => rfl
      | true => have := Nat.le_of_ble_eq_true hb; omega
    rw [this]; rfl
theorem hexS_eq : ∀ l, hexS l = hexL l
  | [] => rfl
  | c :: l => by
    show digS (c.toNat / 16) :: digS (c.toNat % 16) :: hexS l = _
    rw [hexS_eq l, digS_eq, digS_eq]
    rfl

noncomputable def sHex : Spec := fun args H => bnd (Go.Ev.one args) fun x => bnd (Go.Ev.strOf x) fun s => chk (Nat.ble (lenL s) 1099511627776) (some (str (hexS s), H))
theorem enters72 : Enters Tryz.prog 69 := enters_of Tryz.func69 (by kernel_rfl) rfl
theorem hex72 : SpecOk Tryz.prog 69 sHex := by
  intro args H v H' hs ρ w args' hA hH
  unfold sHex at hs
  simp only [bnd_eq, chk_eq] at hs
  obtain ⟨x, hx, s, hss, hlen, e⟩ := hs
  cases e
  have := one_inv hx; subst this
  have hxs : ∃ q, x = .string q ∧ s = q.data.toList := by
    cases x with
    | string q => simp [Go.Ev.strOf] at hss; exact ⟨q, rfl, hss.symm⟩
    | _ => simp [Go.Ev.strOf] at hss
  obtain ⟨q, rfl, rfl⟩ := hxs
  have hlen' := Nat.le_of_ble_eq_true hlen
  rw [lenL_eq] at hlen'
  have hqs : q.size = q.data.toList.length := by simp
  match args', hA with
  | [_], .cons h1 .nil =>
    rw [h1.string_inv, hexS_eq]
    refine spec_calls enters72 (Calls.mono (hex_walk q (by omega) w) ?_)
    rintro e w' ⟨rfl, hB⟩
    exact ⟨_, rfl, below_post hH rfl hB⟩

/-! ### loose.Path -/
noncomputable def pathL (l : List UInt8) : List UInt8 := appL (appL (appL [111, 98, 106, 101, 99, 116, 115, 47] (hexS (takeL 1 l))) [47]) (hexS (dropL 1 l))
noncomputable def pathB (s : ByteArray) : ByteArray := ⟨⟨ifB (Nat.beq (lenL s.data.toList) 32) (pathL s.data.toList) []⟩⟩
def strB : Value → Option ByteArray
  | .string s => some s
  | _ => none
noncomputable def sPath : Spec := fun args H => bnd (Go.Ev.one args) fun x => bnd (strB x) fun s => some (.string (pathB s), H)

noncomputable def specsP : List (FuncId × Spec) := (69, sHex) :: specs0
theorem specsP_ok : ∀ e ∈ specsP, SpecOk Tryz.prog e.1 e.2 := by
  intro e he
  rcases List.mem_cons.1 he with rfl | he
  · exact hex72
  · exact specs0_ok e he
noncomputable abbrev runP : Go.Ev.Call := evF (envOf specsP) 100000 200
theorem runP_ok : CallsOk Tryz.prog runP := calls_of specsP_ok _ _
set_option maxRecDepth 1000000
theorem path_run (b0 b1 b2 b3 b4 b5 b6 b7 b8 b9 b10 b11 b12 b13 b14 b15 b16 b17 b18 b19 b20 b21 b22 b23 b24 b25 b26 b27 b28 b29 b30 b31 : UInt8) : bnd (runP 106 [.string ⟨⟨[b0, b1, b2, b3, b4, b5, b6, b7, b8, b9, b10, b11, b12, b13, b14, b15, b16, b17, b18, b19, b20, b21, b22, b23, b24, b25, b26, b27, b28, b29, b30, b31]⟩⟩] Heap.empty) (fun r => some r.1) = some (.string ⟨⟨pathL [b0, b1, b2, b3, b4, b5, b6, b7, b8, b9, b10, b11, b12, b13, b14, b15, b16, b17, b18, b19, b20, b21, b22, b23, b24, b25, b26, b27, b28, b29, b30, b31]⟩⟩) := by kernel_rfl

theorem list32 : ∀ l : List UInt8, l.length = 32 → ∃ b0 b1 b2 b3 b4 b5 b6 b7 b8 b9 b10 b11 b12 b13 b14 b15 b16 b17 b18 b19 b20 b21 b22 b23 b24 b25 b26 b27 b28 b29 b30 b31 : UInt8, l = [b0, b1, b2, b3, b4, b5, b6, b7, b8, b9, b10, b11, b12, b13, b14, b15, b16, b17, b18, b19, b20, b21, b22, b23, b24, b25, b26, b27, b28, b29, b30, b31]
  | [b0, b1, b2, b3, b4, b5, b6, b7, b8, b9, b10, b11, b12, b13, b14, b15, b16, b17, b18, b19, b20, b21, b22, b23, b24, b25, b26, b27, b28, b29, b30, b31], _ => ⟨b0, b1, b2, b3, b4, b5, b6, b7, b8, b9, b10, b11, b12, b13, b14, b15, b16, b17, b18, b19, b20, b21, b22, b23, b24, b25, b26, b27, b28, b29, b30, b31, rfl⟩

theorem path_short (s : ByteArray) (hs : s.size ≠ 32) (w : World) : Calls Tryz.prog 106 #[.string s] w fun e w' => e = .returned (.string ⟨⟨[]⟩⟩) ∧ w' = w := by
  have h1 : ¬ ((s.size : Int) = 32) := by omega
  go_enter Tryz.func106, Tryz.ntmps106
  go_wp2
  go_ret
  exact ⟨rfl, rfl⟩

theorem enters53 : Enters Tryz.prog 106 := enters_of Tryz.func106 (by kernel_rfl) rfl
theorem path53 : SpecOk Tryz.prog 106 sPath := by
  intro args H v H' hs ρ w args' hA hH
  unfold sPath at hs
  simp only [bnd_eq] at hs
  obtain ⟨x, hx, s, hss, e⟩ := hs
  cases e
  have := one_inv hx; subst this
  have hxs : x = .string s := by
    cases x <;> first | (cases hss; done) | (cases hss; rfl)
  subst hxs
  match args', hA with
  | [_], .cons h1 .nil =>
    rw [h1.string_inv]
    by_cases h32 : s.data.toList.length = 32
    · have hb : pathB s = ⟨⟨pathL s.data.toList⟩⟩ := by
        unfold pathB
        rw [lenL_eq, h32]; rfl
      rw [hb]
      obtain ⟨b0, b1, b2, b3, b4, b5, b6, b7, b8, b9, b10, b11, b12, b13, b14, b15, b16, b17, b18, b19, b20, b21, b22, b23, b24, b25, b26, b27, b28, b29, b30, b31, hl⟩ := list32 _ h32
      have hs' : s = ⟨⟨[b0, b1, b2, b3, b4, b5, b6, b7, b8, b9, b10, b11, b12, b13, b14, b15, b16, b17, b18, b19, b20, b21, b22, b23, b24, b25, b26, b27, b28, b29, b30, b31]⟩⟩ := by
        apply ByteArray.ext
        apply Array.toList_inj.1
        exact hl
      have hrun := path_run b0 b1 b2 b3 b4 b5 b6 b7 b8 b9 b10 b11 b12 b13 b14 b15 b16 b17 b18 b19 b20 b21 b22 b23 b24 b25 b26 b27 b28 b29 b30 b31
      rw [bnd_eq] at hrun
      obtain ⟨⟨v, H1⟩, hr, e⟩ := hrun
      cases e
      rw [hl, hs']
      exact (runP_ok 106 _ Heap.empty _ H1 hr _ w _ (.cons (.string _) .nil) (HR.empty w)).mono fun v' w' hP => frame_post hH no_Wr rfl hP
    · have hb : pathB s = ⟨⟨[]⟩⟩ := by
        unfold pathB
        rw [lenL_eq]
        have : Nat.beq s.data.toList.length 32 = false := by
          cases hq : Nat.beq s.data.toList.length 32 with
          | false => rfl
          | true => exact absurd (Nat.eq_of_beq_eq_true hq) h32
        rw [this]; rfl
      rw [hb]
      have hqs : s.size = s.data.toList.length := by simp
      refine spec_calls enters53 (Calls.mono (path_short s (by omega) w) ?_)
      rintro e w' ⟨rfl, rfl⟩
      exact ⟨_, rfl, below_post hH rfl (Below.refl _ _)⟩
end Go.Proofs
