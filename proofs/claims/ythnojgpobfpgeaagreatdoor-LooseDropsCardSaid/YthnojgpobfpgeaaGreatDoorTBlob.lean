/- Ids and pressed texts: program and reference. -/
import Derived.Test.YthnojgpobfpgeaaGreatDoorTMid
import Derived.Test.YthnojgpobfpgeaaGreatDoorTRnd
import Derived.Test.YthnojgpobfpgeaaGreatDoorTPress
import Derived.Test.YthnojgpobfpgeaaGreatDoorPLb1
import Derived.Test.YthnojgpobfpgeaaGreatDoorTEnv
namespace Go.Proofs
open Go.Ev Go.RowKit
open Go.Proofs.YthnojgpobfpgeaaGreatDoor.PLa Go.Proofs.YthnojgpobfpgeaaGreatDoorW.PrintWords
set_option maxRecDepth 100000 in
theorem oid_calls (s : ByteArray) (hs : s.size <= 1073741824) (w : World) : Calls Tryz.prog 27 #[.string s] w fun e w' => e = .returned (str (shaF s.data.toList)) /\ Below w.heap.size w w' := by
 have h := Lib.hid (fun W => of_calls s hs W)
 clear hs
 go_enter Tryz.func27, Tryz.ntmps27
 go_wp2_with (go_at_call 63; refine (h.out _).mono ?_; rintro e w' ⟨rfl, hb⟩)
 go_ret
 exact ⟨rfl, hb⟩
end Go.Proofs
namespace Go.Proofs
open Go.Ev Go.RowKit
def decF : Nat -> Nat -> List UInt8
 | 0, n => [UInt8.ofNat (48 + n)]
 | f + 1, n => if n < 10 then [UInt8.ofNat (48 + n)] else decF f (n / 10) ++ [UInt8.ofNat (48 + n % 10)]
theorem decF_len : ∀ f n, (decF f n).length <= f + 1
 | 0, _ => Nat.le_refl _
 | f + 1, n => by
  unfold decF
  split
  ·
   simp
  ·
   rw [List.length_append]
   have := decF_len f (n / 10)
   simp
   omega
theorem app_ofL (a b : List UInt8) : ofL a ++ ofL b = ofL (a ++ b) := by
 apply ByteArray.ext
 rw [ByteArray.data_append]
 apply Array.ext'
 simp [ofL]
def blobL (l : List UInt8) : List UInt8 := [98, 108, 111, 98] ++ [32] ++ decF 2 l.length ++ [0] ++ l
noncomputable abbrev runU : Go.Ev.Call := evF (envOf []) 100000 200
noncomputable def allN (p : Nat -> Bool) (lo n : Nat) : Bool := Nat.rec (motive := fun _ => Bool) true (fun k ih => ifB (p (Nat.add lo k)) ih false) n
theorem allN_ok {p : Nat -> Bool} {lo : Nat} : ∀ {n : Nat}, allN p lo n = true -> ∀ k, k < n -> p (lo + k) = true
 | 0, _, k, hk => by omega
 | n + 1, h, k, hk => by
  have h' : ifB (p (lo + n)) (allN p lo n) false = true := h
  cases hp : p (lo + n) with
  | false => rw [hp] at h'; cases h'
  | true =>
   rw [hp, ifB_true] at h'
   by_cases e : k = n
   ·
    subst e; exact hp
   ·
    exact allN_ok h' k (by omega)
noncomputable def decB (n : Nat) : Bool := sameRes (runU 58 [.int .u64 (.ofNat n)] Heap.empty) (str (decF 2 n))
set_option maxRecDepth 1000000 in
theorem dec_run : allN decB 0 201 = true := by kernel_rfl
set_option maxRecDepth 1000000 in
theorem kind_run : sameRes (runU 57 [.int .i64 (.ofNat 1)] Heap.empty) (str [98, 108, 111, 98]) = true := by kernel_rfl
theorem dec_calls {n : Nat} (h : n <= 200) (w : World) : Calls Tryz.prog 58 #[.int .u64 (n : Int)] w fun e w' => e = .returned (.string (ofL (decF 2 n))) /\ Below w.heap.size w w' := by
 letI : Sg := sgF (fun _ => .int .i64 0) fun _ => rfl
 have h1 := allN_ok dec_run n (by omega)
 rw [Nat.zero_add] at h1
 obtain ⟨H, hrun⟩ := sameRes_ok h1
 refine (calls_closed env_ok mixed (funsOk rfl) (specs_of rfl (fun e he => by cases he)) 100000 200 hrun (.cons (.int _ _) .nil) w (by rw [Tryz.func58]; rfl)).mono ?_
 rintro e w' ⟨u, rfl, ⟨ρ, hV⟩, hb⟩
 cases hV
 exact ⟨rfl, hb⟩
theorem kind_calls (w : World) : Calls Tryz.prog 57 #[.int .i64 1] w fun e w' => e = .returned (.string (ofL [98, 108, 111, 98])) /\ Below w.heap.size w w' := by
 letI : Sg := sgF (fun _ => .int .i64 0) fun _ => rfl
 obtain ⟨H, hrun⟩ := sameRes_ok kind_run
 refine (calls_closed env_ok mixed (funsOk rfl) (specs_of rfl (fun e he => by cases he)) 100000 200 hrun (.cons (.int _ _) .nil) w (by rw [Tryz.func57]; rfl)).mono ?_
 rintro e w' ⟨u, rfl, ⟨ρ, hV⟩, hb⟩
 cases hV
 exact ⟨rfl, hb⟩
set_option maxRecDepth 1000000 in
theorem raw_calls {t : List UInt8} (ht : t.length <= 200) (w : World) : Calls Tryz.prog 25 #[.int .i64 1, .string (ofL t)] w fun e w' => e = .returned (.string (ofL (blobL t))) /\ Below w.heap.size w w' := by
 have hk := Lib.hid (fun w => kind_calls w)
 have hd := Lib.hid (fun w => dec_calls ht w)
 have hl := decF_len 2 t.length
 have c1 : ofL [98, 108, 111, 98] ++ ⟨#[32]⟩ = ofL ([98, 108, 111, 98] ++ [32]) := app_ofL _ _
 have c2 := app_ofL ([98, 108, 111, 98] ++ [32]) (decF 2 t.length)
 have c3 : ofL ([98, 108, 111, 98] ++ [32] ++ decF 2 t.length) ++ ⟨#[0]⟩ = ofL ([98, 108, 111, 98] ++ [32] ++ decF 2 t.length ++ [0]) := app_ofL _ _
 have c4 := app_ofL ([98, 108, 111, 98] ++ [32] ++ decF 2 t.length ++ [0]) t
 have z1 : (ofL [98, 108, 111, 98]).size = 4 := rfl
 have z2 : (ofL ([98, 108, 111, 98] ++ [32])).size = 5 := rfl
 have z3 : (ofL (decF 2 t.length)).size <= 3 := hl
 have z4 : (ofL ([98, 108, 111, 98] ++ [32] ++ decF 2 t.length)).size = 5 + (decF 2 t.length).length := by show ([98, 108, 111, 98] ++ [32] ++ decF 2 t.length : List UInt8).length = _; simp; omega
 have z5 : (ofL ([98, 108, 111, 98] ++ [32] ++ decF 2 t.length ++ [0])).size = 6 + (decF 2 t.length).length := by show ([98, 108, 111, 98] ++ [32] ++ decF 2 t.length ++ [0] : List UInt8).length = _; simp; omega
 have z6 : (ofL t).size = t.length := rfl
 have u1 : IntKind.u64.wrap (t.length : Int) = (t.length : Int) := wrapU64 _ (by omega)
 change Hid (∀ w, Calls Tryz.prog 58 #[.int .u64 (t.length : Int)] w fun e w' => e = .returned (.string (ofL (decF 2 t.length))) /\ Below w.heap.size w w') at hd
 show Calls Tryz.prog 25 #[.int .i64 1, .string (ofL t)] w fun e w' => e = .returned (.string (ofL ([98, 108, 111, 98] ++ [32] ++ decF 2 t.length ++ [0] ++ t))) /\ Below w.heap.size w w'
 generalize ofL ([98, 108, 111, 98] ++ [32] ++ decF 2 t.length ++ [0] ++ t) = B5 at c4 ⊢
 generalize ofL ([98, 108, 111, 98] ++ [32] ++ decF 2 t.length ++ [0]) = B4 at c3 c4 z5
 generalize ofL ([98, 108, 111, 98] ++ [32] ++ decF 2 t.length) = B3 at c2 c3 z4
 generalize ofL ([98, 108, 111, 98] ++ [32]) = B2 at c1 c2 z2
 generalize ofL [98, 108, 111, 98] = B1 at hk c1 z1
 generalize ofL (decF 2 t.length) = D at hd c2 z3
 generalize ofL t = T at c4 z6 ⊢
 rw [<- z6] at hd u1
 have q1 : B1.size + 1 <= 9223372036854775807 := by omega
 have q2 : B2.size + D.size <= 9223372036854775807 := by omega
 have q3 : B3.size + 1 <= 9223372036854775807 := by omega
 have q4 : B4.size + T.size <= 9223372036854775807 := by omega
 have r1 : (9223372036854775807 < B1.size + 1) = False := eq_false (by omega)
 have r2 : (9223372036854775807 < B2.size + D.size) = False := eq_false (by omega)
 have r3 : (9223372036854775807 < B3.size + 1) = False := eq_false (by omega)
 have r4 : (9223372036854775807 < B4.size + T.size) = False := eq_false (by omega)
 clear z1 z2 z3 z4 z5 z6 hl ht
 go_enter Tryz.func25, Tryz.ntmps25
 go_wp2_with (first
  | (go_at_call 57; refine (hk.out _).mono ?_; rintro r w1 ⟨rfl, hb⟩; have hS1 : Hid (Below w.heap.size w w1) := Lib.hid hb; clear hb)
  | (go_at_call 58; refine (hd.out _).mono ?_; rintro r w2 ⟨rfl, hb⟩; have hS2 : Hid (Below w.heap.size w w2) := Lib.hid (hS1.out.trans (hb.mono hS1.out.size)); clear hb))
 go_ret
 exact ⟨rfl, hS2.out⟩
set_option maxRecDepth 1000000 in
theorem blob_calls (s : ByteArray) (w : World) : Calls Tryz.prog 7 #[.string s] w fun e w' => e = .returned (.string (ofL (blobL (s.data.toList.take 200)))) /\ Below w.heap.size w w' := by
 have hsl : s.data.toList.length = s.size := by simp
 have hr := Lib.hid (fun w => raw_calls (t := s.data.toList.take 200) (by rw [List.length_take]; omega) w)
 by_cases c : s.size > 200
 ·
  have c0 : (200 : Int) < (s.size : Int) := by omega
  have c1 : (200 : Int) <= (s.size : Int) := by omega
  have e : s.extract 0 200 = ofL (s.data.toList.take 200) := by
   apply ByteArray.ext
   rw [ByteArray.data_extract]
   apply Array.ext'
   rw [Array.toList_extract, List.extract_eq_take_drop]
   rfl
  generalize ofL (blobL (s.data.toList.take 200)) = R at hr ⊢
  generalize ofL (s.data.toList.take 200) = T at hr e
  clear hsl
  go_enter Tryz.func7, Tryz.ntmps7
  go_wp2_with (go_at_call 25; refine (hr.out _).mono ?_; rintro r w1 ⟨rfl, hb⟩)
  go_ret
  exact ⟨rfl, hb⟩
 ·
  have c0 : ¬ (200 : Int) < (s.size : Int) := by omega
  have e : ofL (s.data.toList.take 200) = s := by
   rw [List.take_of_length_le (by omega)]
   rfl
  generalize ofL (blobL (s.data.toList.take 200)) = R at hr ⊢
  rw [e] at hr
  clear hsl e
  go_enter Tryz.func7, Tryz.ntmps7
  go_wp2_with (go_at_call 25; refine (hr.out _).mono ?_; rintro r w1 ⟨rfl, hb⟩)
  go_ret
  exact ⟨rfl, hb⟩
end Go.Proofs
