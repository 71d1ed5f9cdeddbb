/- lz.same, (last).find, (last).note. -/
import Derived.Test.YthnojgpobfpgeaaGreatDoorTPress
import Derived.Test.YthnojgpobfpgeaaGreatDoorPLb1
import Derived.Maps.OwnOps
import Derived.Maps.OwnSet
import Derived.Lib.Hide
import Derived.Laws.Slices
import Derived.WideLaws
import Derived.Laws.DeepStrings4
import Derived.WalkKit
namespace Go.Proofs
open Go.Ev Go.RowKit Go.Proofs.YthnojgpobfpgeaaGreatDoor.PLb Go.Proofs.YthnojgpobfpgeaaGreatDoorW.PrintWords
variable {s : ByteArray} (hs : s.size <= 1000)
include hs in
theorem same_ok {a q : Nat} (_ha : a <= s.size) (hq : q <= a) : ∀ (f n : Nat), a + n <= s.size -> s.size - (a + n) <= f -> ∀ k, f + 1 <= k -> lz_same.l0 k s (q : Int) (a : Int) (n : Int) = some ((sameL s.data.toList s.data.toList a q f n : Nat) : Int) := by
 have hsl : s.data.toList.length = s.size := by simp
 intro f
 induction f with
 | zero =>
  intro n h1 h2 k hk
  obtain ⟨k, rfl⟩ : ∃ k', k = k' + 1 := ⟨k - 1, by omega⟩
  rw [lz_same.l0]
  rw [w_add (by omega), if_neg (by omega)]
  rfl
 | succ f ih =>
  intro n h1 h2 k hk
  obtain ⟨k, rfl⟩ : ∃ k', k = k' + 1 := ⟨k - 1, by omega⟩
  rw [lz_same.l0]
  by_cases c1 : a + n < s.size
  ·
   have c2 : q + n < s.size := by omega
   rw [w_add (by omega), w_add (by omega), w_one (by omega), if_pos (by omega), if_pos (by omega), if_pos (by omega), if_pos (by omega)]
   by_cases c3 : s.data.toList[a + n]? = s.data.toList[q + n]?
   ·
    have e : sameL s.data.toList s.data.toList a q (f + 1) n = sameL s.data.toList s.data.toList a q f (n + 1) := by
     conv => lhs; unfold sameL
     rw [if_pos ⟨by omega, by omega, c3⟩]
    rw [if_pos ((bt_eq c2 c1).2 c3.symm), e]
    exact ih (n + 1) (by omega) (by omega) k (by omega)
   ·
    have e : sameL s.data.toList s.data.toList a q (f + 1) n = n := by
     unfold sameL
     rw [if_neg (fun h => c3 h.2.2)]
    rw [if_neg (fun h => c3 ((bt_eq c2 c1).1 h).symm), e]
  ·
   have e : sameL s.data.toList s.data.toList a q (f + 1) n = n := by
    unfold sameL
    rw [if_neg (fun h => by omega)]
   rw [w_add (by omega), if_neg (by omega), e]
theorem same_four {l : List UInt8} {a q f : Nat} (h : cutL l q 4 = cutL l a 4) (ha : a + 4 <= l.length) (hq : q <= a) : sameL l l a q (f + 4) 0 = sameL l l a q f 4 := by
 have g : ∀ i, i < 4 -> l[a + i]? = l[q + i]? := by
  intro i hi
  have e1 : (cutL l q 4)[i]? = l[q + i]? := by unfold cutL; rw [List.getElem?_take_of_lt hi, List.getElem?_drop]
  have e2 : (cutL l a 4)[i]? = l[a + i]? := by unfold cutL; rw [List.getElem?_take_of_lt hi, List.getElem?_drop]
  rw [<- e1, <- e2, h]
 have step : ∀ f n, n < 4 -> sameL l l a q (f + 1) n = sameL l l a q f (n + 1) := by
  intro f n hn
  conv => lhs; unfold sameL
  rw [if_pos ⟨by omega, by omega, g n hn⟩]
 rw [step _ 0 (by omega), step _ 1 (by omega), step _ 2 (by omega), step _ 3 (by omega)]
include hs in
theorem same_calls {a q : Nat} (ha : a + 4 <= s.size) (hq : q <= a) (h : cutL s.data.toList q 4 = cutL s.data.toList a 4) (w : World) :
  Calls Tryz.prog 110 #[.string s, .int .i64 (q : Int), .int .i64 (a : Int)] w fun e w' => e = .returned (.int .i64 ((sameL s.data.toList s.data.toList a q s.data.toList.length 4 : Nat) : Int)) /\ ∃ n, w' = w.drewN n := by
 have hsl : s.data.toList.length = s.size := by simp
 have h1 := same_ok hs (a := a) (q := q) (by omega) hq (s.data.toList.length + 4) 0 (by omega) (by omega) (s.size + 5) (by omega)
 rw [same_four h (by omega) hq] at h1
 exact (lz_same.calls (s.size + 5) s (q : Int) (a : Int) _ w h1).mono fun e w' ⟨he, n, hw⟩ => ⟨he, n, hw⟩
end Go.Proofs
namespace Go.Proofs
open Go.Ev Go.RowKit Go.WideMaps
attribute [local go_sem] Oper.semAt_some
abbrev keyS (s : ByteArray) (k : Nat) : Lit := .string (s.extract k (k + 4)).data.toList
def lastD (s : ByteArray) : Nat -> DataW Unit
 | 0 => .map []
 | k + 1 => if k + 4 <= s.size then (lastD s k).put (keyS s k) (.lit (.int .i64 (k : Int))) else lastD s k
theorem lastD_in {s : ByteArray} {k : Nat} (h : k + 4 <= s.size) : lastD s (k + 1) = (lastD s k).put (keyS s k) (.lit (.int .i64 (k : Int))) := if_pos h
theorem lastD_end {s : ByteArray} {k : Nat} (h : s.size < k + 4) : ∀ n, lastD s (k + n) = lastD s k
 | 0 => rfl
 | n + 1 => by
  have : lastD s (k + n + 1) = lastD s (k + n) := if_neg (by omega)
  rw [<- Nat.add_assoc, this, lastD_end h n]
theorem lastD_isMap (s : ByteArray) : ∀ n, Maps.IsMap (lastD s n)
 | 0 => Maps.isMap_empty
 | n + 1 => by
  unfold lastD
  split
  ·
   exact (lastD_isMap s n).put _ _
  ·
   exact lastD_isMap s n
theorem cut_key {s : ByteArray} (k : Nat) : (s.extract k (k + 4)).data.toList = cutL s.data.toList k 4 := by
 unfold cutL
 rw [ByteArray.data_extract, Array.toList_extract, List.extract_eq_take_drop]
 simp
theorem last_has (s : ByteArray) (g : List UInt8) (z : DataW Unit) : ∀ n, Maps.has (lastD s n) (.string g) = (lastL s.data.toList g n).isSome /\ ∀ j, lastL s.data.toList g n = some j -> (lastD s n).atKey (.string g) z = .lit (.int .i64 (j : Int))
 | 0 => ⟨rfl, fun j h => by cases h⟩
 | n + 1 => by
  obtain ⟨ih1, ih2⟩ := last_has s g z n
  have hm := lastD_isMap s n
  have hsl : s.data.toList.length = s.size := by simp
  unfold lastD lastL
  rw [hsl]
  by_cases h4 : n + 4 <= s.size
  ·
   rw [if_pos h4]
   by_cases hg : cutL s.data.toList n 4 = g
   ·
    rw [if_pos ⟨h4, hg⟩]
    have hk : keyS s n = .string g := by rw [<- hg, <- cut_key]
    rw [hk]
    exact ⟨Maps.has_put_same hm (by trivial) _, fun j h' => by cases h'; exact Maps.atKey_put_same hm (by trivial) _ _⟩
   ·
    rw [if_neg (fun h => hg h.2)]
    have hk : keyS s n ≠ .string g := by
     intro e; injection e with e; rw [cut_key] at e; exact hg e
    exact ⟨by rw [Maps.has_put_other (Ne.symm hk)]; exact ih1, fun j h' => by rw [Maps.atKey_put_other (Ne.symm hk)]; exact ih2 j h'⟩
  ·
   rw [if_neg h4, if_neg (fun h => h4 h.1)]
   exact ⟨ih1, ih2⟩
theorem last_look {s : ByteArray} (_hs : s.size <= 1000) (a : Nat) (_ha : a <= s.size) : a + 4 <= s.size -> Maps.has (lastD s a) (keyS s a) = (lastL s.data.toList (cutL s.data.toList a 4) a).isSome /\ ∀ z j, lastL s.data.toList (cutL s.data.toList a 4) a = some j -> (lastD s a).atKey (keyS s a) z = .lit (.int .i64 (j : Int)) := fun _ => by
 unfold keyS
 rw [cut_key]
 exact ⟨(last_has s _ (.map []) a).1, fun z => (last_has s _ z a).2⟩
theorem key_ok4 {s : ByteArray} (_hs : s.size <= 1000) (k : Nat) : keyOf Tryz.prog 9 (.string (s.extract k (k + 4))) = some (keyS s k) :=
 WideMaps.keyOf_string_mk (P := Tryz.prog) Tryz.underlying9 (by rw [ByteArray.size_extract]; unfold maxLen; omega)
set_option maxRecDepth 1000000 in
set_option maxHeartbeats 4000000 in
theorem note_calls {s : ByteArray} (hs : s.size <= 1000) {a b : Nat} (hab : a <= b) (hb : b <= s.size) (m : Nat) (w : World)
  (hm : w.ownsMap Tryz.prog 9 (plainElem (H := Unit) Tryz.prog 3) m a (lastD s a)) :
  Calls Tryz.prog 66 #[.map (some m), .string s, .int .i64 (a : Int), .int .i64 (b : Int)] w fun e w' => (∃ v, e = .returned v) /\ w'.ownsMap Tryz.prog 9 (plainElem (H := Unit) Tryz.prog 3) m b (lastD s b) /\ w.grownBy w' (some m) := by
 go_enter Tryz.func66, Tryz.ntmps66
 go_wp2
 go_loopw [8] (fun i wr => ∃ k : Nat, a <= k /\ k <= b /\ i = .int .i64 k /\ wr.ownsMap Tryz.prog 9 (plainElem Tryz.prog 3) m k (lastD s k) /\ w.grownBy wr (some m))
  (fun i _ => b - (intOf i).toNat)
 case atStart => exact ⟨a, Nat.le_refl _, hab, rfl, hm, World.grownBy.refl _ _⟩
 case round =>
  obtain ⟨k, hak, hkb, rfl, hown, hnx⟩ := hrel
  have hkey := key_ok4 hs k
  by_cases hlt : k < b
  case neg =>
   have : k = b := by omega
   subst this
   go_wp2
   go_end0
   exact ⟨⟨_, rfl⟩, hown, hnx⟩
  by_cases h4 : k + 4 <= s.size
  case neg =>
   have h4' : ¬ (k : Int) + 4 <= (s.size : Int) := by omega
   go_wp2
   go_end0
   refine ⟨⟨_, rfl⟩, ?_, hnx⟩
   have e : lastD s b = lastD s k := by
    have := lastD_end (s := s) (k := k) (by omega) (b - k)
    rwa [Nat.add_sub_cancel' hkb] at this
   rw [e]
   exact hown.mono hkb
  have h4' : (k : Int) + 4 <= (s.size : Int) := by omega
  go_wp2_with (first
   | (at_mapUpdate; refine wpList_mapUpdate_own _ rfl _ _ _ 100 rfl 9 3 (Maps.string_keyed Tryz.underlying9) Tryz.underlying100 _ m k _ rfl hown (by unfold maxLen; omega) _ _ _ rfl rfl hkey _ [] (plainElem_int Tryz.underlying3 (WalkArith.wf_i64 (by omega))) ?_)
   | go_in)
  intro w1 hown1 hgrow1
  have R1 : w1.ownsMap Tryz.prog 9 (plainElem (H := Unit) Tryz.prog 3) m (k + 1) (lastD s (k + 1)) := (lastD_in h4).symm ▸ hown1
  have R2 := hnx.trans hgrow1
  clear hown1 hgrow1 hown hkey
  go_wp2
  go_roundw
  case rel => exact ⟨k + 1, by omega, by omega, by go_num, R1, R2⟩
  case measure => simp [intOf]; omega
end Go.Proofs
namespace Go.Proofs
open Go.Ev Go.RowKit Go.WideMaps
attribute [local go_sem] Oper.semAt_some
def Fnd (s : ByteArray) (a : Nat) (b n : Nat) : Prop := match (if a + 4 <= s.size then lastL s.data.toList (cutL s.data.toList a 4) a else none) with
 | none => b = 0
 | some k => b = a - k /\ n = sameL s.data.toList s.data.toList a k s.data.toList.length 4
theorem fnd_out {s : ByteArray} {a : Nat} (h : ¬ a + 4 <= s.size) : Fnd s a 0 0 := by unfold Fnd; rw [if_neg h]
theorem fnd_none {s : ByteArray} {a : Nat} (h : a + 4 <= s.size) (e : lastL s.data.toList (cutL s.data.toList a 4) a = none) : Fnd s a 0 0 := by unfold Fnd; rw [if_pos h, e]
theorem fnd_some {s : ByteArray} {a k : Nat} (h : a + 4 <= s.size) (e : lastL s.data.toList (cutL s.data.toList a 4) a = some k) : Fnd s a (a - k) (sameL s.data.toList s.data.toList a k s.data.toList.length 4) := by unfold Fnd; rw [if_pos h, e]; exact ⟨rfl, rfl⟩
def FndP (s : ByteArray) (a : Nat) (w : World) (e : Ending) (w' : World) : Prop := ∃ b n : Nat, e = .returned (.tuple #[.int .i64 (b : Int), .int .i64 (n : Int)]) /\ Fnd s a b n /\ ∃ n, w' = w.drewN n
set_option maxRecDepth 1000000 in
set_option maxHeartbeats 4000000 in
theorem find_out {s : ByteArray} (hs : s.size <= 1000) {a : Nat} (ha : a <= s.size) (m : Nat) (w : World) (h4 : ¬ a + 4 <= s.size) :
  Calls Tryz.prog 65 #[.map (some m), .string s, .int .i64 (a : Int)] w (FndP s a w) := by
 have h4' : ¬ (a : Int) + 4 <= (s.size : Int) := by omega
 have hF := Lib.hid (fnd_out h4)
 clear h4
 go_enter Tryz.func65, Tryz.ntmps65
 go_wp2
 go_ret2
 exact ⟨0, 0, rfl, hF.out, 0, rfl⟩
set_option maxRecDepth 1000000 in
set_option maxHeartbeats 4000000 in
theorem find_none {s : ByteArray} (hs : s.size <= 1000) {a : Nat} (ha : a <= s.size) (m : Nat) (w : World) (h4 : a + 4 <= s.size)
  (hm : w.ownsMap Tryz.prog 9 (plainElem (H := Unit) Tryz.prog 3) m a (lastD s a)) (e : lastL s.data.toList (cutL s.data.toList a 4) a = none) :
  Calls Tryz.prog 65 #[.map (some m), .string s, .int .i64 (a : Int)] w (FndP s a w) := by
 have h4' : (a : Int) + 4 <= (s.size : Int) := by omega
 have hF := Lib.hid (fnd_none h4 e)
 have hkey := key_ok4 hs a
 have hhas : Maps.has (lastD s a) (keyS s a) = false := by rw [(last_look hs a ha h4).1, e]; rfl
 clear e
 go_enter Tryz.func65, Tryz.ntmps65
 go_wp2_with (at_lookup; refine wpList_lookup_own_ok_int _ rfl _ _ 100 rfl 9 3 .i64 (Maps.string_keyed Tryz.underlying9) Tryz.underlying100 Tryz.underlying3 (Tryz.zeroValue3 _) m a _ rfl hm _ _ rfl hkey ?_; intro c hat hwc; rw [hhas])
 go_ret2
 exact ⟨0, 0, rfl, hF.out, 0, rfl⟩
set_option maxRecDepth 1000000 in
set_option maxHeartbeats 4000000 in
theorem find_some {s : ByteArray} (hs : s.size <= 1000) {a k : Nat} (ha : a <= s.size) (m : Nat) (w : World) (h4 : a + 4 <= s.size)
  (hm : w.ownsMap Tryz.prog 9 (plainElem (H := Unit) Tryz.prog 3) m a (lastD s a)) (e : lastL s.data.toList (cutL s.data.toList a 4) a = some k) :
  Calls Tryz.prog 65 #[.map (some m), .string s, .int .i64 (a : Int)] w (FndP s a w) := by
 have h4' : (a : Int) + 4 <= (s.size : Int) := by omega
 have hF := Lib.hid (fnd_some h4 e)
 have hkl := lastL_lt e
 have hka : k <= a := Nat.le_of_lt hkl.1
 have hsm := Lib.hid (fun W => same_calls hs h4 hka hkl.2.2 W)
 have hkey := key_ok4 hs a
 have hhas : Maps.has (lastD s a) (keyS s a) = true := by rw [(last_look hs a ha h4).1, e]; rfl
 have hatk := (last_look hs a ha h4).2 (.lit (.int .i64 0)) k e
 clear e hkl
 have hF : Hid (∃ d : Nat, (a : Int) - (k : Int) = (d : Int) /\ Fnd s a d (sameL s.data.toList s.data.toList a k s.data.toList.length 4)) := Lib.hid ⟨a - k, by omega, hF.out⟩
 go_enter Tryz.func65, Tryz.ntmps65
 go_wp2_with (first
  | (at_lookup; refine wpList_lookup_own_ok_int _ rfl _ _ 100 rfl 9 3 .i64 (Maps.string_keyed Tryz.underlying9) Tryz.underlying100 Tryz.underlying3 (Tryz.zeroValue3 _) m a _ rfl hm _ _ rfl hkey ?_; intro c hat hwc; rw [hhas]; rw [hatk] at hat; injection hat with hat; injection hat with _ hat; subst hat)
  | (go_at_call 110; refine (hsm.out _).mono ?_; rintro e w' ⟨rfl, n, rfl⟩))
 go_ret2
 obtain ⟨d, hd1, hd2⟩ := hF.out
 exact ⟨d, _, by
  rw [show s.data.toList.length = s.size from by simp, <- hd1]; rfl, hd2, n, rfl⟩
theorem find_calls {s : ByteArray} (hs : s.size <= 1000) {a : Nat} (ha : a <= s.size) (m : Nat) (w : World)
  (hm : w.ownsMap Tryz.prog 9 (plainElem (H := Unit) Tryz.prog 3) m a (lastD s a)) :
  Calls Tryz.prog 65 #[.map (some m), .string s, .int .i64 (a : Int)] w (FndP s a w) := by
 by_cases h4 : a + 4 <= s.size
 ·
  cases e : lastL s.data.toList (cutL s.data.toList a 4) a with
  | none => exact find_none hs ha m w h4 hm e
  | some k => exact find_some hs ha m w h4 hm e
 ·
  exact find_out hs ha m w h4
end Go.Proofs
