/- lz.Spread: what a match puts. -/
import Derived.Test.YthnojgpobfpgeaaGreatDoorTSprA
namespace Go.Proofs
open Go.RowKit Go.Ev Go.Lib
attribute [local go_sem] Oper.semAt_some
set_option maxHeartbeats 4000000 in
set_option maxRecDepth 1000000 in
theorem tail_bad {n tb base : Nat} {w0 : World} {T : ByteArray} {e : Int} {out : List UInt8} {k m : Nat} {A : Act} {W : World} (hI : SpM n tb base w0 T e out k m A W) (he : ¬ e = 0) {Q : Exit -> Act -> World -> Prop}
  (hQ : ∀ A' W', SpS n tb base w0 T e out A' W' -> Q .normal A' W') : wpL Tryz.prog [itemN L38b 5, itemN L38b 6, itemN L38b 7, itemN L38b 8, itemN L38b 9] Q A W := by
 obtain ⟨⟨v, hF, hB⟩, hT, hbut, hle, hsz, hlen⟩ := hI
 obtain ⟨f, rfl⟩ := fr6a hF
 obtain ⟨c0, c1, f0, f1⟩ := tak_cells hT
 have hK := Lib.hid (And.intro hB (And.intro hT (And.intro hbut (And.intro hle (And.intro hsz hlen)))))
 have hQ' := Lib.hid hQ
 clear hF hB hT hbut hle hsz hlen hQ
 refine wpL_lit (L' := [.region 13 _ _, .region 14 _ _, .cond _ _ _, .region 16 _ _, .cond _ _ _]) (by rfl) ?_
 simp only [wpL]
 go_wp2
 obtain ⟨hB, hT, hbut, hle, hsz, hlen⟩ := hK.out
 refine hQ'.out _ _ ⟨⟨v, ⟨rfl, rfl, fun p hp => ?_⟩, hB⟩, hT, hbut, hle, hsz, hlen⟩
 simp only [List.mem_cons, List.not_mem_nil, or_false] at hp
 rcases hp with rfl | rfl | rfl <;> rfl
set_option maxHeartbeats 4000000 in
set_option maxRecDepth 1000000 in
theorem tail_big {n tb base : Nat} {w0 : World} {T : ByteArray} {out : List UInt8} {k m : Nat} {A : Act} {W : World} (hC : SpC n tb base w0) (hI : SpM n tb base w0 T 0 out k m A W) (hm : ¬ m + 4 <= n - out.length) {Q : Exit -> Act -> World -> Prop}
  (hQ : ∀ A' W', SpS n tb base w0 T 6 out A' W' -> Q .normal A' W') : wpL Tryz.prog [itemN L38b 5, itemN L38b 6, itemN L38b 7, itemN L38b 8, itemN L38b 9] Q A W := by
 obtain ⟨⟨v, hF, hB⟩, hT, hbut, hle, hsz, hlen⟩ := hI
 obtain ⟨f, rfl⟩ := fr6a hF
 obtain ⟨c0, c1, f0, f1⟩ := tak_cells hT
 obtain ⟨a, cap, rfl, hcap⟩ := hB.len
 obtain ⟨z, hz⟩ : ∃ z, z = out.length := ⟨_, rfl⟩
 obtain ⟨d, hd⟩ : ∃ d, d = n - out.length := ⟨_, rfl⟩
 obtain ⟨q, hq⟩ : ∃ q, q = m + 4 := ⟨_, rfl⟩
 have hn := hC.n
 have hd1 : (n : Int) - (z : Int) = (d : Int) := by omega
 have hdn : d <= 1048576 := by omega
 have hqd : ¬ (q : Int) <= (d : Int) := by omega
 have wd : IntKind.i64.wrap (d : Int) = (d : Int) := wrapI64 _ (by omega)
 have hK := Lib.hid (And.intro hB (And.intro (tak_set1 hT 6) (And.intro (but_set (o := 1) (ButB.refl W.heap.size tb W) (.int .i64 6)) (And.intro hbut (And.intro hle (And.intro hsz hlen))))))
 have hQ' := Lib.hid hQ
 have hCk := Lib.hid hC
 rw [<- hz] at hK ⊢
 rw [<- hq]
 have hz' := Lib.hid hz
 clear hF hB hT hbut hle hsz hlen hQ hd hcap hn hC hz hm hq
 refine wpL_lit (L' := [.region 13 _ _, .region 14 _ _, .cond _ _ _, .region 16 _ _, .cond _ _ _]) (by rfl) ?_
 simp only [wpL]
 go_wp2
 clear wd
 obtain ⟨hB, hT, hbS, hbut, hle, hsz, hlen⟩ := hK.out
 have hC := hCk.out
 have hge := hC.ge
 have hlt := hC.lt
 refine hQ'.out _ _ ⟨⟨_, ⟨rfl, rfl, fun p hp => ?_⟩, bytes_but hB hbS hlt⟩, hT, but_below hbut hbS hge hbut.size, Nat.le_trans hle hbS.size, hsz, hz'.out ▸ hlen⟩
 simp only [List.mem_cons, List.not_mem_nil, or_false] at hp
 rcases hp with rfl | rfl | rfl <;> rfl
set_option maxHeartbeats 4000000 in
set_option maxRecDepth 1000000 in
theorem tail_no {n tb base : Nat} {w0 : World} {T : ByteArray} {out : List UInt8} {k m : Nat} {A : Act} {W : World} (hC : SpC n tb base w0) (hI : SpM n tb base w0 T 0 out k m A W) (hm : m + 4 <= n - out.length) (hk : ¬ (1 <= k /\ k <= out.length)) {Q : Exit -> Act -> World -> Prop}
  (hQ : ∀ A' W', SpS n tb base w0 T 6 out A' W' -> Q .normal A' W') : wpL Tryz.prog [itemN L38b 5, itemN L38b 6, itemN L38b 7, itemN L38b 8, itemN L38b 9] Q A W := by
 obtain ⟨⟨v, hF, hB⟩, hT, hbut, hle, hsz, hlen⟩ := hI
 obtain ⟨f, rfl⟩ := fr6a hF
 obtain ⟨c0, c1, f0, f1⟩ := tak_cells hT
 obtain ⟨a, cap, rfl, hcap⟩ := hB.len
 have hrep := Lib.hid (repeat_no (n := m + 4) hB hk)
 obtain ⟨z, hz⟩ : ∃ z, z = out.length := ⟨_, rfl⟩
 obtain ⟨d, hd⟩ : ∃ d, d = n - out.length := ⟨_, rfl⟩
 obtain ⟨q, hq⟩ : ∃ q, q = m + 4 := ⟨_, rfl⟩
 have hn := hC.n
 have hd1 : (n : Int) - (z : Int) = (d : Int) := by omega
 have hdn : d <= 1048576 := by omega
 have hqd : (q : Int) <= (d : Int) := by omega
 have wd : IntKind.i64.wrap (d : Int) = (d : Int) := wrapI64 _ (by omega)
 have hK := Lib.hid (And.intro hB (And.intro (tak_set1 hT 6) (And.intro (but_set (o := 1) (ButB.refl W.heap.size tb W) (.int .i64 6)) (And.intro hbut (And.intro hle (And.intro hsz hlen))))))
 have hQ' := Lib.hid hQ
 have hCk := Lib.hid hC
 rw [<- hz] at hK hrep ⊢
 rw [<- hq] at hrep ⊢
 have hz' := Lib.hid hz
 clear hF hB hT hbut hle hsz hlen hQ hd hcap hn hC hz hm hq hk
 refine wpL_lit (L' := [.region 13 _ _, .region 14 _ _, .cond _ _ _, .region 16 _ _, .cond _ _ _]) (by rfl) ?_
 simp only [wpL]
 go_wp2_with (go_at_call 78; refine hrep.out.mono ?_; rintro r w1 ⟨rfl, rfl⟩)
 clear wd
 obtain ⟨hB, hT, hbS, hbut, hle, hsz, hlen⟩ := hK.out
 have hC := hCk.out
 have hge := hC.ge
 have hlt := hC.lt
 refine hQ'.out _ _ ⟨⟨_, ⟨rfl, rfl, fun p hp => ?_⟩, bytes_but hB hbS hlt⟩, hT, but_below hbut hbS hge hbut.size, Nat.le_trans hle hbS.size, hsz, hz'.out ▸ hlen⟩
 simp only [List.mem_cons, List.not_mem_nil, or_false] at hp
 rcases hp with rfl | rfl | rfl <;> rfl
set_option maxHeartbeats 4000000 in
set_option maxRecDepth 1000000 in
theorem tail_yes {n tb base : Nat} {w0 : World} {T : ByteArray} {out : List UInt8} {k m : Nat} {A : Act} {W : World} (hC : SpC n tb base w0) (hI : SpM n tb base w0 T 0 out k m A W) (hm : m + 4 <= n - out.length) (hk1 : 1 <= k) (hk2 : k <= out.length) (hk3 : k <= 32768) {Q : Exit -> Act -> World -> Prop}
  (hQ : ∀ A' W', SpS n tb base w0 T 0 (repS k (m + 4) out) A' W' -> Q .normal A' W') : wpL Tryz.prog [itemN L38b 5, itemN L38b 6, itemN L38b 7, itemN L38b 8, itemN L38b 9] Q A W := by
 obtain ⟨⟨v, hF, hB⟩, hT, hbut, hle, hsz, hlen⟩ := hI
 obtain ⟨f, rfl⟩ := fr6a hF
 obtain ⟨c0, c1, f0, f1⟩ := tak_cells hT
 obtain ⟨a, cap, rfl, hcap⟩ := hB.len
 have hn := hC.n
 have hrep := Lib.hid (repeat_yes (n := m + 4) hB hle hk1 hk2 hk3 (by omega))
 obtain ⟨z, hz⟩ : ∃ z, z = out.length := ⟨_, rfl⟩
 obtain ⟨d, hd⟩ : ∃ d, d = n - out.length := ⟨_, rfl⟩
 obtain ⟨q, hq⟩ : ∃ q, q = m + 4 := ⟨_, rfl⟩
 have hd1 : (n : Int) - (z : Int) = (d : Int) := by omega
 have hdn : d <= 1048576 := by omega
 have hqd : (q : Int) <= (d : Int) := by omega
 have hend : Hid ((repS k (m + 4) out).length <= n) := Lib.hid (by rw [repS_len]; omega)
 have wd : IntKind.i64.wrap (d : Int) = (d : Int) := wrapI64 _ (by omega)
 have hK := Lib.hid (And.intro hT (And.intro hbut (And.intro hle (And.intro hsz hlen))))
 have hQ' := Lib.hid hQ
 have hCk := Lib.hid hC
 rw [<- hz] at hrep ⊢
 rw [<- hq] at hrep hQ' hend ⊢
 clear hF hB hT hbut hle hsz hlen hQ hd hcap hn hC hz hm hq hk1 hk2 hk3
 refine wpL_lit (L' := [.region 13 _ _, .region 14 _ _, .cond _ _ _, .region 16 _ _, .cond _ _ _]) (by rfl) ?_
 simp only [wpL]
 go_wp2_with (go_at_call 78; refine hrep.out.mono ?_; rintro r w1 ⟨v', rfl, hB1, hb1⟩; have hS := Lib.hid (And.intro hB1 hb1); clear hB1 hb1)
 clear wd
 obtain ⟨hT, hbut, hle, hsz, hlen⟩ := hK.out
 obtain ⟨hB1, hb1⟩ := hS.out
 have hC := hCk.out
 have hge := hC.ge
 have hlt := hC.lt
 have hT1 : TakAt w1 tb T 0 := (hb1.block tb hlt).trans hT
 refine hQ'.out _ _ ⟨⟨_, ⟨rfl, rfl, fun p hp => ?_⟩, hB1⟩, hT1, hbut.trans (hb1.mono (by omega)), Nat.le_trans hle hb1.size, hsz, hend.out⟩
 simp only [List.mem_cons, List.not_mem_nil, or_false] at hp
 rcases hp with rfl | rfl | rfl <;> rfl
end Go.Proofs
namespace Go.Proofs
open Go.RowKit Go.Ev Go.Lib
attribute [local go_sem] Oper.semAt_some
theorem wpL_app {P : Program} {Q : Exit -> Act -> World -> Prop} (l2 : List Code) : ∀ (l1 : List Code) (a : Act) (w : World), wpL P l1 (Exit.then (wpL P l2 Q) Q) a w -> wpL P (l1 ++ l2) Q a w
 | [], a, w, h => h
 | c :: l1, a, w, h => by
  refine wp_mono (show c.wp P (Exit.then (wpL P l1 (Exit.then (wpL P l2 Q) Q)) (Exit.then (wpL P l2 Q) Q)) a w from h) (then_mono (fun a w h => wpL_app l2 l1 a w h) fun e a w he h => ?_)
  cases e <;> first | exact absurd rfl he | exact h
set_option maxHeartbeats 4000000 in
set_option maxRecDepth 1000000 in
theorem mid_exit {n tb base : Nat} {w0 : World} {T : ByteArray} {e : Int} {out : List UInt8} {A : Act} {W : World} (hI : SpS n tb base w0 T e out A W) (he : ¬ e = 0 \/ (e = 0 /\ out.length = n)) {Q : Exit -> Act -> World -> Prop}
  (hQ : ∀ A' W', SpS n tb base w0 T e out A' W' -> Q (.exit 1) A' W') : wpL Tryz.prog [itemN L38b 1, itemN L38b 2] Q A W := by
 obtain ⟨⟨v, hF, hB⟩, hT, hbut, hle, hsz, hlen⟩ := hI
 obtain ⟨f, rfl⟩ := fr678 hF
 obtain ⟨c0, c1, f0, f1⟩ := tak_cells hT
 obtain ⟨a, cap, rfl, hcap⟩ := hB.len
 have hK := Lib.hid (And.intro hB (And.intro hT (And.intro hbut (And.intro hle (And.intro hsz hlen)))))
 have hQ' := Lib.hid hQ
 have he' := he
 clear hF hB hT hbut hle hsz hlen hQ he
 rcases he' with he | ⟨rfl, hl⟩
 ·
  refine wpL_lit (L' := [.region 10 _ _, .cond _ _ _]) (by rfl) ?_
  simp only [wpL]
  go_wp2
  obtain ⟨hB, hT, hbut, hle, hsz, hlen⟩ := hK.out
  refine hQ'.out _ _ ⟨⟨_, ⟨rfl, rfl, fun p hp => ?_⟩, hB⟩, hT, hbut, hle, hsz, hlen⟩
  simp only [List.mem_cons, List.not_mem_nil, or_false] at hp
  rcases hp with rfl | rfl | rfl <;> rfl
 ·
  have hl' : (out.length : Int) = (n : Int) := by omega
  refine wpL_lit (L' := [.region 10 _ _, .cond _ _ _]) (by rfl) ?_
  simp only [wpL]
  go_wp2
  obtain ⟨hB, hT, hbut, hle, hsz, hlen⟩ := hK.out
  refine hQ'.out _ _ ⟨⟨_, ⟨rfl, rfl, fun p hp => ?_⟩, hB⟩, hT, hbut, hle, hsz, hlen⟩
  simp only [List.mem_cons, List.not_mem_nil, or_false] at hp
  rcases hp with rfl | rfl | rfl <;> first | rfl | (simp [hl]; done)
set_option maxHeartbeats 4000000 in
set_option maxRecDepth 1000000 in
theorem mid_go {n tb base : Nat} {w0 : World} {T : ByteArray} {out : List UInt8} {A : Act} {W : World} (hI : SpS n tb base w0 T 0 out A W) (hl : ¬ out.length = n) {Q : Exit -> Act -> World -> Prop}
  (hQ : ∀ A' W', SpS n tb base w0 T 0 out A' W' -> Q .normal A' W') : wpL Tryz.prog [itemN L38b 1, itemN L38b 2] Q A W := by
 obtain ⟨⟨v, hF, hB⟩, hT, hbut, hle, hsz, hlen⟩ := hI
 obtain ⟨f, rfl⟩ := fr678 hF
 obtain ⟨c0, c1, f0, f1⟩ := tak_cells hT
 obtain ⟨a, cap, rfl, hcap⟩ := hB.len
 have hK := Lib.hid (And.intro hB (And.intro hT (And.intro hbut (And.intro hle (And.intro hsz hlen)))))
 have hQ' := Lib.hid hQ
 clear hF hB hT hbut hle hsz hlen hQ
 have hl' : ¬ (out.length : Int) = (n : Int) := by omega
 refine wpL_lit (L' := [.region 10 _ _, .cond _ _ _]) (by rfl) ?_
 simp only [wpL]
 go_wp2
 obtain ⟨hB, hT, hbut, hle, hsz, hlen⟩ := hK.out
 refine hQ'.out _ _ ⟨⟨_, ⟨rfl, rfl, fun p hp => ?_⟩, hB⟩, hT, hbut, hle, hsz, hlen⟩
 simp only [List.mem_cons, List.not_mem_nil, or_false] at hp
 rcases hp with rfl | rfl | rfl <;> rfl
set_option maxHeartbeats 4000000 in
set_option maxRecDepth 1000000 in
theorem head_exit {n tb base : Nat} {w0 : World} {T : ByteArray} {e : Int} {out : List UInt8} {A : Act} {W : World} (hI : SpS n tb base w0 T e out A W) (he : ¬ e = 0 \/ (e = 0 /\ ¬ out.length < n)) {Q : Exit -> Act -> World -> Prop}
  (hQ : ∀ A' W', SpS n tb base w0 T e out A' W' -> Q (.exit 1) A' W') : wpL Tryz.prog [itemN L38a 0, itemN L38a 1, itemN L38a 2] Q A W := by
 obtain ⟨⟨v, hF, hB⟩, hT, hbut, hle, hsz, hlen⟩ := hI
 obtain ⟨f, rfl⟩ := fr678 hF
 obtain ⟨c0, c1, f0, f1⟩ := tak_cells hT
 obtain ⟨a, cap, rfl, hcap⟩ := hB.len
 have hK := Lib.hid (And.intro hB (And.intro hT (And.intro hbut (And.intro hle (And.intro hsz hlen)))))
 have hQ' := Lib.hid hQ
 have he' := he
 clear hF hB hT hbut hle hsz hlen hQ he
 rcases he' with he | ⟨rfl, hl⟩
 ·
  refine wpL_lit (L' := [.region 8 _ _, .cond _ _ _, itemN L38a 2]) (by rfl) ?_
  simp only [wpL]
  go_wp2
  obtain ⟨hB, hT, hbut, hle, hsz, hlen⟩ := hK.out
  refine hQ'.out _ _ ⟨⟨_, ⟨rfl, rfl, fun p hp => ?_⟩, hB⟩, hT, hbut, hle, hsz, hlen⟩
  simp only [List.mem_cons, List.not_mem_nil, or_false] at hp
  rcases hp with rfl | rfl | rfl <;> rfl
 ·
  have hl' : ¬ (out.length : Int) < (n : Int) := by omega
  refine wpL_lit (L' := [.region 8 _ _, .cond _ _ _, itemN L38a 2]) (by rfl) ?_
  simp only [wpL]
  go_wp2
  obtain ⟨hB, hT, hbut, hle, hsz, hlen⟩ := hK.out
  refine hQ'.out _ _ ⟨⟨_, ⟨rfl, rfl, fun p hp => ?_⟩, hB⟩, hT, hbut, hle, hsz, hlen⟩
  simp only [List.mem_cons, List.not_mem_nil, or_false] at hp
  rcases hp with rfl | rfl | rfl <;> rfl
set_option maxHeartbeats 4000000 in
set_option maxRecDepth 1000000 in
theorem head_go {n tb base : Nat} {w0 : World} {T : ByteArray} {out : List UInt8} {A : Act} {W : World} (hI : SpS n tb base w0 T 0 out A W) (hl : out.length < n) {Q : Exit -> Act -> World -> Prop}
  (hQ : ∀ A' W', SpS n tb base w0 T 0 out A' W' -> (itemN L38a 2).wp Tryz.prog Q A' W') : wpL Tryz.prog [itemN L38a 0, itemN L38a 1, itemN L38a 2] Q A W := by
 obtain ⟨⟨v, hF, hB⟩, hT, hbut, hle, hsz, hlen⟩ := hI
 obtain ⟨f, rfl⟩ := fr678 hF
 obtain ⟨c0, c1, f0, f1⟩ := tak_cells hT
 obtain ⟨a, cap, rfl, hcap⟩ := hB.len
 have hK := Lib.hid (And.intro hB (And.intro hT (And.intro hbut (And.intro hle (And.intro hsz hlen)))))
 have hQ' := Lib.hid hQ
 have hl' : (out.length : Int) < (n : Int) := by omega
 clear hF hB hT hbut hle hsz hlen hQ
 refine wpL_lit (L' := [.region 8 _ _, .cond _ _ _, itemN L38a 2]) (by rfl) ?_
 simp only [wpL]
 go_wp2
 obtain ⟨hB, hT, hbut, hle, hsz, hlen⟩ := hK.out
 refine wp_mono (hQ'.out _ _ ?_) fun e a w h => ?_
 ·
  refine ⟨⟨_, ⟨rfl, rfl, fun p hp => ?_⟩, hB⟩, hT, hbut, hle, hsz, hlen⟩
  simp only [List.mem_cons, List.not_mem_nil, or_false] at hp
  rcases hp with rfl | rfl | rfl <;> rfl
 ·
  cases e <;> exact h
end Go.Proofs
