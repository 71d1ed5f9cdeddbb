/- maps.Keys, slices.Sorted, slices.Sort, maps.Clone at the file system's names. -/
import Derived.Test.YthnojgpobfpgeaaGreatDoorTFsW
import Derived.Shelf.SlIter.Nil
import Derived.Shelf.SortM.Plain
import Derived.Shelf.SortM.SortNone
import Derived.Shelf.SlMaps.Clone
import Derived.Sort.OwnSorted
import Derived.Sort.KeysCollected
import Derived.Test.YthnojgpobfpgeaaGreatDoorTUpR
set_option linter.unusedVariables false
set_option linter.unusedSimpArgs false
namespace Go.Proofs
open Go.RowKit Go.Maps Go.Sort Go.Shelf
def Tryz.keys88_ren : Go.Shelf.Ren := ⟨fun | 7 => 88 | 10 => 118 | n => n, fun | 23 => 54 | 26 => 9 | 3 => 3 | 28 => 129 | 0 => 0 | 27 => 128 | 33 => 60 | 4 => 4 | n => n, fun | n => n⟩
theorem Tryz.keys88 : Go.Proofs.SlLaysZ.n7 Tryz.prog Tryz.keys88_ren := {mixed := by kernel_rfl, f7 := ⟨Tryz.f88.name, by decide, Tryz.func88.trans (congrArg some (by kernel_rfl))⟩, f10 := ⟨Tryz.f118.name, by decide, Tryz.func118.trans (congrArg some (by kernel_rfl))⟩, t0 := Tryz.underlying0, a0 := Tryz.isAgg0, z0 := Tryz.sizeOf0, v0 := Tryz.zeroValue0, t4 := Tryz.underlying4, a4 := Tryz.isAgg4, z4 := Tryz.sizeOf4, v4 := Tryz.zeroValue4, t23 := Tryz.underlying54, a23 := Tryz.isAgg54, z23 := Tryz.sizeOf54, v23 := Tryz.zeroValue54, t26 := Tryz.underlying9, a26 := Tryz.isAgg9, z26 := Tryz.sizeOf9, v26 := Tryz.zeroValue9, t27 := Tryz.underlying128, a27 := Tryz.isAgg128, z27 := Tryz.sizeOf128, v27 := Tryz.zeroValue128, t28 := Tryz.underlying129, a28 := Tryz.isAgg129, z28 := Tryz.sizeOf129, v28 := Tryz.zeroValue129, t33 := Tryz.underlying60, a33 := Tryz.isAgg60, z33 := Tryz.sizeOf60, v33 := Tryz.zeroValue60}
def Tryz.sorted87_ren : Go.Shelf.Ren := ⟨fun | 6 => 87 | 8 => 117 | 9 => 90 | 11 => 140 | 13 => 121 | 12 => 120 | 23 => 150 | 24 => 151 | 14 => 141 | 15 => 142 | 16 => 143 | 17 => 144 | 18 => 145 | 19 => 146 | 20 => 147 | 21 => 148 | 22 => 149 | 25 => 164 | 26 => 165 | 27 => 166 | 28 => 167 | 29 => 168 | 30 => 169 | 31 => 177 | n => n, fun | 26 => 9 | 28 => 129 | 24 => 39 | 0 => 0 | 3 => 3 | 37 => 120 | 48 => 121 | 50 => 38 | 4 => 4 | 40 => 176 | 39 => 175 | 45 => 52 | 5 => 5 | 9 => 9 | 51 => 192 | 55 => 196 | 57 => 202 | 58 => 101 | 33 => 60 | n => n, fun | n => n⟩
theorem Tryz.sorted87 : Go.Proofs.SlLaysZ.n6 Tryz.prog Tryz.sorted87_ren := {mixed := by kernel_rfl, f6 := ⟨Tryz.f87.name, by decide, Tryz.func87.trans (congrArg some (by kernel_rfl))⟩, f8 := ⟨Tryz.f117.name, by decide, Tryz.func117.trans (congrArg some (by kernel_rfl))⟩, f11 := ⟨Tryz.f140.name, by decide, Tryz.func140.trans (congrArg some (by kernel_rfl))⟩, t0 := Tryz.underlying0, a0 := Tryz.isAgg0, z0 := Tryz.sizeOf0, v0 := Tryz.zeroValue0, t24 := Tryz.underlying39, a24 := Tryz.isAgg39, z24 := Tryz.sizeOf39, v24 := Tryz.zeroValue39, t26 := Tryz.underlying9, a26 := Tryz.isAgg9, z26 := Tryz.sizeOf9, v26 := Tryz.zeroValue9, t28 := Tryz.underlying129, a28 := Tryz.isAgg129, z28 := Tryz.sizeOf129, v28 := Tryz.zeroValue129, i26 := by kernel_rfl}
def Tryz.sort90_ren : Go.Shelf.Ren := ⟨fun | 6 => 90 | 8 => 121 | 9 => 120 | 19 => 150 | 20 => 151 | 21 => 141 | 22 => 142 | 23 => 143 | 24 => 144 | 25 => 145 | 26 => 146 | 27 => 147 | 28 => 148 | 29 => 149 | 36 => 164 | 31 => 165 | 32 => 166 | 37 => 167 | 38 => 168 | 39 => 169 | 41 => 177 | n => n, fun | 27 => 39 | 29 => 9 | 3 => 3 | 32 => 120 | 26 => 39 | 0 => 0 | 44 => 121 | 46 => 38 | 4 => 4 | 36 => 176 | 35 => 175 | 41 => 52 | 5 => 5 | 9 => 9 | 53 => 192 | 57 => 196 | 63 => 202 | 64 => 101 | n => n, fun | n => n⟩
theorem Tryz.sort90 : Go.Proofs.SlLaysM.n6 Tryz.prog Tryz.sort90_ren := {mixed := by kernel_rfl, f6 := ⟨Tryz.f90.name, by decide, Tryz.func90.trans (congrArg some (by kernel_rfl))⟩, f8 := Tryz.func121.trans (congrArg some (by kernel_rfl)), f9 := ⟨Tryz.f120.name, by decide, Tryz.func120.trans (congrArg some (by kernel_rfl))⟩, f19 := Tryz.func150.trans (congrArg some (by kernel_rfl)), f20 := Tryz.func151.trans (congrArg some (by kernel_rfl)), f21 := ⟨Tryz.f141.name, by decide, Tryz.func141.trans (congrArg some (by kernel_rfl))⟩, f22 := ⟨Tryz.f142.name, by decide, Tryz.func142.trans (congrArg some (by kernel_rfl))⟩, f23 := ⟨Tryz.f143.name, by decide, Tryz.func143.trans (congrArg some (by kernel_rfl))⟩, f24 := ⟨Tryz.f144.name, by decide, Tryz.func144.trans (congrArg some (by kernel_rfl))⟩, f25 := ⟨Tryz.f145.name, by decide, Tryz.func145.trans (congrArg some (by kernel_rfl))⟩, f26 := ⟨Tryz.f146.name, by decide, Tryz.func146.trans (congrArg some (by kernel_rfl))⟩, f27 := ⟨Tryz.f147.name, by decide, Tryz.func147.trans (congrArg some (by kernel_rfl))⟩, f28 := ⟨Tryz.f148.name, by decide, Tryz.func148.trans (congrArg some (by kernel_rfl))⟩, f29 := ⟨Tryz.f149.name, by decide, Tryz.func149.trans (congrArg some (by kernel_rfl))⟩, f31 := Tryz.func165.trans (congrArg some (by kernel_rfl)), f32 := Tryz.func166.trans (congrArg some (by kernel_rfl)), f36 := ⟨Tryz.f164.name, by decide, Tryz.func164.trans (congrArg some (by kernel_rfl))⟩, f37 := ⟨Tryz.f167.name, by decide, Tryz.func167.trans (congrArg some (by kernel_rfl))⟩, f38 := ⟨Tryz.f168.name, by decide, Tryz.func168.trans (congrArg some (by kernel_rfl))⟩, f39 := ⟨Tryz.f169.name, by decide, Tryz.func169.trans (congrArg some (by kernel_rfl))⟩, f41 := ⟨Tryz.f177.name, by decide, Tryz.func177.trans (congrArg some (by kernel_rfl))⟩, t0 := Tryz.underlying0, a0 := Tryz.isAgg0, z0 := Tryz.sizeOf0, v0 := Tryz.zeroValue0, t3 := Tryz.underlying3, a3 := Tryz.isAgg3, z3 := Tryz.sizeOf3, v3 := Tryz.zeroValue3, t4 := Tryz.underlying4, a4 := Tryz.isAgg4, z4 := Tryz.sizeOf4, v4 := Tryz.zeroValue4, t5 := Tryz.underlying5, a5 := Tryz.isAgg5, z5 := Tryz.sizeOf5, v5 := Tryz.zeroValue5, t9 := Tryz.underlying9, a9 := Tryz.isAgg9, z9 := Tryz.sizeOf9, v9 := Tryz.zeroValue9, t26 := Tryz.underlying39, a26 := Tryz.isAgg39, z26 := Tryz.sizeOf39, v26 := Tryz.zeroValue39, t27 := Tryz.underlying39, a27 := Tryz.isAgg39, z27 := Tryz.sizeOf39, v27 := Tryz.zeroValue39, t29 := Tryz.underlying9, a29 := Tryz.isAgg9, z29 := Tryz.sizeOf9, v29 := Tryz.zeroValue9, t32 := Tryz.underlying120, a32 := Tryz.isAgg120, z32 := Tryz.sizeOf120, v32 := Tryz.zeroValue120, t35 := Tryz.underlying175, a35 := Tryz.isAgg175, z35 := Tryz.sizeOf175, v35 := Tryz.zeroValue175, t36 := Tryz.underlying176, a36 := Tryz.isAgg176, z36 := Tryz.sizeOf176, v36 := Tryz.zeroValue176, t41 := Tryz.underlying52, a41 := Tryz.isAgg52, z41 := Tryz.sizeOf52, v41 := Tryz.zeroValue52, t44 := Tryz.underlying121, a44 := Tryz.isAgg121, z44 := Tryz.sizeOf121, v44 := Tryz.zeroValue121, t46 := Tryz.underlying38, a46 := Tryz.isAgg38, z46 := Tryz.sizeOf38, v46 := Tryz.zeroValue38, t53 := Tryz.underlying192, a53 := Tryz.isAgg192, z53 := Tryz.sizeOf192, v53 := Tryz.zeroValue192, t57 := Tryz.underlying196, a57 := Tryz.isAgg196, z57 := Tryz.sizeOf196, v57 := Tryz.zeroValue196, t63 := Tryz.underlying202, a63 := Tryz.isAgg202, z63 := Tryz.sizeOf202, v63 := Tryz.zeroValue202, t64 := Tryz.underlying101, a64 := Tryz.isAgg101, z64 := Tryz.sizeOf101, v64 := Tryz.zeroValue101}
def Tryz.clone50_ren : Go.Shelf.Ren := ⟨fun | 5 => 50 | 7 => 86 | n => n, fun | 23 => 54 | 25 => 9 | 3 => 3 | 4 => 4 | 20 => 20 | n => n, fun | n => n⟩
theorem Tryz.clone50 : Go.Proofs.SlLaysW.n5 Tryz.prog Tryz.clone50_ren := {mixed := by kernel_rfl, f5 := ⟨Tryz.f50.name, by decide, Tryz.func50.trans (congrArg some (by kernel_rfl))⟩, f7 := Tryz.func86.trans (congrArg some (by kernel_rfl)), t4 := Tryz.underlying4, a4 := Tryz.isAgg4, z4 := Tryz.sizeOf4, v4 := Tryz.zeroValue4, t20 := Tryz.underlying20, a20 := Tryz.isAgg20, z20 := Tryz.sizeOf20, v20 := Tryz.zeroValue20, t23 := Tryz.underlying54, a23 := Tryz.isAgg54, z23 := Tryz.sizeOf54, v23 := Tryz.zeroValue54}
theorem Tryz.sorts87 (m : Nat) : AnyZ.SortsIn Tryz.prog Tryz.sorted87_ren Fence.wide m :=
  ⟨fun blk off cap ss W hH hblk hsz => callsIn_wide.2 (AnyM.slices_Sort_string Tryz.sort90 blk off cap ss W hH hblk hsz),
   fun p cap W => callsIn_wide.2 (AnyM.slices_Sort_string_none Tryz.sort90 p cap W)⟩
theorem keys_calls (mb : Option Nat) (W : World) : Calls Tryz.prog 88 #[.map mb] W fun e w' => e = .returned (.func (.func 118) #[] #[.pointer (some ⟨W.heap.size, 0, none⟩)]) /\ w' = W.alloc (.cells #[.map mb] 54) :=
  (callsIn_wide (n := 5)).1 (AnyZ.keys_in Tryz.keys88 Fence.wide 5 trivial rfl mb W)
theorem view_keys {H : Type} {P : Program} {k : TypeId} {R : Value -> Option (DataW H × List MemPlace)} {w : World} {b n : Nat} {D : DataW H} (hown : w.ownsMap P k R b n D) (K : Keyed P k) (hk : P.underlying k = some .string) :
    (strKeys D).Nodup /\ ∀ x : List UInt8, x ∈ strKeys D ↔ Maps.has D (.string x) = true := by
  obtain ⟨es, hD, hpw, _⟩ := hown.entries K
  obtain ⟨es', hD', hko⟩ := hown.keysOf
  obtain rfl : es = es' := by rw [hD] at hD'; simpa using hD'
  subst hD
  have hs : ∀ p ∈ es, ∃ x, p.1 = .string x := fun p hp => by obtain ⟨v, hv⟩ := hko p hp; obtain ⟨x, _, hx, _⟩ := Maps.keyOf_str hk hv; exact ⟨x, hx⟩
  refine ⟨?_, fun x => ?_⟩
  . show (es.map fun p => strOf p.1).Nodup
    refine List.pairwise_map.2 (hpw.imp_of_mem fun {p q} hp' hq' hne e => hne ?_)
    obtain ⟨a, ha⟩ := hs p hp'
    obtain ⟨b, hb⟩ := hs q hq'
    rw [ha, hb] at e ⊢
    exact congrArg _ e
  . rw [has_eq, List.any_eq_true]
    show x ∈ es.map (fun p => strOf p.1) ↔ _
    rw [List.mem_map]
    constructor
    . rintro ⟨p, hp', rfl⟩
      obtain ⟨a, ha⟩ := hs p hp'
      exact ⟨p, hp', by rw [ha]; simp [Lit.sameKey, strOf]⟩
    . rintro ⟨p, hp', hs'⟩
      obtain ⟨a, ha⟩ := hs p hp'
      rw [ha] at hs'
      exact ⟨p, hp', by rw [ha]; simpa [Lit.sameKey, strOf] using hs'⟩
def strs (l : List ByteArray) : List Value := l.map Value.string
set_option maxHeartbeats 1000000 in
theorem sorted_calls {w : World} {bm n Bm : Nat} {M : Nm} (hM : MapF w bm n M) (hc : w.cell? ⟨Bm, 0, none⟩ = some (.map (some bm))) (hn : n <= 1000000) :
    Calls Tryz.prog 87 #[.func (.func 118) #[] #[.pointer (some ⟨Bm, 0, none⟩)]] w fun e w' => ∃ (v : Value) (l : List ByteArray), e = .returned v /\ l.Nodup /\ (∀ q, q ∈ l ↔ (M q).isSome = true) /\ l.length <= n /\ w'.ownsRow w.heap.size 9 1 v l.length (strs l) /\ Below w.heap.size w w' := by
  obtain ⟨D, hown, hv⟩ := hM
  have K : Maps.Keyed Tryz.prog 9 := Maps.string_keyed Tryz.underlying9
  have hsz : Maps.size D <= n := hown.size_le
  have hBm : Bm < w.heap.size := World.block_lt_of_cell? w _ hc
  have hseq : SeqGives Fence.wide 2 Tryz.prog 118 #[.pointer (some ⟨Bm, 0, none⟩)] encStr (fun ss => ss.Perm (strKeys D)) (Maps.size D) w :=
    AnyZ.keys_gives (ρ := Tryz.keys88_ren) { Tryz.keys88 with } Fence.wide _ trivial rfl (by omega) Bm bm n D w hBm hc hown
  have h := (callsIn_wide (n := 5)).1 (AnyZ.sorted_in Tryz.sorted87 Fence.wide 5 trivial trivial trivial trivial rfl (by omega) (Tryz.sorts87 _) (enters_of Tryz.func90 (by kernel_rfl) rfl) 118 #[.pointer (some ⟨Bm, 0, none⟩)] trivial (enters_of Tryz.func118 (by kernel_rfl) rfl) _ (Maps.size D) (by unfold maxLen; omega) (by omega) w hseq)
  refine h.mono ?_
  rintro e w' ⟨v, ss, rfl, hp, hrow, _, hB⟩
  obtain ⟨hnd, hmem⟩ := view_keys hown K Tryz.underlying9
  have hpp := (List.mergeSort_perm ss fun x y => decide (x <= y)).trans hp
  refine ⟨v, (ss.mergeSort fun x y => decide (x <= y)).map fun x => ⟨⟨x⟩⟩, rfl, ?_, fun q => ?_, ?_, ?_, hB⟩
  . have := hpp.nodup_iff.2 hnd
    exact List.pairwise_map.2 (this.imp fun {a b} hne e => hne (by injection e with e; injection e))
  . rw [List.mem_map]
    constructor
    . rintro ⟨x, hx, rfl⟩
      have := (hmem x).1 (hpp.mem_iff.1 hx)
      rwa [show (.string x : Lit) = .string (⟨⟨x⟩⟩ : ByteArray).data.toList from rfl, (hv.2 _).1] at this
    . intro hq
      refine ⟨q.data.toList, hpp.mem_iff.2 ((hmem _).2 ?_), rfl⟩
      rw [(hv.2 q).1]
      exact hq
  . rw [List.length_map, hpp.length_eq]
    refine Nat.le_trans (Nat.le_of_eq ?_) hsz
    obtain ⟨es, hD, _⟩ := hown.entries K
    subst hD
    show (es.map _).length = _
    rw [List.length_map, Maps.size_eq]
  . rw [List.length_map, List.length_mergeSort]
    have e : strs ((ss.mergeSort fun x y => decide (x <= y)).map fun x => (⟨⟨x⟩⟩ : ByteArray)) = (ss.mergeSort fun x y => decide (x <= y)).map encStr := by
      unfold strs
      rw [List.map_map]
      rfl
    rw [e]
    exact hrow
theorem clone_calls {w : World} {bm n : Nat} {M : Nm} (hM : MapF w bm n M) : Calls Tryz.prog 50 #[.map (some bm)] w fun e w' => e = .returned (.map (some w.heap.size)) /\ MapF w' w.heap.size n M /\ Below w.heap.size w w' := by
  obtain ⟨D, hown, hv⟩ := hM
  exact (AnyW.maps_Clone_owns Tryz.clone50 9 _ bm n D w hown).mono fun e w' ⟨h1, h2, _, h4⟩ => ⟨h1, ⟨D, h2, hv⟩, h4⟩
theorem strs_enc (l : List ByteArray) : strs l = (l.map fun q => q.data.toList).map encStr := by
  unfold strs
  rw [List.map_map]
  rfl
set_option maxHeartbeats 1000000 in
theorem sort_calls {w : World} {base : Nat} {v : Value} {l : List ByteArray} (hr : w.ownsRow base 9 1 v l.length (strs l)) (hl : l.length <= 1000000) :
    Calls Tryz.prog 90 #[v] w fun e w' => (∃ x, e = .returned x) /\ ∃ l' : List ByteArray, l'.Perm l /\ w'.ownsRow base 9 1 v l'.length (strs l') /\ w.grownBy w' v.ownBlock := by
  rcases hr.2 with ⟨rfl, h0⟩ | ⟨g, cap, cur, rfl, hb, hg, hnc, hcm, hcs, htake⟩
  . have hl0 : l = [] := List.length_eq_zero_iff.1 h0
    subst hl0
    refine (AnyM.slices_Sort_string_none Tryz.sort90 none 0 w).mono ?_
    rintro e w' ⟨rfl, rfl⟩
    exact ⟨⟨_, rfl⟩, [], .refl _, hr, World.grownBy.refl _ _⟩
  . obtain ⟨ss, hss⟩ : ∃ ss, ss = l.map fun q => q.data.toList := ⟨_, rfl⟩
    have hls : ss.length = l.length := by rw [hss, List.length_map]
    have hse := strs_enc l
    rw [<- hss] at hse
    have hH : Holds encStr w g 0 ss.toArray := fun j hj => by
      have hj' : j < ss.length := by simpa using hj
      refine ⟨?_, Lib.frozen_of_heap hg _⟩
      have := hr.cells (g := g) rfl j (encStr ss[j]) (by rw [hse, List.getElem?_map, List.getElem?_eq_getElem hj']; rfl)
      rw [add_none] at this
      rw [Nat.zero_add, this, getElem!_pos ss.toArray j hj]
      simp
    rw [<- hls]
    refine (AnyM.slices_Sort_string Tryz.sort90 g 0 cap ss w hH (Array.getElem?_eq_some_iff.1 hg).1 (by omega)).mono ?_
    rintro e w' ⟨rfl, n, os, rfl⟩
    have hp := List.mergeSort_perm ss fun x y => decide (x <= y)
    refine ⟨⟨_, rfl⟩, (ss.mergeSort fun x y => decide (x <= y)).map fun x => ⟨⟨x⟩⟩, ?_, ?_, grownBy_sorted _⟩
    . have := hp.map fun x => (⟨⟨x⟩⟩ : ByteArray)
      refine this.trans (.of_eq ?_)
      rw [hss, List.map_map]
      exact List.map_id' _
    . have h2 := ownsRow_sorted (base := base) (n := n) (os := os) (ss := ss) (ts := ss.mergeSort fun x y => decide (x <= y)) (List.length_mergeSort _) hb hg (by rw [hls]; exact hnc) hcm hcs
      rw [List.length_map, List.length_mergeSort, strs_enc, List.map_map]
      simpa [Function.comp_def] using h2
end Go.Proofs
namespace Go.Proofs
open Go.RowKit Go.Ev Go.Lib Go.Shelf
attribute [local go_sem] Oper.semAt_some
attribute [local go_sem ↓] Go.wp_at_zero Go.wp_at_succ
theorem info9p : (Tryz.prog.info? 9).map (fun i => (i.zero, i.size, i.bytes)) = some (some (.string ⟨#[]⟩), 1, 16) := by kernel_rfl
def nameL (T : ByteArray -> List UInt8) (Dr : ByteArray -> Bool) (q : ByteArray) : ByteArray := ofL (T q ++ if Dr q then [47] else [])
def StrRow (W : World) (base : Nat) (v : Value) (l : List ByteArray) : Prop := W.ownsRow base 9 1 v l.length (strs l)
theorem StrRow.form {W : World} {base : Nat} {v : Value} {l : List ByteArray} (h : StrRow W base v l) : ∃ o c, v = .slice o l.length c := by
  rcases h.2 with ⟨rfl, h0⟩ | ⟨g, cap, _, hv, _⟩
  . exact ⟨none, 0, by rw [h0]⟩
  . exact ⟨_, cap, hv⟩
theorem StrRow.at {W : World} {base : Nat} {o : Option Addr} {n c : Nat} {l : List ByteArray} (h : StrRow W base (.slice o n c) l) {k : Nat} (hk : k < l.length) : ∃ g, o = some ⟨g, 0, none⟩ /\ base <= g /\ g < W.heap.size /\ W.cell? ⟨g, k, none⟩ = some (.string l[k]) := by
  rcases h.2 with ⟨hv, h0⟩ | ⟨g, cap, cur, hv, hb, hg, _⟩
  . omega
  . injection hv with h1 h2 h3
    subst h1 h2 h3
    refine ⟨g, rfl, hb, (Array.getElem?_eq_some_iff.1 hg).1, ?_⟩
    have := World.ownsRow.cells h (g := g) rfl k (.string l[k]) (by unfold strs; rw [List.getElem?_map, List.getElem?_eq_getElem hk]; rfl)
    rwa [add_none] at this
theorem StrRow.kept {W W' : World} {base : Nat} {v : Value} {l : List ByteArray} (h : StrRow W base v l) (hk : ∀ g, v.ownBlock = some g -> W'.heap[g]? = W.heap[g]?) : StrRow W' base v l := row_kept h hk
theorem take_filter {α β : Type} (f : α -> β) (p : α -> Bool) (l : List α) {k : Nat} (hk : k < l.length) : ((l.take (k + 1)).filter p).map f = ((l.take k).filter p).map f ++ (if p l[k] then [f l[k]] else []) := by
  rw [List.take_succ_eq_append_getElem hk, List.filter_append, List.map_append]
  congr 1
  cases h : p l[k] <;> simp [List.filter_cons, h]
section
variable {W : World} {fb : Nat} {L : Lay} {s : St}
def LsAt (W W5 : World) (U : ByteArray -> ByteArray) (T : ByteArray -> List UInt8) (Dr : ByteArray -> Bool) (p : ByteArray) (ks : List ByteArray) (ok : Option Addr) (k : Nat) (vo : Value) (wr : World) : Prop :=
  Sb W wr /\ W5.heap.size <= wr.heap.size /\ (∀ a, ok = some a -> wr.heap[a.block]? = W5.heap[a.block]?) /\ StrRow wr W5.heap.size vo (((ks.take k).filter fun q => decide (U q = p)).map (nameL T Dr))
theorem LsAt.skip {W W5 wr w' : World} {U : ByteArray -> ByteArray} {T : ByteArray -> List UInt8} {Dr : ByteArray -> Bool} {p : ByteArray} {ks : List ByteArray} {ok : Option Addr} {k : Nat} {vo : Value} (h : LsAt W W5 U T Dr p ks ok k vo wr) (hs : Sb wr w') (hk : k < ks.length) (hU : ¬ U ks[k] = p) (hok : ∀ a, ok = some a -> a.block < W5.heap.size) : LsAt W W5 U T Dr p ks ok (k + 1) vo w' := by
  obtain ⟨h1, h2, h3, h4⟩ := h
  refine ⟨Sb.trans h1 hs, Nat.le_trans h2 hs.siz, fun a ha => (Sb.blk hs _ (Nat.lt_of_lt_of_le (hok a ha) h2)).trans (h3 a ha), ?_⟩
  have e := take_filter (nameL T Dr) (fun q => decide (U q = p)) ks hk
  rw [decide_eq_false hU] at e
  simp only [Bool.false_eq_true, if_false, List.append_nil] at e
  rw [e]
  exact h4.kept fun g hg => Sb.blk hs g (World.ownsRow.lt h4 g hg).2
theorem LsAt.add {W W5 wr w1 w' : World} {U : ByteArray -> ByteArray} {T : ByteArray -> List UInt8} {Dr : ByteArray -> Bool} {p : ByteArray} {ks : List ByteArray} {ok : Option Addr} {k : Nat} {vo v' : Value} (h : LsAt W W5 U T Dr p ks ok k vo wr) (hs : Sb wr w1) (hk : k < ks.length) (hU : U ks[k] = p) (hok : ∀ a, ok = some a -> a.block < W5.heap.size) (hWB : W.heap.size <= W5.heap.size)
    (hg : w1.grownBy w' vo.ownBlock) (hrow : w'.ownsRow W5.heap.size 9 1 v' ((((ks.take k).filter fun q => decide (U q = p)).map (nameL T Dr)).length + 1) (strs (((ks.take k).filter fun q => decide (U q = p)).map (nameL T Dr)) ++ [.string (nameL T Dr ks[k])])) : LsAt W W5 U T Dr p ks ok (k + 1) v' w' := by
  obtain ⟨h1, h2, h3, h4⟩ := h
  have hl := World.ownsRow.lt h4
  refine ⟨Below.grown (Sb.trans h1 hs) hg (Nat.le_trans hWB (Nat.le_trans h2 hs.siz)) (fun x hx => Nat.le_trans hWB (hl x hx).1), Nat.le_trans h2 (Nat.le_trans hs.siz hg.size), fun a ha => (hg.block _ (Nat.lt_of_lt_of_le (hok a ha) (Nat.le_trans h2 hs.siz)) fun e => ?_).trans ((Sb.blk hs _ (Nat.lt_of_lt_of_le (hok a ha) h2)).trans (h3 a ha)), ?_⟩
  . have := (hl _ e.symm).1
    have := hok a ha
    omega
  . have e := take_filter (nameL T Dr) (fun q => decide (U q = p)) ks hk
    rw [decide_eq_true hU] at e
    simp only [if_true] at e
    unfold StrRow
    rw [e, List.length_append]
    unfold strs at hrow ⊢
    rw [List.map_append]
    exact hrow
set_option maxRecDepth 1000000 in
set_option maxHeartbeats 4000000 in
theorem list_calls (h : FsAt W fb L s) (hoff : s.off = false) {p : ByteArray} (hp : PathOk p) (hpne : ¬ p = ⟨#[]⟩) (hf : FolIs s s.now p) {U : ByteArray -> ByteArray} {T : ByteArray -> List UInt8} {Dr : ByteArray -> Bool}
    (hU : ∀ q j, s.now q = some j -> q.size <= 1000 /\ UpIs q (U q) /\ ∃ d, s.nodes[j]? = some d /\ d.dir = Dr q) (hT : ∀ q j, s.now q = some j -> U q = p -> q = ofL (p.data.toList ++ 47 :: T q)) (hk : s.k <= 1000) :
    Calls Tryz.prog 51 #[pt fb, .string p] W fun e w' => ∃ (v : Value) (qs l : List ByteArray), e = .returned (.tuple #[v, .int .i64 0]) /\ qs.Nodup /\ (∀ q, q ∈ qs ↔ (s.now q).isSome = true /\ U q = p) /\ l.Perm (qs.map (nameL T Dr)) /\ StrRow w' W.heap.size v l /\ Below W.heap.size W w' := by
  obtain ⟨i0, hi0, hz0, hz1, hz2⟩ := info_parts info9p
  have hde := dead_calls h
  rw [hoff] at hde
  have hX := Lib.hid (And.intro hde (And.intro h (And.intro hf (And.intro hp hk))))
  have hUH := Lib.hid hU
  have hTH := Lib.hid hT
  obtain ⟨hne1, hne2⟩ := ne_str hpne
  clear hde h hoff hp hf hU hT hk hpne
  go_enter Tryz.func51, Tryz.ntmps51
  go_wp2_with (first
    | (go_at_call 46; refine hX.out.1.mono ?_; rintro r1 w1 ⟨rfl, hw⟩; rw [hw]; clear hw)
    | (go_at_call 69; refine (hX.out.2.2.2.1 _).mono ?_; rintro r1 w1 ⟨rfl, hb⟩; have hS1 := Lib.hid hb; have c0 := (hX.out.2.1.below hb).c0; clear hb)
    | (go_at_call 31; refine (fol_ok (hX.out.2.1.below hS1.out) hX.out.2.2.1).mono ?_; rintro r1 w3 ⟨rfl, hw⟩; rw [hw]; clear hw)
    | (go_at_call 88; refine (keys_calls _ _).mono ?_; rintro r1 w3 ⟨rfl, hw⟩; have hS3 : Hid (Sb W w3) := Lib.hid (by rw [hw]; exact Sb.alloc hS1.out _); have hc3 : Hid (w3.cell? ⟨w1.heap.size, 0, none⟩ = some (.map (some L.bn))) := Lib.hid (by rw [hw, Lib.cell_of_heap (heap_alloc_new w1 _)]; rfl); clear hw)
    | (go_at_call 87; refine (sorted_calls (hX.out.2.1.below hS3.out).mn hc3.out (by have := hX.out.2.2.2.2; omega)).mono ?_; rintro r1 w5 ⟨vk, ks, rfl, hnd, hks, hkl, hrow, hb⟩; have hS5 := Lib.hid (Sb.trans hS3.out hb); have hrow0 : StrRow w5 w3.heap.size vk ks := hrow; obtain ⟨ok, ck, rfl⟩ := StrRow.form hrow0; have hrowH := Lib.hid hrow0; have hksH := Lib.hid (And.intro hnd (And.intro hks hkl)); clear hb hrow hrow0 hnd hks hkl))
  go_loopw [30, 6, 8, 9] (fun vi vo _ _ wr => ∃ k : Nat, k <= ks.length /\ vi = .int .i64 (k : Int) /\ LsAt W w5 U T Dr p ks ok k vo wr) (fun vi _ _ _ _ => ks.length - (RowKit.intOf vi).toNat)
  case atStart => exact ⟨0, Nat.zero_le _, rfl, hS5.out, Nat.le_refl _, fun _ _ => rfl, World.ownsRow_nil _ _ _ _⟩
  case round =>
    obtain ⟨k, hk, rfl, hSr, hBr, hkb, hrow⟩ := hrel
    have hk1000 : k <= 1000 := Nat.le_trans hk (Nat.le_trans hksH.out.2.2 hX.out.2.2.2.2)
    by_cases hlt : k < ks.length
    . have hlt' : (k : Int) < (ks.length : Int) := by omega
      obtain ⟨q, hqe⟩ : ∃ q, q = ks[k] := ⟨_, rfl⟩
      have hqm : q ∈ ks := by rw [hqe]; exact List.getElem_mem hlt
      have hqs := (hksH.out.2.1 q).1 hqm
      obtain ⟨j, hj⟩ := Option.isSome_iff_exists.1 hqs
      obtain ⟨hqz, hup, d, hd, hdd⟩ := hUH.out q j hj
      obtain ⟨gk, rfl, hgb, hgl, hcell⟩ := StrRow.at hrowH.out hlt
      have hck := (World.cell?_of_block (a := ⟨gk, k, none⟩) (hkb ⟨gk, 0, none⟩ rfl)).trans hcell
      rw [<- hqe] at hck
      have htf := Lib.hid (take_filter (nameL T Dr) (fun q => decide (U q = p)) ks hlt)
      rw [<- hqe] at htf
      have hupH := Lib.hid hup
      have hH := Lib.hid (And.intro hSr (And.intro hBr (And.intro hkb hrow)))
      have hqk := Lib.hid hqe
      have hok : Hid (∀ a, some (⟨gk, 0, none⟩ : Addr) = some a -> a.block < w5.heap.size) := Lib.hid (fun a ha => by injection ha with ha; rw [<- ha]; exact hgl)
      have hWB : Hid (W.heap.size <= w5.heap.size) := Lib.hid hS5.out.siz
      clear hqm hqs hup hcell hSr hBr hkb hrow hqe
      by_cases hp1 : U q = p
      . have htq0 := hTH.out q j hj hp1
        obtain ⟨t, ht⟩ : ∃ t, t = T q := ⟨_, rfl⟩
        have htq : q = ofL (p.data.toList ++ 47 :: t) := by rw [ht]; exact htq0
        clear htq0
        have hex : q.extract p.size q.size = ofL (47 :: t) := by
          rw [htq, ext_take]
          have e1 : (ofL (p.data.toList ++ 47 :: t)).size = p.data.toList.length + t.length + 1 := by
            show (p.data.toList ++ 47 :: t).length = _
            rw [List.length_append, List.length_cons]; omega
          have e2 : p.size = p.data.toList.length := by simp
          rw [e1, e2, List.drop_left, List.take_of_length_le]
          rw [List.length_cons]; omega
        have hps : p.size <= q.size := by
          rw [htq]
          show p.size <= (p.data.toList ++ 47 :: t).length
          rw [List.length_append]
          have e2 : p.size = p.data.toList.length := by simp
          omega
        have htl : t.length <= 1000 := by
          have e1 : q.size = p.data.toList.length + t.length + 1 := by
            rw [htq]
            show (p.data.toList ++ 47 :: t).length = _
            rw [List.length_append, List.length_cons]; omega
          omega
        have hps' : (p.size : Int) <= (q.size : Int) := by omega
        have hpk : Hid (U ks[k] = p) := Lib.hid (by rw [<- hqk.out]; exact hp1)
        have hup2 : Hid (UpIs q p) := Lib.hid (hp1 ▸ hupH.out)
        have htr := Lib.hid (fun W => trimPre_calls W t htl)
        have hjd := Lib.hid (And.intro hj (And.intro hd (And.intro hqz hdd)))
        have hjj : (((s.now q).getD 0 : Nat) : Int) = (j : Int) := by rw [hj]; rfl
        have hts : (ofL t).size = t.length := rfl
        have hsum : (ofL t).size + 1 <= 9223372036854775807 := by omega
        have hsum2 : (9223372036854775807 < (ofL t).size + 1) = False := eq_false (by omega)
        have htH := Lib.hid ht
        clear ht htq hj hd hqz hdd hupH htl hts
        go_wp2_with (first
          | (go_at_call 32; refine (hup2.out _).mono ?_; rintro r1 w6 ⟨rfl, hb⟩; have hS6 := Lib.hid (show Sb wr w6 from hb); clear hb)
          | (go_at_call 89; refine (htr.out _).mono ?_; rintro r1 w7 ⟨rfl, hb⟩; have hS7 := Lib.hid (Sb.trans hS6.out hb); clear hb))
        obtain ⟨g, m, cap, hv, hltj, d0, _, _, _⟩ := (hX.out.2.1.below (Sb.trans hH.out.1 hS7.out)).node hjd.out.2.1
        have hvH := Lib.hid hv
        have hk13 : Hid (∀ w', Sb w7 w' -> w'.cell? ⟨fb, 3, none⟩ = some (.slice (some ⟨g, 0, none⟩) m cap) /\ w'.cell? ⟨fb, 0, none⟩ = some (.map (some L.bn)) /\ w'.cell? ⟨g, j * 3, none⟩ = some (.bool (Dr q)) /\ (Instr.lookup 54 (.map (some L.bn)) (.string q) false).run Tryz.prog w' = .ok (.int .i64 (j : Int)) w') := Lib.hid fun w' hb => by
          have h5 := hX.out.2.1.below (Sb.trans (Sb.trans hH.out.1 hS7.out) hb)
          obtain ⟨g', m', cap', hv', _, d0', _, _, _⟩ := h5.node hjd.out.2.1
          rw [hvH.out] at hv'
          injection hv' with e1 e2 e3
          injection e1 with e1
          injection e1 with e1
          subst e1
          have c3 := h5.c3
          rw [hvH.out] at c3
          have hl := h5.mn.look1 hjd.out.2.2.1
          rw [hjj] at hl
          exact ⟨c3, h5.c0, by rw [d0', hjd.out.2.2.2], hl⟩
        clear hv d0
        go_region_held3 (fun w' => w'.cell? ⟨fb, 3, none⟩ = some (.slice (some ⟨g, 0, none⟩) m cap) /\ w'.cell? ⟨fb, 0, none⟩ = some (.map (some L.bn)) /\ w'.cell? ⟨g, j * 3, none⟩ = some (.bool (Dr q)) /\ (Instr.lookup 54 (.map (some L.bn)) (.string q) false).run Tryz.prog w' = .ok (.int .i64 (j : Int)) w')
          (exact hk13.out _ (Sb.drew (Sb.refl _)))
          (fail)
        rename_i hHeld
        have hol : (((ks.take k).filter fun q => decide (U q = p)).map (nameL T Dr)).length <= 1000 := by
          rw [List.length_map]
          exact Nat.le_trans (List.length_filter_le _ _) (by rw [List.length_take]; omega)
        clear hHeld hk13
        cases hdr : Dr q with
        | true =>
          have hnm : Hid (nameL T Dr ks[k] = (ofL t ++ ⟨#[47]⟩)) := Lib.hid (by unfold nameL; rw [<- hqk.out, hdr, <- htH.out]; exact (app_ofL t [47]).symm)
          go_wp2_with (at_builtin; go_loud (refine wpList_append_lies _ rfl _ _ _ rfl w5.heap.size 9 i0 _ 1 16 Tryz.underlying39 hi0 hz0 hz1 hz2 rfl (by omega) u6 (((ks.take k).filter fun q => decide (U q = p)).map (nameL T Dr)).length (strs (((ks.take k).filter fun q => decide (U q = p)).map (nameL T Dr))) rfl (hH.out.2.2.2.kept fun g hg => Sb.blk (Sb.alloc (Sb.drew hS7.out) _) g (World.ownsRow.lt hH.out.2.2.2 g hg).2) ⟨w7.heap.size, 0, none⟩ 1 1 [.string (ofL t ++ ⟨#[47]⟩)] rfl rfl (World.news_of_block (cs := #[.string (ofL t ++ ⟨#[47]⟩)]) (t := 9) (fr := (0, 0)) (heap_alloc_new w7.drew _)) (by intro u hu; simp at hu; subst hu; rfl) (by omega) (by unfold maxLen; omega) (by omega) (Nat.le_trans hH.out.2.1 (Nat.le_trans hS7.out.siz (by simp))) (w7.heap.size + 1) (by simp) ?_; intro gg cap6 w8 hown8 hgrow hat hlt8; have hfin : Hid (LsAt W w5 U T Dr p ks (some ⟨gk, 0, none⟩) (k + 1) _ w8) := Lib.hid (LsAt.add hH.out (Sb.alloc (Sb.drew hS7.out) _) hlt hpk.out hok.out hWB.out hgrow (by rw [hnm.out]; exact hown8)); clear hown8 hgrow hat hlt8))
          go_roundw
          case rel => exact ⟨k + 1, hlt, by go_num, by have := hfin.out; rw [List.length_map] at this; exact this⟩
          case measure => simp [RowKit.intOf]; omega
        | false =>
          have hnm : Hid (nameL T Dr ks[k] = (ofL t)) := Lib.hid (by unfold nameL; rw [<- hqk.out, hdr, <- htH.out]; exact congrArg ofL (List.append_nil t))
          go_wp2_with (at_builtin; go_loud (refine wpList_append_lies _ rfl _ _ _ rfl w5.heap.size 9 i0 _ 1 16 Tryz.underlying39 hi0 hz0 hz1 hz2 rfl (by omega) u6 (((ks.take k).filter fun q => decide (U q = p)).map (nameL T Dr)).length (strs (((ks.take k).filter fun q => decide (U q = p)).map (nameL T Dr))) rfl (hH.out.2.2.2.kept fun g hg => Sb.blk (Sb.alloc (Sb.drew hS7.out) _) g (World.ownsRow.lt hH.out.2.2.2 g hg).2) ⟨w7.heap.size, 0, none⟩ 1 1 [.string (ofL t)] rfl rfl (World.news_of_block (cs := #[.string (ofL t)]) (t := 9) (fr := (0, 0)) (heap_alloc_new w7.drew _)) (by intro u hu; simp at hu; subst hu; rfl) (by omega) (by unfold maxLen; omega) (by omega) (Nat.le_trans hH.out.2.1 (Nat.le_trans hS7.out.siz (by simp))) (w7.heap.size + 1) (by simp) ?_; intro gg cap6 w8 hown8 hgrow hat hlt8; have hfin : Hid (LsAt W w5 U T Dr p ks (some ⟨gk, 0, none⟩) (k + 1) _ w8) := Lib.hid (LsAt.add hH.out (Sb.alloc (Sb.drew hS7.out) _) hlt hpk.out hok.out hWB.out hgrow (by rw [hnm.out]; exact hown8)); clear hown8 hgrow hat hlt8))
          go_roundw
          case rel => exact ⟨k + 1, hlt, by go_num, by have := hfin.out; rw [List.length_map] at this; exact this⟩
          case measure => simp [RowKit.intOf]; omega
      . have hs1 := str_ne hp1
        have hp1k : ¬ U ks[k] = p := by rw [<- hqk.out]; exact hp1
        clear hp1 hj hd hqz hdd
        go_wp2_with (go_at_call 32; refine (hupH.out _).mono ?_; rintro r1 w6 ⟨rfl, hb⟩; have hS6 := Lib.hid (show Sb wr w6 from hb); clear hb)
        go_roundw
        case rel => exact ⟨k + 1, hlt, by go_num, LsAt.skip hH.out hS6.out hlt hp1k hok.out⟩
        case measure => simp [RowKit.intOf]; omega
    . have hlt' : ¬ (k : Int) < (ks.length : Int) := by omega
      obtain rfl : k = ks.length := by omega
      rw [List.take_length] at hrow
      obtain ⟨ol, hol⟩ : ∃ ol, ol = (ks.filter fun q => decide (U q = p)).map (nameL T Dr) := ⟨_, rfl⟩
      rw [<- hol] at hrow
      have hrow2 := hrow
      obtain ⟨ov, cv, rfl⟩ := StrRow.form hrow2
      clear hrow2
      have hfl : ol.length <= 1000 := by
        rw [hol, List.length_map]
        exact Nat.le_trans (List.length_filter_le _ _) hk1000
      have hso := Lib.hid (sort_calls hrow (by omega))
      have hH := Lib.hid (And.intro hSr (And.intro hBr hrow))
      have holH := Lib.hid hol
      clear hSr hBr hkb hrow hol
      go_wp2_with (go_at_call 90; refine hso.out.mono ?_; rintro r1 w9 ⟨⟨x9, rfl⟩, l9, hp9, hr9, hg9⟩; have h9 := Lib.hid (And.intro hp9 (And.intro hr9 hg9)); clear hp9 hr9 hg9)
      go_ret2
      have hW5 := hS5.out.siz
      refine ⟨_, ks.filter fun q => decide (U q = p), l9, rfl, hksH.out.1.filter _, fun q => ?_, holH.out ▸ h9.out.1, World.ownsRow.mono h9.out.2.1 hW5, Below.grown hH.out.1 h9.out.2.2 (Nat.le_trans hW5 hH.out.2.1) (fun x hx => Nat.le_trans hW5 (World.ownsRow.lt hH.out.2.2 x hx).1)⟩
      rw [List.mem_filter, hksH.out.2.1 q]
      simp
end
end Go.Proofs
