/- The contracts of this seat's functions. -/
import Derived.Test.YtildicgoadiodaaGreatDoorEvSorted
import Derived.Test.YtildicgoadiodaaGreatDoorEvSortedI
import Derived.Shelf.SlIterI.Nil
import Derived.Test.YtildicgoadiodaaGreatDoorEvSpecs
import Derived.Test.YtildicgoadiodaaGreatDoorTBlocks
import Derived.Shelf.SlIter.Nil
import Derived.Shelf.SortM.Plain
import Derived.Shelf.SortM.SortNone
import Derived.Shelf.Strings.Prefix
import Derived.KernelRfl
import Derived.Test.YtildicgoadiodaaGreatDoorProg
/-! The contracts of this seat's functions. -/
namespace Go.Proofs
open Go.RowKit Go.Maps Go.Sort Go.Shelf

def Tryz.prefix138_ren : Go.Shelf.Ren := ⟨fun | 99 => 138 | 206 => 153 | n => n, fun | 9 => 9 | 4 => 4 | 3 => 3 | n => n, fun | n => n⟩
theorem Tryz.prefix138 : Go.Proofs.Lays.n99 Tryz.prog Tryz.prefix138_ren := {mixed := by kernel_rfl, f99 := Tryz.func138.trans (congrArg some (by kernel_rfl)), f206 := Tryz.func153.trans (congrArg some (by kernel_rfl)), t3 := Tryz.underlying3, a3 := Tryz.isAgg3, z3 := Tryz.sizeOf3, v3 := Tryz.zeroValue3, t4 := Tryz.underlying4, a4 := Tryz.isAgg4, z4 := Tryz.sizeOf4, v4 := Tryz.zeroValue4, t9 := Tryz.underlying9, a9 := Tryz.isAgg9, z9 := Tryz.sizeOf9, v9 := Tryz.zeroValue9}
theorem enters87 : Go.Ev.Enters Tryz.prog 87 := enters_of Tryz.func87 (by kernel_rfl) rfl
theorem kids87 [Go.Ev.Sg] : Go.Ev.SpecOk Tryz.prog 87 Go.Ev.sKids :=
  Go.Ev.kids_ok enters87 fun bm es clock p hp w hb hst hv => kids_walk (fun s p w => Any.strings_HasPrefix Tryz.prefix138 s p w) bm es clock p hp w hb hst hv

theorem enters319 : Go.Ev.Enters Tryz.prog 319 := enters_of Tryz.func319 (by kernel_rfl) rfl
theorem wr64_small {s : Nat} (h : s ≤ 1099511627776) : wr64 (s : Int) = s := by
  unfold wr64; omega

theorem used319 [Go.Ev.Sg] : Go.Ev.SpecOk Tryz.prog 319 Go.Ev.sUsed :=
  Go.Ev.used_ok enters319 fun bm es clock fb fo nb no n c g w hb hst h0 h3 hv hs =>
    Calls.mono (used_walk bm es clock fb fo nb no n c g w hb hst h0 h3 hv hs) fun e w' ⟨he, hw⟩ => ⟨fun s hs1 hs2 => by
      have e1 : ((lens g es.toList).map fun e => valOf e.val).sum = (s : Int) := by
        rw [← hs2]
        simp only [lens, List.map_map]
        congr 1
      rw [he, e1, wr64_small hs1], hw⟩

theorem enters188 : Go.Ev.Enters Tryz.prog 188 := enters_of Tryz.func188 (by kernel_rfl) rfl
theorem blocks188 [Go.Ev.Sg] : Go.Ev.SpecOk Tryz.prog 188 Go.Ev.sBlocks := Go.Ev.blocks_ok enters188 fun s hs w => blocks_walk s hs w

def Tryz.sorted106_ren : Go.Shelf.Ren := ⟨fun | 6 => 106 | 8 => 163 | 9 => 164 | 11 => 217 | 13 => 219 | 12 => 218 | 23 => 278 | 24 => 279 | 14 => 269 | 15 => 270 | 16 => 271 | 17 => 272 | 18 => 273 | 19 => 274 | 20 => 275 | 21 => 276 | 22 => 277 | 25 => 323 | 26 => 324 | 27 => 325 | 28 => 326 | 29 => 327 | 30 => 328 | 31 => 349 | n => n, fun | 26 => 9 | 28 => 190 | 24 => 23 | 0 => 0 | 3 => 3 | 37 => 81 | 48 => 82 | 50 => 22 | 4 => 4 | 40 => 348 | 39 => 347 | 45 => 130 | 5 => 5 | 9 => 9 | 51 => 387 | 55 => 390 | 57 => 406 | 58 => 332 | 33 => 72 | n => n, fun | n => n⟩
theorem Tryz.sorted106 : Go.Proofs.SlLaysZ.n6 Tryz.prog Tryz.sorted106_ren := {mixed := by kernel_rfl, f6 := ⟨Tryz.f106.name, by decide, Tryz.func106.trans (congrArg some (by kernel_rfl))⟩, f8 := ⟨Tryz.f163.name, by decide, Tryz.func163.trans (congrArg some (by kernel_rfl))⟩, f11 := ⟨Tryz.f217.name, by decide, Tryz.func217.trans (congrArg some (by kernel_rfl))⟩, t0 := Tryz.underlying0, a0 := Tryz.isAgg0, z0 := Tryz.sizeOf0, v0 := Tryz.zeroValue0, t24 := Tryz.underlying23, a24 := Tryz.isAgg23, z24 := Tryz.sizeOf23, v24 := Tryz.zeroValue23, t26 := Tryz.underlying9, a26 := Tryz.isAgg9, z26 := Tryz.sizeOf9, v26 := Tryz.zeroValue9, t28 := Tryz.underlying190, a28 := Tryz.isAgg190, z28 := Tryz.sizeOf190, v28 := Tryz.zeroValue190, i26 := by kernel_rfl}
def Tryz.sort164_ren : Go.Shelf.Ren := ⟨fun | 6 => 164 | 8 => 219 | 9 => 218 | 19 => 278 | 20 => 279 | 21 => 269 | 22 => 270 | 23 => 271 | 24 => 272 | 25 => 273 | 26 => 274 | 27 => 275 | 28 => 276 | 29 => 277 | 36 => 323 | 31 => 324 | 32 => 325 | 37 => 326 | 38 => 327 | 39 => 328 | 41 => 349 | n => n, fun | 27 => 23 | 29 => 9 | 3 => 3 | 32 => 81 | 26 => 23 | 0 => 0 | 44 => 82 | 46 => 22 | 4 => 4 | 36 => 348 | 35 => 347 | 41 => 130 | 5 => 5 | 9 => 9 | 53 => 387 | 57 => 390 | 63 => 406 | 64 => 332 | n => n, fun | n => n⟩
theorem Tryz.sort164 : Go.Proofs.SlLaysM.n6 Tryz.prog Tryz.sort164_ren := {mixed := by kernel_rfl, f6 := ⟨Tryz.f164.name, by decide, Tryz.func164.trans (congrArg some (by kernel_rfl))⟩, f8 := Tryz.func219.trans (congrArg some (by kernel_rfl)), f9 := ⟨Tryz.f218.name, by decide, Tryz.func218.trans (congrArg some (by kernel_rfl))⟩, f19 := Tryz.func278.trans (congrArg some (by kernel_rfl)), f20 := Tryz.func279.trans (congrArg some (by kernel_rfl)), f21 := ⟨Tryz.f269.name, by decide, Tryz.func269.trans (congrArg some (by kernel_rfl))⟩, f22 := ⟨Tryz.f270.name, by decide, Tryz.func270.trans (congrArg some (by kernel_rfl))⟩, f23 := ⟨Tryz.f271.name, by decide, Tryz.func271.trans (congrArg some (by kernel_rfl))⟩, f24 := ⟨Tryz.f272.name, by decide, Tryz.func272.trans (congrArg some (by kernel_rfl))⟩, f25 := ⟨Tryz.f273.name, by decide, Tryz.func273.trans (congrArg some (by kernel_rfl))⟩, f26 := ⟨Tryz.f274.name, by decide, Tryz.func274.trans (congrArg some (by kernel_rfl))⟩, f27 := ⟨Tryz.f275.name, by decide, Tryz.func275.trans (congrArg some (by kernel_rfl))⟩, f28 := ⟨Tryz.f276.name, by decide, Tryz.func276.trans (congrArg some (by kernel_rfl))⟩, f29 := ⟨Tryz.f277.name, by decide, Tryz.func277.trans (congrArg some (by kernel_rfl))⟩, f31 := Tryz.func324.trans (congrArg some (by kernel_rfl)), f32 := Tryz.func325.trans (congrArg some (by kernel_rfl)), f36 := ⟨Tryz.f323.name, by decide, Tryz.func323.trans (congrArg some (by kernel_rfl))⟩, f37 := ⟨Tryz.f326.name, by decide, Tryz.func326.trans (congrArg some (by kernel_rfl))⟩, f38 := ⟨Tryz.f327.name, by decide, Tryz.func327.trans (congrArg some (by kernel_rfl))⟩, f39 := ⟨Tryz.f328.name, by decide, Tryz.func328.trans (congrArg some (by kernel_rfl))⟩, f41 := ⟨Tryz.f349.name, by decide, Tryz.func349.trans (congrArg some (by kernel_rfl))⟩, t0 := Tryz.underlying0, a0 := Tryz.isAgg0, z0 := Tryz.sizeOf0, v0 := Tryz.zeroValue0, t3 := Tryz.underlying3, a3 := Tryz.isAgg3, z3 := Tryz.sizeOf3, v3 := Tryz.zeroValue3, t4 := Tryz.underlying4, a4 := Tryz.isAgg4, z4 := Tryz.sizeOf4, v4 := Tryz.zeroValue4, t5 := Tryz.underlying5, a5 := Tryz.isAgg5, z5 := Tryz.sizeOf5, v5 := Tryz.zeroValue5, t9 := Tryz.underlying9, a9 := Tryz.isAgg9, z9 := Tryz.sizeOf9, v9 := Tryz.zeroValue9, t26 := Tryz.underlying23, a26 := Tryz.isAgg23, z26 := Tryz.sizeOf23, v26 := Tryz.zeroValue23, t27 := Tryz.underlying23, a27 := Tryz.isAgg23, z27 := Tryz.sizeOf23, v27 := Tryz.zeroValue23, t29 := Tryz.underlying9, a29 := Tryz.isAgg9, z29 := Tryz.sizeOf9, v29 := Tryz.zeroValue9, t32 := Tryz.underlying81, a32 := Tryz.isAgg81, z32 := Tryz.sizeOf81, v32 := Tryz.zeroValue81, t35 := Tryz.underlying347, a35 := Tryz.isAgg347, z35 := Tryz.sizeOf347, v35 := Tryz.zeroValue347, t36 := Tryz.underlying348, a36 := Tryz.isAgg348, z36 := Tryz.sizeOf348, v36 := Tryz.zeroValue348, t41 := Tryz.underlying130, a41 := Tryz.isAgg130, z41 := Tryz.sizeOf130, v41 := Tryz.zeroValue130, t44 := Tryz.underlying82, a44 := Tryz.isAgg82, z44 := Tryz.sizeOf82, v44 := Tryz.zeroValue82, t46 := Tryz.underlying22, a46 := Tryz.isAgg22, z46 := Tryz.sizeOf22, v46 := Tryz.zeroValue22, t53 := Tryz.underlying387, a53 := Tryz.isAgg387, z53 := Tryz.sizeOf387, v53 := Tryz.zeroValue387, t57 := Tryz.underlying390, a57 := Tryz.isAgg390, z57 := Tryz.sizeOf390, v57 := Tryz.zeroValue390, t63 := Tryz.underlying406, a63 := Tryz.isAgg406, z63 := Tryz.sizeOf406, v63 := Tryz.zeroValue406, t64 := Tryz.underlying332, a64 := Tryz.isAgg332, z64 := Tryz.sizeOf332, v64 := Tryz.zeroValue332}
theorem enters106 : Go.Ev.Enters Tryz.prog 106 := enters_of Tryz.func106 (by kernel_rfl) rfl
theorem Tryz.sorts (m : Nat) : AnyZ.SortsIn Tryz.prog Tryz.sorted106_ren Fence.wide m :=
  ⟨fun blk off cap ss W hH hblk hsz => callsIn_wide.2 (AnyM.slices_Sort_string Tryz.sort164 blk off cap ss W hH hblk hsz),
   fun p cap W => callsIn_wide.2 (AnyM.slices_Sort_string_none Tryz.sort164 p cap W)⟩
theorem sizeStr : (Tryz.prog.info? 9).map (fun i => i.size) = some 1 := by kernel_rfl
theorem infoStr : ∃ i, Tryz.prog.info? 9 = some i ∧ i.size = 1 := Option.map_eq_some_iff.1 sizeStr

def Tryz.keys107_ren : Go.Shelf.Ren := ⟨fun | 7 => 107 | 10 => 165 | n => n, fun | 23 => 134 | 26 => 9 | 3 => 140 | 28 => 190 | 0 => 0 | 27 => 189 | 33 => 72 | 4 => 4 | n => n, fun | n => n⟩
theorem Tryz.keys107 : Go.Proofs.SlLaysZ.n7 Tryz.prog Tryz.keys107_ren := {mixed := by kernel_rfl, f7 := ⟨Tryz.f107.name, by decide, Tryz.func107.trans (congrArg some (by kernel_rfl))⟩, f10 := ⟨Tryz.f165.name, by decide, Tryz.func165.trans (congrArg some (by kernel_rfl))⟩, t0 := Tryz.underlying0, a0 := Tryz.isAgg0, z0 := Tryz.sizeOf0, v0 := Tryz.zeroValue0, t4 := Tryz.underlying4, a4 := Tryz.isAgg4, z4 := Tryz.sizeOf4, v4 := Tryz.zeroValue4, t23 := Tryz.underlying134, a23 := Tryz.isAgg134, z23 := Tryz.sizeOf134, v23 := Tryz.zeroValue134, t26 := Tryz.underlying9, a26 := Tryz.isAgg9, z26 := Tryz.sizeOf9, v26 := Tryz.zeroValue9, t27 := Tryz.underlying189, a27 := Tryz.isAgg189, z27 := Tryz.sizeOf189, v27 := Tryz.zeroValue189, t28 := Tryz.underlying190, a28 := Tryz.isAgg190, z28 := Tryz.sizeOf190, v28 := Tryz.zeroValue190, t33 := Tryz.underlying72, a33 := Tryz.isAgg72, z33 := Tryz.sizeOf72, v33 := Tryz.zeroValue72}
theorem enters107 : Go.Ev.Enters Tryz.prog 107 := enters_of Tryz.func107 (by kernel_rfl) rfl
theorem mkeys107 [Go.Ev.Sg] : Go.Ev.SpecOk Tryz.prog 107 (Go.Ev.sKeys 165) := Go.Ev.keys_ok (t := 134) enters107 fun mb W => (callsIn_wide (n := 5)).1 (AnyZ.keys_in Tryz.keys107 Fence.wide 5 trivial rfl mb W)
set_option maxHeartbeats 1000000 in
theorem msorted107 [Go.Ev.Sg] : Go.Ev.SpecOk Tryz.prog 106 (Go.Ev.sSorted 165 9) := by
  obtain ⟨i, hi, hi1⟩ := infoStr
  refine Go.Ev.sorted_ok Tryz.underlying9 hi hi1 enters106 fun b nn Bm D0 R w hcell hown hmax hbytes => ?_
  have hBm : Bm < w.heap.size := by
    rcases Nat.lt_or_ge Bm w.heap.size with h1 | h1
    · exact h1
    · simp [World.cell?, Array.getElem?_eq_none h1] at hcell
  have hseq : SeqGives Fence.wide 2 Tryz.prog 165 #[.pointer (some ⟨Bm, 0, none⟩)] encStr (fun ss => ss.Perm (strKeys D0)) (Maps.size D0) w :=
    AnyZ.keys_gives (ρ := Tryz.keys107_ren) { Tryz.keys107 with } Fence.wide _ trivial rfl (by omega) Bm b nn D0 w hBm hcell hown
  exact (callsIn_wide (n := 5)).1 (AnyZ.sorted_in Tryz.sorted106 Fence.wide 5 trivial trivial trivial trivial rfl (by omega) (Tryz.sorts _) (enters_of Tryz.func164 (by kernel_rfl) rfl) 165 #[.pointer (some ⟨Bm, 0, none⟩)] trivial (enters_of Tryz.func165 (by kernel_rfl) rfl) _ _ hmax hbytes _ hseq)

def Tryz.keys147_ren : Go.Shelf.Ren := ⟨fun | 7 => 147 | 10 => 199 | n => n, fun | 23 => 238 | 26 => 9 | 3 => 208 | 28 => 190 | 0 => 0 | 27 => 189 | 33 => 72 | 4 => 4 | n => n, fun | n => n⟩
theorem Tryz.keys147 : Go.Proofs.SlLaysZ.n7 Tryz.prog Tryz.keys147_ren := {mixed := by kernel_rfl, f7 := ⟨Tryz.f147.name, by decide, Tryz.func147.trans (congrArg some (by kernel_rfl))⟩, f10 := ⟨Tryz.f199.name, by decide, Tryz.func199.trans (congrArg some (by kernel_rfl))⟩, t0 := Tryz.underlying0, a0 := Tryz.isAgg0, z0 := Tryz.sizeOf0, v0 := Tryz.zeroValue0, t4 := Tryz.underlying4, a4 := Tryz.isAgg4, z4 := Tryz.sizeOf4, v4 := Tryz.zeroValue4, t23 := Tryz.underlying238, a23 := Tryz.isAgg238, z23 := Tryz.sizeOf238, v23 := Tryz.zeroValue238, t26 := Tryz.underlying9, a26 := Tryz.isAgg9, z26 := Tryz.sizeOf9, v26 := Tryz.zeroValue9, t27 := Tryz.underlying189, a27 := Tryz.isAgg189, z27 := Tryz.sizeOf189, v27 := Tryz.zeroValue189, t28 := Tryz.underlying190, a28 := Tryz.isAgg190, z28 := Tryz.sizeOf190, v28 := Tryz.zeroValue190, t33 := Tryz.underlying72, a33 := Tryz.isAgg72, z33 := Tryz.sizeOf72, v33 := Tryz.zeroValue72}
theorem enters147 : Go.Ev.Enters Tryz.prog 147 := enters_of Tryz.func147 (by kernel_rfl) rfl
theorem mkeys147 [Go.Ev.Sg] : Go.Ev.SpecOk Tryz.prog 147 (Go.Ev.sKeys 199) := Go.Ev.keys_ok (t := 238) enters147 fun mb W => (callsIn_wide (n := 5)).1 (AnyZ.keys_in Tryz.keys147 Fence.wide 5 trivial rfl mb W)
set_option maxHeartbeats 1000000 in
theorem msorted147 [Go.Ev.Sg] : Go.Ev.SpecOk Tryz.prog 106 (Go.Ev.sSorted 199 9) := by
  obtain ⟨i, hi, hi1⟩ := infoStr
  refine Go.Ev.sorted_ok Tryz.underlying9 hi hi1 enters106 fun b nn Bm D0 R w hcell hown hmax hbytes => ?_
  have hBm : Bm < w.heap.size := by
    rcases Nat.lt_or_ge Bm w.heap.size with h1 | h1
    · exact h1
    · simp [World.cell?, Array.getElem?_eq_none h1] at hcell
  have hseq : SeqGives Fence.wide 2 Tryz.prog 199 #[.pointer (some ⟨Bm, 0, none⟩)] encStr (fun ss => ss.Perm (strKeys D0)) (Maps.size D0) w :=
    AnyZ.keys_gives (ρ := Tryz.keys147_ren) { Tryz.keys147 with } Fence.wide _ trivial rfl (by omega) Bm b nn D0 w hBm hcell hown
  exact (callsIn_wide (n := 5)).1 (AnyZ.sorted_in Tryz.sorted106 Fence.wide 5 trivial trivial trivial trivial rfl (by omega) (Tryz.sorts _) (enters_of Tryz.func164 (by kernel_rfl) rfl) 199 #[.pointer (some ⟨Bm, 0, none⟩)] trivial (enters_of Tryz.func199 (by kernel_rfl) rfl) _ _ hmax hbytes _ hseq)

def Tryz.keys228_ren : Go.Shelf.Ren := ⟨fun | 7 => 228 | 10 => 285 | n => n, fun | 23 => 108 | 26 => 9 | 3 => 3 | 28 => 190 | 0 => 0 | 27 => 189 | 33 => 72 | 4 => 4 | n => n, fun | n => n⟩
theorem Tryz.keys228 : Go.Proofs.SlLaysZ.n7 Tryz.prog Tryz.keys228_ren := {mixed := by kernel_rfl, f7 := ⟨Tryz.f228.name, by decide, Tryz.func228.trans (congrArg some (by kernel_rfl))⟩, f10 := ⟨Tryz.f285.name, by decide, Tryz.func285.trans (congrArg some (by kernel_rfl))⟩, t0 := Tryz.underlying0, a0 := Tryz.isAgg0, z0 := Tryz.sizeOf0, v0 := Tryz.zeroValue0, t4 := Tryz.underlying4, a4 := Tryz.isAgg4, z4 := Tryz.sizeOf4, v4 := Tryz.zeroValue4, t23 := Tryz.underlying108, a23 := Tryz.isAgg108, z23 := Tryz.sizeOf108, v23 := Tryz.zeroValue108, t26 := Tryz.underlying9, a26 := Tryz.isAgg9, z26 := Tryz.sizeOf9, v26 := Tryz.zeroValue9, t27 := Tryz.underlying189, a27 := Tryz.isAgg189, z27 := Tryz.sizeOf189, v27 := Tryz.zeroValue189, t28 := Tryz.underlying190, a28 := Tryz.isAgg190, z28 := Tryz.sizeOf190, v28 := Tryz.zeroValue190, t33 := Tryz.underlying72, a33 := Tryz.isAgg72, z33 := Tryz.sizeOf72, v33 := Tryz.zeroValue72}
theorem enters228 : Go.Ev.Enters Tryz.prog 228 := enters_of Tryz.func228 (by kernel_rfl) rfl
theorem mkeys228 [Go.Ev.Sg] : Go.Ev.SpecOk Tryz.prog 228 (Go.Ev.sKeys 285) := Go.Ev.keys_ok (t := 108) enters228 fun mb W => (callsIn_wide (n := 5)).1 (AnyZ.keys_in Tryz.keys228 Fence.wide 5 trivial rfl mb W)
set_option maxHeartbeats 1000000 in
theorem msorted228 [Go.Ev.Sg] : Go.Ev.SpecOk Tryz.prog 106 (Go.Ev.sSorted 285 9) := by
  obtain ⟨i, hi, hi1⟩ := infoStr
  refine Go.Ev.sorted_ok Tryz.underlying9 hi hi1 enters106 fun b nn Bm D0 R w hcell hown hmax hbytes => ?_
  have hBm : Bm < w.heap.size := by
    rcases Nat.lt_or_ge Bm w.heap.size with h1 | h1
    · exact h1
    · simp [World.cell?, Array.getElem?_eq_none h1] at hcell
  have hseq : SeqGives Fence.wide 2 Tryz.prog 285 #[.pointer (some ⟨Bm, 0, none⟩)] encStr (fun ss => ss.Perm (strKeys D0)) (Maps.size D0) w :=
    AnyZ.keys_gives (ρ := Tryz.keys228_ren) { Tryz.keys228 with } Fence.wide _ trivial rfl (by omega) Bm b nn D0 w hBm hcell hown
  exact (callsIn_wide (n := 5)).1 (AnyZ.sorted_in Tryz.sorted106 Fence.wide 5 trivial trivial trivial trivial rfl (by omega) (Tryz.sorts _) (enters_of Tryz.func164 (by kernel_rfl) rfl) 285 #[.pointer (some ⟨Bm, 0, none⟩)] trivial (enters_of Tryz.func285 (by kernel_rfl) rfl) _ _ hmax hbytes _ hseq)

def Tryz.sorted149_ren : Go.Shelf.Ren := ⟨fun | 6 => 149 | 8 => 200 | 9 => 201 | 11 => 254 | 13 => 219 | 12 => 255 | 23 => 278 | 24 => 279 | 14 => 307 | 15 => 308 | 16 => 309 | 17 => 310 | 18 => 311 | 19 => 312 | 20 => 313 | 21 => 314 | 22 => 315 | 25 => 342 | 26 => 324 | 27 => 325 | 28 => 343 | 29 => 344 | 30 => 345 | 31 => 356 | n => n, fun | 26 => 3 | 28 => 245 | 24 => 157 | 0 => 0 | 3 => 3 | 37 => 81 | 48 => 82 | 50 => 22 | 4 => 4 | 40 => 348 | 39 => 347 | 45 => 130 | 5 => 5 | 9 => 9 | 51 => 387 | 55 => 390 | 57 => 406 | 58 => 332 | 33 => 117 | n => n, fun | n => n⟩
theorem Tryz.sorted149 : Go.Proofs.SlLaysZI.n6 Tryz.prog Tryz.sorted149_ren := {mixed := by kernel_rfl, f6 := ⟨Tryz.f149.name, by decide, Tryz.func149.trans (congrArg some (by kernel_rfl))⟩, f8 := ⟨Tryz.f200.name, by decide, Tryz.func200.trans (congrArg some (by kernel_rfl))⟩, f11 := ⟨Tryz.f254.name, by decide, Tryz.func254.trans (congrArg some (by kernel_rfl))⟩, t0 := Tryz.underlying0, a0 := Tryz.isAgg0, z0 := Tryz.sizeOf0, v0 := Tryz.zeroValue0, t24 := Tryz.underlying157, a24 := Tryz.isAgg157, z24 := Tryz.sizeOf157, v24 := Tryz.zeroValue157, t26 := Tryz.underlying3, a26 := Tryz.isAgg3, z26 := Tryz.sizeOf3, v26 := Tryz.zeroValue3, t28 := Tryz.underlying245, a28 := Tryz.isAgg245, z28 := Tryz.sizeOf245, v28 := Tryz.zeroValue245, i26 := by kernel_rfl}
def Tryz.sort201_ren : Go.Shelf.Ren := ⟨fun | 5 => 201 | 8 => 219 | 7 => 255 | 19 => 278 | 20 => 279 | 10 => 307 | 11 => 308 | 12 => 309 | 13 => 310 | 14 => 311 | 15 => 312 | 16 => 313 | 17 => 314 | 18 => 315 | 30 => 342 | 31 => 324 | 32 => 325 | 33 => 343 | 34 => 344 | 35 => 345 | 40 => 356 | n => n, fun | 23 => 157 | 25 => 3 | 3 => 3 | 32 => 81 | 22 => 157 | 0 => 0 | 44 => 82 | 46 => 22 | 4 => 4 | 36 => 348 | 35 => 347 | 41 => 130 | 5 => 5 | 9 => 9 | 53 => 387 | 57 => 390 | 63 => 406 | 64 => 332 | n => n, fun | n => n⟩
theorem Tryz.sort201 : Go.Proofs.SlLaysM.n5 Tryz.prog Tryz.sort201_ren := {mixed := by kernel_rfl, f5 := ⟨Tryz.f201.name, by decide, Tryz.func201.trans (congrArg some (by kernel_rfl))⟩, f7 := ⟨Tryz.f255.name, by decide, Tryz.func255.trans (congrArg some (by kernel_rfl))⟩, f8 := Tryz.func219.trans (congrArg some (by kernel_rfl)), f10 := ⟨Tryz.f307.name, by decide, Tryz.func307.trans (congrArg some (by kernel_rfl))⟩, f11 := ⟨Tryz.f308.name, by decide, Tryz.func308.trans (congrArg some (by kernel_rfl))⟩, f12 := ⟨Tryz.f309.name, by decide, Tryz.func309.trans (congrArg some (by kernel_rfl))⟩, f13 := ⟨Tryz.f310.name, by decide, Tryz.func310.trans (congrArg some (by kernel_rfl))⟩, f14 := ⟨Tryz.f311.name, by decide, Tryz.func311.trans (congrArg some (by kernel_rfl))⟩, f15 := ⟨Tryz.f312.name, by decide, Tryz.func312.trans (congrArg some (by kernel_rfl))⟩, f16 := ⟨Tryz.f313.name, by decide, Tryz.func313.trans (congrArg some (by kernel_rfl))⟩, f17 := ⟨Tryz.f314.name, by decide, Tryz.func314.trans (congrArg some (by kernel_rfl))⟩, f18 := ⟨Tryz.f315.name, by decide, Tryz.func315.trans (congrArg some (by kernel_rfl))⟩, f19 := Tryz.func278.trans (congrArg some (by kernel_rfl)), f20 := Tryz.func279.trans (congrArg some (by kernel_rfl)), f30 := ⟨Tryz.f342.name, by decide, Tryz.func342.trans (congrArg some (by kernel_rfl))⟩, f31 := Tryz.func324.trans (congrArg some (by kernel_rfl)), f32 := Tryz.func325.trans (congrArg some (by kernel_rfl)), f33 := ⟨Tryz.f343.name, by decide, Tryz.func343.trans (congrArg some (by kernel_rfl))⟩, f34 := ⟨Tryz.f344.name, by decide, Tryz.func344.trans (congrArg some (by kernel_rfl))⟩, f35 := ⟨Tryz.f345.name, by decide, Tryz.func345.trans (congrArg some (by kernel_rfl))⟩, f40 := ⟨Tryz.f356.name, by decide, Tryz.func356.trans (congrArg some (by kernel_rfl))⟩, t0 := Tryz.underlying0, a0 := Tryz.isAgg0, z0 := Tryz.sizeOf0, v0 := Tryz.zeroValue0, t3 := Tryz.underlying3, a3 := Tryz.isAgg3, z3 := Tryz.sizeOf3, v3 := Tryz.zeroValue3, t4 := Tryz.underlying4, a4 := Tryz.isAgg4, z4 := Tryz.sizeOf4, v4 := Tryz.zeroValue4, t5 := Tryz.underlying5, a5 := Tryz.isAgg5, z5 := Tryz.sizeOf5, v5 := Tryz.zeroValue5, t9 := Tryz.underlying9, a9 := Tryz.isAgg9, z9 := Tryz.sizeOf9, v9 := Tryz.zeroValue9, t22 := Tryz.underlying157, a22 := Tryz.isAgg157, z22 := Tryz.sizeOf157, v22 := Tryz.zeroValue157, t23 := Tryz.underlying157, a23 := Tryz.isAgg157, z23 := Tryz.sizeOf157, v23 := Tryz.zeroValue157, t25 := Tryz.underlying3, a25 := Tryz.isAgg3, z25 := Tryz.sizeOf3, v25 := Tryz.zeroValue3, t32 := Tryz.underlying81, a32 := Tryz.isAgg81, z32 := Tryz.sizeOf81, v32 := Tryz.zeroValue81, t35 := Tryz.underlying347, a35 := Tryz.isAgg347, z35 := Tryz.sizeOf347, v35 := Tryz.zeroValue347, t36 := Tryz.underlying348, a36 := Tryz.isAgg348, z36 := Tryz.sizeOf348, v36 := Tryz.zeroValue348, t41 := Tryz.underlying130, a41 := Tryz.isAgg130, z41 := Tryz.sizeOf130, v41 := Tryz.zeroValue130, t44 := Tryz.underlying82, a44 := Tryz.isAgg82, z44 := Tryz.sizeOf82, v44 := Tryz.zeroValue82, t46 := Tryz.underlying22, a46 := Tryz.isAgg22, z46 := Tryz.sizeOf22, v46 := Tryz.zeroValue22, t53 := Tryz.underlying387, a53 := Tryz.isAgg387, z53 := Tryz.sizeOf387, v53 := Tryz.zeroValue387, t57 := Tryz.underlying390, a57 := Tryz.isAgg390, z57 := Tryz.sizeOf390, v57 := Tryz.zeroValue390, t63 := Tryz.underlying406, a63 := Tryz.isAgg406, z63 := Tryz.sizeOf406, v63 := Tryz.zeroValue406, t64 := Tryz.underlying332, a64 := Tryz.isAgg332, z64 := Tryz.sizeOf332, v64 := Tryz.zeroValue332}
theorem enters149 : Go.Ev.Enters Tryz.prog 149 := enters_of Tryz.func149 (by kernel_rfl) rfl
theorem Tryz.sortsI (m : Nat) : AnyZI.SortsIn Tryz.prog Tryz.sorted149_ren Fence.wide m :=
  ⟨fun blk off cap ss W hH hblk hsz => callsIn_wide.2 (AnyM.slices_Sort_int Tryz.sort201 blk off cap ss W hH hblk hsz),
   fun p cap W => callsIn_wide.2 (AnyM.slices_Sort_int_none Tryz.sort201 p cap W)⟩
theorem sizeInt : (Tryz.prog.info? 3).map (fun i => i.size) = some 1 := by kernel_rfl
theorem infoInt : ∃ i, Tryz.prog.info? 3 = some i ∧ i.size = 1 := Option.map_eq_some_iff.1 sizeInt

def Tryz.keys150_ren : Go.Shelf.Ren := ⟨fun | 7 => 150 | 10 => 202 | n => n, fun | 23 => 102 | 26 => 3 | 3 => 9 | 28 => 245 | 0 => 0 | 27 => 244 | 33 => 117 | 4 => 4 | n => n, fun | n => n⟩
theorem Tryz.keys150 : Go.Proofs.SlLaysZI.n7 Tryz.prog Tryz.keys150_ren := {mixed := by kernel_rfl, f7 := ⟨Tryz.f150.name, by decide, Tryz.func150.trans (congrArg some (by kernel_rfl))⟩, f10 := ⟨Tryz.f202.name, by decide, Tryz.func202.trans (congrArg some (by kernel_rfl))⟩, t0 := Tryz.underlying0, a0 := Tryz.isAgg0, z0 := Tryz.sizeOf0, v0 := Tryz.zeroValue0, t4 := Tryz.underlying4, a4 := Tryz.isAgg4, z4 := Tryz.sizeOf4, v4 := Tryz.zeroValue4, t23 := Tryz.underlying102, a23 := Tryz.isAgg102, z23 := Tryz.sizeOf102, v23 := Tryz.zeroValue102, t26 := Tryz.underlying3, a26 := Tryz.isAgg3, z26 := Tryz.sizeOf3, v26 := Tryz.zeroValue3, t27 := Tryz.underlying244, a27 := Tryz.isAgg244, z27 := Tryz.sizeOf244, v27 := Tryz.zeroValue244, t28 := Tryz.underlying245, a28 := Tryz.isAgg245, z28 := Tryz.sizeOf245, v28 := Tryz.zeroValue245, t33 := Tryz.underlying117, a33 := Tryz.isAgg117, z33 := Tryz.sizeOf117, v33 := Tryz.zeroValue117}
theorem enters150 : Go.Ev.Enters Tryz.prog 150 := enters_of Tryz.func150 (by kernel_rfl) rfl
theorem mkeys150 [Go.Ev.Sg] : Go.Ev.SpecOk Tryz.prog 150 (Go.Ev.sKeys 202) := Go.Ev.keys_ok (t := 102) enters150 fun mb W => (callsIn_wide (n := 5)).1 (AnyZI.keys_in Tryz.keys150 Fence.wide 5 trivial rfl mb W)
set_option maxHeartbeats 1000000 in
theorem msorted150 [Go.Ev.Sg] : Go.Ev.SpecOk Tryz.prog 149 (Go.Ev.sSortedI 202 3) := by
  obtain ⟨i, hi, hi1⟩ := infoInt
  refine Go.Ev.sortedI_ok Tryz.underlying3 hi hi1 enters149 fun b nn Bm D0 R w hcell hown hmax hbytes => ?_
  have hBm : Bm < w.heap.size := by
    rcases Nat.lt_or_ge Bm w.heap.size with h1 | h1
    · exact h1
    · simp [World.cell?, Array.getElem?_eq_none h1] at hcell
  have hseq : SeqGives Fence.wide 2 Tryz.prog 202 #[.pointer (some ⟨Bm, 0, none⟩)] encZ (fun ss => ss.Perm (intKeys D0)) (Maps.size D0) w :=
    AnyZI.keys_gives (ρ := Tryz.keys150_ren) { Tryz.keys150 with } Fence.wide _ trivial rfl (by omega) Bm b nn D0 w hBm hcell hown
  exact (callsIn_wide (n := 5)).1 (AnyZI.sorted_in Tryz.sorted149 Fence.wide 5 trivial trivial trivial trivial rfl (by omega) (Tryz.sortsI _) (enters_of Tryz.func201 (by kernel_rfl) rfl) 202 #[.pointer (some ⟨Bm, 0, none⟩)] trivial (enters_of Tryz.func202 (by kernel_rfl) rfl) _ _ hmax hbytes _ hseq)

theorem ext88 : Go.Ev.Ext Tryz.prog 88 Extern.MapsClone.clone := ⟨Tryz.f88, Tryz.func88, by decide, rfl, by kernel_rfl, by kernel_rfl⟩
theorem ext252 : Go.Ev.Ext Tryz.prog 252 Extern.BytealgCompare.compare := ⟨Tryz.f252, Tryz.func252, by decide, rfl, by kernel_rfl, by kernel_rfl⟩
theorem ext192 : Go.Ev.Ext Tryz.prog 192 Extern.AbiNoEscape.same := ⟨Tryz.f192, Tryz.func192, by decide, rfl, by kernel_rfl, by kernel_rfl⟩
theorem ext339 : Go.Ev.Ext Tryz.prog 339 Extern.BytealgIndexByte.indexByte := ⟨Tryz.f339, Tryz.func339, by decide, rfl, by kernel_rfl, by kernel_rfl⟩
theorem ext352 : Go.Ev.Ext Tryz.prog 352 Extern.BytealgCount.count := ⟨Tryz.f352, Tryz.func352, by decide, rfl, by kernel_rfl, by kernel_rfl⟩
end Go.Proofs
