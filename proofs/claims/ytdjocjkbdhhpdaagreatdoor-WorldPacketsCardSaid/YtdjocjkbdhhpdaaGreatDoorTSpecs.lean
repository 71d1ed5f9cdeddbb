/- The contracts of this seat's functions. -/
import Derived.Test.YtdjocjkbdhhpdaaGreatDoorEvSorted
import Derived.Test.YtdjocjkbdhhpdaaGreatDoorEvSortedI
import Derived.Shelf.SlIterI.Nil
import Derived.Test.YtdjocjkbdhhpdaaGreatDoorEvSpecs
import Derived.Test.YtdjocjkbdhhpdaaGreatDoorTWalks
import Derived.Test.YtdjocjkbdhhpdaaGreatDoorTUsed
import Derived.Test.YtdjocjkbdhhpdaaGreatDoorTBlocks
import Derived.Shelf.SlIter.Nil
import Derived.Shelf.SortM.Plain
import Derived.Shelf.SortM.SortNone
import Derived.Shelf.Strings.Prefix
import Derived.KernelRfl
import Derived.Test.YtdjocjkbdhhpdaaGreatDoorProg
/-! The contracts of this seat's functions. -/
namespace Go.Proofs
open Go.RowKit Go.Maps Go.Sort Go.Shelf

def Tryz.prefix248_ren : Go.Shelf.Ren := ⟨fun | 99 => 248 | 206 => 232 | n => n, fun | 9 => 9 | 4 => 4 | 3 => 3 | n => n, fun | n => n⟩
theorem Tryz.prefix248 : Go.Proofs.Lays.n99 Tryz.prog Tryz.prefix248_ren := {mixed := by kernel_rfl, f99 := Tryz.func248.trans (congrArg some (by kernel_rfl)), f206 := Tryz.func232.trans (congrArg some (by kernel_rfl)), t3 := Tryz.underlying3, a3 := Tryz.isAgg3, z3 := Tryz.sizeOf3, v3 := Tryz.zeroValue3, t4 := Tryz.underlying4, a4 := Tryz.isAgg4, z4 := Tryz.sizeOf4, v4 := Tryz.zeroValue4, t9 := Tryz.underlying9, a9 := Tryz.isAgg9, z9 := Tryz.sizeOf9, v9 := Tryz.zeroValue9}
theorem enters170 : Go.Ev.Enters Tryz.prog 170 := enters_of Tryz.func170 (by kernel_rfl) rfl
theorem kids170 [Go.Ev.Sg] : Go.Ev.SpecOk Tryz.prog 170 Go.Ev.sKids :=
  Go.Ev.kids_ok enters170 fun bm es clock p hp w hb hst hv => kids_walk (fun s p w => Any.strings_HasPrefix Tryz.prefix248 s p w) bm es clock p hp w hb hst hv

theorem enters62 : Go.Ev.Enters Tryz.prog 62 := enters_of Tryz.func62 (by kernel_rfl) rfl
theorem wr64_small {s : Nat} (h : s ≤ 1099511627776) : wr64 (s : Int) = s := by
  unfold wr64; omega

theorem used62 [Go.Ev.Sg] : Go.Ev.SpecOk Tryz.prog 62 Go.Ev.sUsed :=
  Go.Ev.used_ok enters62 fun bm es clock fb fo nb no n c g w hb hst h0 h3 hv hs =>
    Calls.mono (used_walk bm es clock fb fo nb no n c g w hb hst h0 h3 hv hs) fun e w' ⟨he, hw⟩ => ⟨fun s hs1 hs2 => by
      have e1 : ((lens g es.toList).map fun e => valOf e.val).sum = (s : Int) := by
        rw [← hs2]
        simp only [lens, List.map_map]
        congr 1
      rw [he, e1, wr64_small hs1], hw⟩

theorem enters382 : Go.Ev.Enters Tryz.prog 382 := enters_of Tryz.func382 (by kernel_rfl) rfl
theorem blocks382 [Go.Ev.Sg] : Go.Ev.SpecOk Tryz.prog 382 Go.Ev.sBlocks := Go.Ev.blocks_ok enters382 fun s hs w => blocks_walk s hs w

def Tryz.sorted80_ren : Go.Shelf.Ren := ⟨fun | 6 => 80 | 8 => 142 | 9 => 32 | 11 => 230 | 13 => 55 | 12 => 54 | 23 => 95 | 24 => 96 | 14 => 86 | 15 => 87 | 16 => 88 | 17 => 89 | 18 => 90 | 19 => 91 | 20 => 92 | 21 => 93 | 22 => 94 | 25 => 148 | 26 => 149 | 27 => 150 | 28 => 151 | 29 => 152 | 30 => 153 | 31 => 234 | n => n, fun | 26 => 9 | 28 => 169 | 24 => 48 | 0 => 0 | 3 => 3 | 37 => 135 | 48 => 184 | 50 => 26 | 4 => 4 | 40 => 177 | 39 => 176 | 45 => 122 | 5 => 5 | 9 => 9 | 51 => 230 | 55 => 234 | 57 => 306 | 58 => 307 | 33 => 166 | n => n, fun | n => n⟩
theorem Tryz.sorted80 : Go.Proofs.SlLaysZ.n6 Tryz.prog Tryz.sorted80_ren := {mixed := by kernel_rfl, f6 := ⟨Tryz.f80.name, by decide, Tryz.func80.trans (congrArg some (by kernel_rfl))⟩, f8 := ⟨Tryz.f142.name, by decide, Tryz.func142.trans (congrArg some (by kernel_rfl))⟩, f11 := ⟨Tryz.f230.name, by decide, Tryz.func230.trans (congrArg some (by kernel_rfl))⟩, t0 := Tryz.underlying0, a0 := Tryz.isAgg0, z0 := Tryz.sizeOf0, v0 := Tryz.zeroValue0, t24 := Tryz.underlying48, a24 := Tryz.isAgg48, z24 := Tryz.sizeOf48, v24 := Tryz.zeroValue48, t26 := Tryz.underlying9, a26 := Tryz.isAgg9, z26 := Tryz.sizeOf9, v26 := Tryz.zeroValue9, t28 := Tryz.underlying169, a28 := Tryz.isAgg169, z28 := Tryz.sizeOf169, v28 := Tryz.zeroValue169, i26 := by kernel_rfl}
def Tryz.sort32_ren : Go.Shelf.Ren := ⟨fun | 6 => 32 | 8 => 55 | 9 => 54 | 19 => 95 | 20 => 96 | 21 => 86 | 22 => 87 | 23 => 88 | 24 => 89 | 25 => 90 | 26 => 91 | 27 => 92 | 28 => 93 | 29 => 94 | 36 => 148 | 31 => 149 | 32 => 150 | 37 => 151 | 38 => 152 | 39 => 153 | 41 => 234 | n => n, fun | 27 => 48 | 29 => 9 | 3 => 3 | 32 => 135 | 26 => 48 | 0 => 0 | 44 => 184 | 46 => 26 | 4 => 4 | 36 => 177 | 35 => 176 | 41 => 122 | 5 => 5 | 9 => 9 | 53 => 230 | 57 => 234 | 63 => 306 | 64 => 307 | n => n, fun | n => n⟩
theorem Tryz.sort32 : Go.Proofs.SlLaysM.n6 Tryz.prog Tryz.sort32_ren := {mixed := by kernel_rfl, f6 := ⟨Tryz.f32.name, by decide, Tryz.func32.trans (congrArg some (by kernel_rfl))⟩, f8 := Tryz.func55.trans (congrArg some (by kernel_rfl)), f9 := ⟨Tryz.f54.name, by decide, Tryz.func54.trans (congrArg some (by kernel_rfl))⟩, f19 := Tryz.func95.trans (congrArg some (by kernel_rfl)), f20 := Tryz.func96.trans (congrArg some (by kernel_rfl)), f21 := ⟨Tryz.f86.name, by decide, Tryz.func86.trans (congrArg some (by kernel_rfl))⟩, f22 := ⟨Tryz.f87.name, by decide, Tryz.func87.trans (congrArg some (by kernel_rfl))⟩, f23 := ⟨Tryz.f88.name, by decide, Tryz.func88.trans (congrArg some (by kernel_rfl))⟩, f24 := ⟨Tryz.f89.name, by decide, Tryz.func89.trans (congrArg some (by kernel_rfl))⟩, f25 := ⟨Tryz.f90.name, by decide, Tryz.func90.trans (congrArg some (by kernel_rfl))⟩, f26 := ⟨Tryz.f91.name, by decide, Tryz.func91.trans (congrArg some (by kernel_rfl))⟩, f27 := ⟨Tryz.f92.name, by decide, Tryz.func92.trans (congrArg some (by kernel_rfl))⟩, f28 := ⟨Tryz.f93.name, by decide, Tryz.func93.trans (congrArg some (by kernel_rfl))⟩, f29 := ⟨Tryz.f94.name, by decide, Tryz.func94.trans (congrArg some (by kernel_rfl))⟩, f31 := Tryz.func149.trans (congrArg some (by kernel_rfl)), f32 := Tryz.func150.trans (congrArg some (by kernel_rfl)), f36 := ⟨Tryz.f148.name, by decide, Tryz.func148.trans (congrArg some (by kernel_rfl))⟩, f37 := ⟨Tryz.f151.name, by decide, Tryz.func151.trans (congrArg some (by kernel_rfl))⟩, f38 := ⟨Tryz.f152.name, by decide, Tryz.func152.trans (congrArg some (by kernel_rfl))⟩, f39 := ⟨Tryz.f153.name, by decide, Tryz.func153.trans (congrArg some (by kernel_rfl))⟩, f41 := ⟨Tryz.f234.name, by decide, Tryz.func234.trans (congrArg some (by kernel_rfl))⟩, t0 := Tryz.underlying0, a0 := Tryz.isAgg0, z0 := Tryz.sizeOf0, v0 := Tryz.zeroValue0, t3 := Tryz.underlying3, a3 := Tryz.isAgg3, z3 := Tryz.sizeOf3, v3 := Tryz.zeroValue3, t4 := Tryz.underlying4, a4 := Tryz.isAgg4, z4 := Tryz.sizeOf4, v4 := Tryz.zeroValue4, t5 := Tryz.underlying5, a5 := Tryz.isAgg5, z5 := Tryz.sizeOf5, v5 := Tryz.zeroValue5, t9 := Tryz.underlying9, a9 := Tryz.isAgg9, z9 := Tryz.sizeOf9, v9 := Tryz.zeroValue9, t26 := Tryz.underlying48, a26 := Tryz.isAgg48, z26 := Tryz.sizeOf48, v26 := Tryz.zeroValue48, t27 := Tryz.underlying48, a27 := Tryz.isAgg48, z27 := Tryz.sizeOf48, v27 := Tryz.zeroValue48, t29 := Tryz.underlying9, a29 := Tryz.isAgg9, z29 := Tryz.sizeOf9, v29 := Tryz.zeroValue9, t32 := Tryz.underlying135, a32 := Tryz.isAgg135, z32 := Tryz.sizeOf135, v32 := Tryz.zeroValue135, t35 := Tryz.underlying176, a35 := Tryz.isAgg176, z35 := Tryz.sizeOf176, v35 := Tryz.zeroValue176, t36 := Tryz.underlying177, a36 := Tryz.isAgg177, z36 := Tryz.sizeOf177, v36 := Tryz.zeroValue177, t41 := Tryz.underlying122, a41 := Tryz.isAgg122, z41 := Tryz.sizeOf122, v41 := Tryz.zeroValue122, t44 := Tryz.underlying184, a44 := Tryz.isAgg184, z44 := Tryz.sizeOf184, v44 := Tryz.zeroValue184, t46 := Tryz.underlying26, a46 := Tryz.isAgg26, z46 := Tryz.sizeOf26, v46 := Tryz.zeroValue26, t53 := Tryz.underlying230, a53 := Tryz.isAgg230, z53 := Tryz.sizeOf230, v53 := Tryz.zeroValue230, t57 := Tryz.underlying234, a57 := Tryz.isAgg234, z57 := Tryz.sizeOf234, v57 := Tryz.zeroValue234, t63 := Tryz.underlying306, a63 := Tryz.isAgg306, z63 := Tryz.sizeOf306, v63 := Tryz.zeroValue306, t64 := Tryz.underlying307, a64 := Tryz.isAgg307, z64 := Tryz.sizeOf307, v64 := Tryz.zeroValue307}
theorem enters80 : Go.Ev.Enters Tryz.prog 80 := enters_of Tryz.func80 (by kernel_rfl) rfl
theorem Tryz.sorts (m : Nat) : AnyZ.SortsIn Tryz.prog Tryz.sorted80_ren Fence.wide m :=
  ⟨fun blk off cap ss W hH hblk hsz => callsIn_wide.2 (AnyM.slices_Sort_string Tryz.sort32 blk off cap ss W hH hblk hsz),
   fun p cap W => callsIn_wide.2 (AnyM.slices_Sort_string_none Tryz.sort32 p cap W)⟩
theorem sizeStr : (Tryz.prog.info? 9).map (fun i => i.size) = some 1 := by kernel_rfl
theorem infoStr : ∃ i, Tryz.prog.info? 9 = some i ∧ i.size = 1 := Option.map_eq_some_iff.1 sizeStr

def Tryz.keys81_ren : Go.Shelf.Ren := ⟨fun | 7 => 81 | 10 => 143 | n => n, fun | 23 => 112 | 26 => 9 | 3 => 3 | 28 => 169 | 0 => 0 | 27 => 168 | 33 => 166 | 4 => 4 | n => n, fun | n => n⟩
theorem Tryz.keys81 : Go.Proofs.SlLaysZ.n7 Tryz.prog Tryz.keys81_ren := {mixed := by kernel_rfl, f7 := ⟨Tryz.f81.name, by decide, Tryz.func81.trans (congrArg some (by kernel_rfl))⟩, f10 := ⟨Tryz.f143.name, by decide, Tryz.func143.trans (congrArg some (by kernel_rfl))⟩, t0 := Tryz.underlying0, a0 := Tryz.isAgg0, z0 := Tryz.sizeOf0, v0 := Tryz.zeroValue0, t4 := Tryz.underlying4, a4 := Tryz.isAgg4, z4 := Tryz.sizeOf4, v4 := Tryz.zeroValue4, t23 := Tryz.underlying112, a23 := Tryz.isAgg112, z23 := Tryz.sizeOf112, v23 := Tryz.zeroValue112, t26 := Tryz.underlying9, a26 := Tryz.isAgg9, z26 := Tryz.sizeOf9, v26 := Tryz.zeroValue9, t27 := Tryz.underlying168, a27 := Tryz.isAgg168, z27 := Tryz.sizeOf168, v27 := Tryz.zeroValue168, t28 := Tryz.underlying169, a28 := Tryz.isAgg169, z28 := Tryz.sizeOf169, v28 := Tryz.zeroValue169, t33 := Tryz.underlying166, a33 := Tryz.isAgg166, z33 := Tryz.sizeOf166, v33 := Tryz.zeroValue166}
theorem enters81 : Go.Ev.Enters Tryz.prog 81 := enters_of Tryz.func81 (by kernel_rfl) rfl
theorem mkeys81 [Go.Ev.Sg] : Go.Ev.SpecOk Tryz.prog 81 (Go.Ev.sKeys 143) := Go.Ev.keys_ok (t := 112) enters81 fun mb W => (callsIn_wide (n := 5)).1 (AnyZ.keys_in Tryz.keys81 Fence.wide 5 trivial rfl mb W)
set_option maxHeartbeats 1000000 in
theorem msorted81 [Go.Ev.Sg] : Go.Ev.SpecOk Tryz.prog 80 (Go.Ev.sSorted 143 9) := by
  obtain ⟨i, hi, hi1⟩ := infoStr
  refine Go.Ev.sorted_ok Tryz.underlying9 hi hi1 enters80 fun b nn Bm D0 R w hcell hown hmax hbytes => ?_
  have hBm : Bm < w.heap.size := by
    rcases Nat.lt_or_ge Bm w.heap.size with h1 | h1
    · exact h1
    · simp [World.cell?, Array.getElem?_eq_none h1] at hcell
  have hseq : SeqGives Fence.wide 2 Tryz.prog 143 #[.pointer (some ⟨Bm, 0, none⟩)] encStr (fun ss => ss.Perm (strKeys D0)) (Maps.size D0) w :=
    AnyZ.keys_gives (ρ := Tryz.keys81_ren) { Tryz.keys81 with } Fence.wide _ trivial rfl (by omega) Bm b nn D0 w hBm hcell hown
  exact (callsIn_wide (n := 5)).1 (AnyZ.sorted_in Tryz.sorted80 Fence.wide 5 trivial trivial trivial trivial rfl (by omega) (Tryz.sorts _) (enters_of Tryz.func32 (by kernel_rfl) rfl) 143 #[.pointer (some ⟨Bm, 0, none⟩)] trivial (enters_of Tryz.func143 (by kernel_rfl) rfl) _ _ hmax hbytes _ hseq)

def Tryz.keys205_ren : Go.Shelf.Ren := ⟨fun | 7 => 205 | 10 => 281 | n => n, fun | 23 => 87 | 26 => 9 | 3 => 92 | 28 => 169 | 0 => 0 | 27 => 168 | 33 => 166 | 4 => 4 | n => n, fun | n => n⟩
theorem Tryz.keys205 : Go.Proofs.SlLaysZ.n7 Tryz.prog Tryz.keys205_ren := {mixed := by kernel_rfl, f7 := ⟨Tryz.f205.name, by decide, Tryz.func205.trans (congrArg some (by kernel_rfl))⟩, f10 := ⟨Tryz.f281.name, by decide, Tryz.func281.trans (congrArg some (by kernel_rfl))⟩, t0 := Tryz.underlying0, a0 := Tryz.isAgg0, z0 := Tryz.sizeOf0, v0 := Tryz.zeroValue0, t4 := Tryz.underlying4, a4 := Tryz.isAgg4, z4 := Tryz.sizeOf4, v4 := Tryz.zeroValue4, t23 := Tryz.underlying87, a23 := Tryz.isAgg87, z23 := Tryz.sizeOf87, v23 := Tryz.zeroValue87, t26 := Tryz.underlying9, a26 := Tryz.isAgg9, z26 := Tryz.sizeOf9, v26 := Tryz.zeroValue9, t27 := Tryz.underlying168, a27 := Tryz.isAgg168, z27 := Tryz.sizeOf168, v27 := Tryz.zeroValue168, t28 := Tryz.underlying169, a28 := Tryz.isAgg169, z28 := Tryz.sizeOf169, v28 := Tryz.zeroValue169, t33 := Tryz.underlying166, a33 := Tryz.isAgg166, z33 := Tryz.sizeOf166, v33 := Tryz.zeroValue166}
theorem enters205 : Go.Ev.Enters Tryz.prog 205 := enters_of Tryz.func205 (by kernel_rfl) rfl
theorem mkeys205 [Go.Ev.Sg] : Go.Ev.SpecOk Tryz.prog 205 (Go.Ev.sKeys 281) := Go.Ev.keys_ok (t := 87) enters205 fun mb W => (callsIn_wide (n := 5)).1 (AnyZ.keys_in Tryz.keys205 Fence.wide 5 trivial rfl mb W)
set_option maxHeartbeats 1000000 in
theorem msorted205 [Go.Ev.Sg] : Go.Ev.SpecOk Tryz.prog 80 (Go.Ev.sSorted 281 9) := by
  obtain ⟨i, hi, hi1⟩ := infoStr
  refine Go.Ev.sorted_ok Tryz.underlying9 hi hi1 enters80 fun b nn Bm D0 R w hcell hown hmax hbytes => ?_
  have hBm : Bm < w.heap.size := by
    rcases Nat.lt_or_ge Bm w.heap.size with h1 | h1
    · exact h1
    · simp [World.cell?, Array.getElem?_eq_none h1] at hcell
  have hseq : SeqGives Fence.wide 2 Tryz.prog 281 #[.pointer (some ⟨Bm, 0, none⟩)] encStr (fun ss => ss.Perm (strKeys D0)) (Maps.size D0) w :=
    AnyZ.keys_gives (ρ := Tryz.keys205_ren) { Tryz.keys205 with } Fence.wide _ trivial rfl (by omega) Bm b nn D0 w hBm hcell hown
  exact (callsIn_wide (n := 5)).1 (AnyZ.sorted_in Tryz.sorted80 Fence.wide 5 trivial trivial trivial trivial rfl (by omega) (Tryz.sorts _) (enters_of Tryz.func32 (by kernel_rfl) rfl) 281 #[.pointer (some ⟨Bm, 0, none⟩)] trivial (enters_of Tryz.func281 (by kernel_rfl) rfl) _ _ hmax hbytes _ hseq)

def Tryz.keys312_ren : Go.Shelf.Ren := ⟨fun | 7 => 312 | 10 => 363 | n => n, fun | 23 => 267 | 26 => 9 | 3 => 200 | 28 => 169 | 0 => 0 | 27 => 168 | 33 => 166 | 4 => 4 | n => n, fun | n => n⟩
theorem Tryz.keys312 : Go.Proofs.SlLaysZ.n7 Tryz.prog Tryz.keys312_ren := {mixed := by kernel_rfl, f7 := ⟨Tryz.f312.name, by decide, Tryz.func312.trans (congrArg some (by kernel_rfl))⟩, f10 := ⟨Tryz.f363.name, by decide, Tryz.func363.trans (congrArg some (by kernel_rfl))⟩, t0 := Tryz.underlying0, a0 := Tryz.isAgg0, z0 := Tryz.sizeOf0, v0 := Tryz.zeroValue0, t4 := Tryz.underlying4, a4 := Tryz.isAgg4, z4 := Tryz.sizeOf4, v4 := Tryz.zeroValue4, t23 := Tryz.underlying267, a23 := Tryz.isAgg267, z23 := Tryz.sizeOf267, v23 := Tryz.zeroValue267, t26 := Tryz.underlying9, a26 := Tryz.isAgg9, z26 := Tryz.sizeOf9, v26 := Tryz.zeroValue9, t27 := Tryz.underlying168, a27 := Tryz.isAgg168, z27 := Tryz.sizeOf168, v27 := Tryz.zeroValue168, t28 := Tryz.underlying169, a28 := Tryz.isAgg169, z28 := Tryz.sizeOf169, v28 := Tryz.zeroValue169, t33 := Tryz.underlying166, a33 := Tryz.isAgg166, z33 := Tryz.sizeOf166, v33 := Tryz.zeroValue166}
theorem enters312 : Go.Ev.Enters Tryz.prog 312 := enters_of Tryz.func312 (by kernel_rfl) rfl
theorem mkeys312 [Go.Ev.Sg] : Go.Ev.SpecOk Tryz.prog 312 (Go.Ev.sKeys 363) := Go.Ev.keys_ok (t := 267) enters312 fun mb W => (callsIn_wide (n := 5)).1 (AnyZ.keys_in Tryz.keys312 Fence.wide 5 trivial rfl mb W)
set_option maxHeartbeats 1000000 in
theorem msorted312 [Go.Ev.Sg] : Go.Ev.SpecOk Tryz.prog 80 (Go.Ev.sSorted 363 9) := by
  obtain ⟨i, hi, hi1⟩ := infoStr
  refine Go.Ev.sorted_ok Tryz.underlying9 hi hi1 enters80 fun b nn Bm D0 R w hcell hown hmax hbytes => ?_
  have hBm : Bm < w.heap.size := by
    rcases Nat.lt_or_ge Bm w.heap.size with h1 | h1
    · exact h1
    · simp [World.cell?, Array.getElem?_eq_none h1] at hcell
  have hseq : SeqGives Fence.wide 2 Tryz.prog 363 #[.pointer (some ⟨Bm, 0, none⟩)] encStr (fun ss => ss.Perm (strKeys D0)) (Maps.size D0) w :=
    AnyZ.keys_gives (ρ := Tryz.keys312_ren) { Tryz.keys312 with } Fence.wide _ trivial rfl (by omega) Bm b nn D0 w hBm hcell hown
  exact (callsIn_wide (n := 5)).1 (AnyZ.sorted_in Tryz.sorted80 Fence.wide 5 trivial trivial trivial trivial rfl (by omega) (Tryz.sorts _) (enters_of Tryz.func32 (by kernel_rfl) rfl) 363 #[.pointer (some ⟨Bm, 0, none⟩)] trivial (enters_of Tryz.func363 (by kernel_rfl) rfl) _ _ hmax hbytes _ hseq)

def Tryz.keys343_ren : Go.Shelf.Ren := ⟨fun | 7 => 343 | 10 => 379 | n => n, fun | 23 => 352 | 26 => 9 | 3 => 4 | 28 => 169 | 0 => 0 | 27 => 168 | 33 => 166 | 4 => 4 | n => n, fun | n => n⟩
theorem Tryz.keys343 : Go.Proofs.SlLaysZ.n7 Tryz.prog Tryz.keys343_ren := {mixed := by kernel_rfl, f7 := ⟨Tryz.f343.name, by decide, Tryz.func343.trans (congrArg some (by kernel_rfl))⟩, f10 := ⟨Tryz.f379.name, by decide, Tryz.func379.trans (congrArg some (by kernel_rfl))⟩, t0 := Tryz.underlying0, a0 := Tryz.isAgg0, z0 := Tryz.sizeOf0, v0 := Tryz.zeroValue0, t4 := Tryz.underlying4, a4 := Tryz.isAgg4, z4 := Tryz.sizeOf4, v4 := Tryz.zeroValue4, t23 := Tryz.underlying352, a23 := Tryz.isAgg352, z23 := Tryz.sizeOf352, v23 := Tryz.zeroValue352, t26 := Tryz.underlying9, a26 := Tryz.isAgg9, z26 := Tryz.sizeOf9, v26 := Tryz.zeroValue9, t27 := Tryz.underlying168, a27 := Tryz.isAgg168, z27 := Tryz.sizeOf168, v27 := Tryz.zeroValue168, t28 := Tryz.underlying169, a28 := Tryz.isAgg169, z28 := Tryz.sizeOf169, v28 := Tryz.zeroValue169, t33 := Tryz.underlying166, a33 := Tryz.isAgg166, z33 := Tryz.sizeOf166, v33 := Tryz.zeroValue166}
theorem enters343 : Go.Ev.Enters Tryz.prog 343 := enters_of Tryz.func343 (by kernel_rfl) rfl
theorem mkeys343 [Go.Ev.Sg] : Go.Ev.SpecOk Tryz.prog 343 (Go.Ev.sKeys 379) := Go.Ev.keys_ok (t := 352) enters343 fun mb W => (callsIn_wide (n := 5)).1 (AnyZ.keys_in Tryz.keys343 Fence.wide 5 trivial rfl mb W)
set_option maxHeartbeats 1000000 in
theorem msorted343 [Go.Ev.Sg] : Go.Ev.SpecOk Tryz.prog 80 (Go.Ev.sSorted 379 9) := by
  obtain ⟨i, hi, hi1⟩ := infoStr
  refine Go.Ev.sorted_ok Tryz.underlying9 hi hi1 enters80 fun b nn Bm D0 R w hcell hown hmax hbytes => ?_
  have hBm : Bm < w.heap.size := by
    rcases Nat.lt_or_ge Bm w.heap.size with h1 | h1
    · exact h1
    · simp [World.cell?, Array.getElem?_eq_none h1] at hcell
  have hseq : SeqGives Fence.wide 2 Tryz.prog 379 #[.pointer (some ⟨Bm, 0, none⟩)] encStr (fun ss => ss.Perm (strKeys D0)) (Maps.size D0) w :=
    AnyZ.keys_gives (ρ := Tryz.keys343_ren) { Tryz.keys343 with } Fence.wide _ trivial rfl (by omega) Bm b nn D0 w hBm hcell hown
  exact (callsIn_wide (n := 5)).1 (AnyZ.sorted_in Tryz.sorted80 Fence.wide 5 trivial trivial trivial trivial rfl (by omega) (Tryz.sorts _) (enters_of Tryz.func32 (by kernel_rfl) rfl) 379 #[.pointer (some ⟨Bm, 0, none⟩)] trivial (enters_of Tryz.func379 (by kernel_rfl) rfl) _ _ hmax hbytes _ hseq)

def Tryz.sorted314_ren : Go.Shelf.Ren := ⟨fun | 6 => 314 | 8 => 364 | 9 => 365 | 11 => 394 | 13 => 55 | 12 => 395 | 23 => 95 | 24 => 96 | 14 => 415 | 15 => 416 | 16 => 417 | 17 => 418 | 18 => 419 | 19 => 420 | 20 => 421 | 21 => 422 | 22 => 423 | 25 => 433 | 26 => 149 | 27 => 150 | 28 => 434 | 29 => 435 | 30 => 436 | 31 => 442 | n => n, fun | 26 => 3 | 28 => 384 | 24 => 359 | 0 => 0 | 3 => 3 | 37 => 135 | 48 => 184 | 50 => 26 | 4 => 4 | 40 => 177 | 39 => 176 | 45 => 122 | 5 => 5 | 9 => 9 | 51 => 230 | 55 => 234 | 57 => 306 | 58 => 307 | 33 => 195 | n => n, fun | n => n⟩
theorem Tryz.sorted314 : Go.Proofs.SlLaysZI.n6 Tryz.prog Tryz.sorted314_ren := {mixed := by kernel_rfl, f6 := ⟨Tryz.f314.name, by decide, Tryz.func314.trans (congrArg some (by kernel_rfl))⟩, f8 := ⟨Tryz.f364.name, by decide, Tryz.func364.trans (congrArg some (by kernel_rfl))⟩, f11 := ⟨Tryz.f394.name, by decide, Tryz.func394.trans (congrArg some (by kernel_rfl))⟩, t0 := Tryz.underlying0, a0 := Tryz.isAgg0, z0 := Tryz.sizeOf0, v0 := Tryz.zeroValue0, t24 := Tryz.underlying359, a24 := Tryz.isAgg359, z24 := Tryz.sizeOf359, v24 := Tryz.zeroValue359, t26 := Tryz.underlying3, a26 := Tryz.isAgg3, z26 := Tryz.sizeOf3, v26 := Tryz.zeroValue3, t28 := Tryz.underlying384, a28 := Tryz.isAgg384, z28 := Tryz.sizeOf384, v28 := Tryz.zeroValue384, i26 := by kernel_rfl}
def Tryz.sort365_ren : Go.Shelf.Ren := ⟨fun | 5 => 365 | 8 => 55 | 7 => 395 | 19 => 95 | 20 => 96 | 10 => 415 | 11 => 416 | 12 => 417 | 13 => 418 | 14 => 419 | 15 => 420 | 16 => 421 | 17 => 422 | 18 => 423 | 30 => 433 | 31 => 149 | 32 => 150 | 33 => 434 | 34 => 435 | 35 => 436 | 40 => 442 | n => n, fun | 23 => 359 | 25 => 3 | 3 => 3 | 32 => 135 | 22 => 359 | 0 => 0 | 44 => 184 | 46 => 26 | 4 => 4 | 36 => 177 | 35 => 176 | 41 => 122 | 5 => 5 | 9 => 9 | 53 => 230 | 57 => 234 | 63 => 306 | 64 => 307 | n => n, fun | n => n⟩
theorem Tryz.sort365 : Go.Proofs.SlLaysM.n5 Tryz.prog Tryz.sort365_ren := {mixed := by kernel_rfl, f5 := ⟨Tryz.f365.name, by decide, Tryz.func365.trans (congrArg some (by kernel_rfl))⟩, f7 := ⟨Tryz.f395.name, by decide, Tryz.func395.trans (congrArg some (by kernel_rfl))⟩, f8 := Tryz.func55.trans (congrArg some (by kernel_rfl)), f10 := ⟨Tryz.f415.name, by decide, Tryz.func415.trans (congrArg some (by kernel_rfl))⟩, f11 := ⟨Tryz.f416.name, by decide, Tryz.func416.trans (congrArg some (by kernel_rfl))⟩, f12 := ⟨Tryz.f417.name, by decide, Tryz.func417.trans (congrArg some (by kernel_rfl))⟩, f13 := ⟨Tryz.f418.name, by decide, Tryz.func418.trans (congrArg some (by kernel_rfl))⟩, f14 := ⟨Tryz.f419.name, by decide, Tryz.func419.trans (congrArg some (by kernel_rfl))⟩, f15 := ⟨Tryz.f420.name, by decide, Tryz.func420.trans (congrArg some (by kernel_rfl))⟩, f16 := ⟨Tryz.f421.name, by decide, Tryz.func421.trans (congrArg some (by kernel_rfl))⟩, f17 := ⟨Tryz.f422.name, by decide, Tryz.func422.trans (congrArg some (by kernel_rfl))⟩, f18 := ⟨Tryz.f423.name, by decide, Tryz.func423.trans (congrArg some (by kernel_rfl))⟩, f19 := Tryz.func95.trans (congrArg some (by kernel_rfl)), f20 := Tryz.func96.trans (congrArg some (by kernel_rfl)), f30 := ⟨Tryz.f433.name, by decide, Tryz.func433.trans (congrArg some (by kernel_rfl))⟩, f31 := Tryz.func149.trans (congrArg some (by kernel_rfl)), f32 := Tryz.func150.trans (congrArg some (by kernel_rfl)), f33 := ⟨Tryz.f434.name, by decide, Tryz.func434.trans (congrArg some (by kernel_rfl))⟩, f34 := ⟨Tryz.f435.name, by decide, Tryz.func435.trans (congrArg some (by kernel_rfl))⟩, f35 := ⟨Tryz.f436.name, by decide, Tryz.func436.trans (congrArg some (by kernel_rfl))⟩, f40 := ⟨Tryz.f442.name, by decide, Tryz.func442.trans (congrArg some (by kernel_rfl))⟩, t0 := Tryz.underlying0, a0 := Tryz.isAgg0, z0 := Tryz.sizeOf0, v0 := Tryz.zeroValue0, t3 := Tryz.underlying3, a3 := Tryz.isAgg3, z3 := Tryz.sizeOf3, v3 := Tryz.zeroValue3, t4 := Tryz.underlying4, a4 := Tryz.isAgg4, z4 := Tryz.sizeOf4, v4 := Tryz.zeroValue4, t5 := Tryz.underlying5, a5 := Tryz.isAgg5, z5 := Tryz.sizeOf5, v5 := Tryz.zeroValue5, t9 := Tryz.underlying9, a9 := Tryz.isAgg9, z9 := Tryz.sizeOf9, v9 := Tryz.zeroValue9, t22 := Tryz.underlying359, a22 := Tryz.isAgg359, z22 := Tryz.sizeOf359, v22 := Tryz.zeroValue359, t23 := Tryz.underlying359, a23 := Tryz.isAgg359, z23 := Tryz.sizeOf359, v23 := Tryz.zeroValue359, t25 := Tryz.underlying3, a25 := Tryz.isAgg3, z25 := Tryz.sizeOf3, v25 := Tryz.zeroValue3, t32 := Tryz.underlying135, a32 := Tryz.isAgg135, z32 := Tryz.sizeOf135, v32 := Tryz.zeroValue135, t35 := Tryz.underlying176, a35 := Tryz.isAgg176, z35 := Tryz.sizeOf176, v35 := Tryz.zeroValue176, t36 := Tryz.underlying177, a36 := Tryz.isAgg177, z36 := Tryz.sizeOf177, v36 := Tryz.zeroValue177, t41 := Tryz.underlying122, a41 := Tryz.isAgg122, z41 := Tryz.sizeOf122, v41 := Tryz.zeroValue122, t44 := Tryz.underlying184, a44 := Tryz.isAgg184, z44 := Tryz.sizeOf184, v44 := Tryz.zeroValue184, t46 := Tryz.underlying26, a46 := Tryz.isAgg26, z46 := Tryz.sizeOf26, v46 := Tryz.zeroValue26, t53 := Tryz.underlying230, a53 := Tryz.isAgg230, z53 := Tryz.sizeOf230, v53 := Tryz.zeroValue230, t57 := Tryz.underlying234, a57 := Tryz.isAgg234, z57 := Tryz.sizeOf234, v57 := Tryz.zeroValue234, t63 := Tryz.underlying306, a63 := Tryz.isAgg306, z63 := Tryz.sizeOf306, v63 := Tryz.zeroValue306, t64 := Tryz.underlying307, a64 := Tryz.isAgg307, z64 := Tryz.sizeOf307, v64 := Tryz.zeroValue307}
theorem enters314 : Go.Ev.Enters Tryz.prog 314 := enters_of Tryz.func314 (by kernel_rfl) rfl
theorem Tryz.sortsI (m : Nat) : AnyZI.SortsIn Tryz.prog Tryz.sorted314_ren Fence.wide m :=
  ⟨fun blk off cap ss W hH hblk hsz => callsIn_wide.2 (AnyM.slices_Sort_int Tryz.sort365 blk off cap ss W hH hblk hsz),
   fun p cap W => callsIn_wide.2 (AnyM.slices_Sort_int_none Tryz.sort365 p cap W)⟩
theorem sizeInt : (Tryz.prog.info? 3).map (fun i => i.size) = some 1 := by kernel_rfl
theorem infoInt : ∃ i, Tryz.prog.info? 3 = some i ∧ i.size = 1 := Option.map_eq_some_iff.1 sizeInt

def Tryz.keys315_ren : Go.Shelf.Ren := ⟨fun | 7 => 315 | 10 => 366 | n => n, fun | 23 => 104 | 26 => 3 | 3 => 9 | 28 => 384 | 0 => 0 | 27 => 383 | 33 => 195 | 4 => 4 | n => n, fun | n => n⟩
theorem Tryz.keys315 : Go.Proofs.SlLaysZI.n7 Tryz.prog Tryz.keys315_ren := {mixed := by kernel_rfl, f7 := ⟨Tryz.f315.name, by decide, Tryz.func315.trans (congrArg some (by kernel_rfl))⟩, f10 := ⟨Tryz.f366.name, by decide, Tryz.func366.trans (congrArg some (by kernel_rfl))⟩, t0 := Tryz.underlying0, a0 := Tryz.isAgg0, z0 := Tryz.sizeOf0, v0 := Tryz.zeroValue0, t4 := Tryz.underlying4, a4 := Tryz.isAgg4, z4 := Tryz.sizeOf4, v4 := Tryz.zeroValue4, t23 := Tryz.underlying104, a23 := Tryz.isAgg104, z23 := Tryz.sizeOf104, v23 := Tryz.zeroValue104, t26 := Tryz.underlying3, a26 := Tryz.isAgg3, z26 := Tryz.sizeOf3, v26 := Tryz.zeroValue3, t27 := Tryz.underlying383, a27 := Tryz.isAgg383, z27 := Tryz.sizeOf383, v27 := Tryz.zeroValue383, t28 := Tryz.underlying384, a28 := Tryz.isAgg384, z28 := Tryz.sizeOf384, v28 := Tryz.zeroValue384, t33 := Tryz.underlying195, a33 := Tryz.isAgg195, z33 := Tryz.sizeOf195, v33 := Tryz.zeroValue195}
theorem enters315 : Go.Ev.Enters Tryz.prog 315 := enters_of Tryz.func315 (by kernel_rfl) rfl
theorem mkeys315 [Go.Ev.Sg] : Go.Ev.SpecOk Tryz.prog 315 (Go.Ev.sKeys 366) := Go.Ev.keys_ok (t := 104) enters315 fun mb W => (callsIn_wide (n := 5)).1 (AnyZI.keys_in Tryz.keys315 Fence.wide 5 trivial rfl mb W)
set_option maxHeartbeats 1000000 in
theorem msorted315 [Go.Ev.Sg] : Go.Ev.SpecOk Tryz.prog 314 (Go.Ev.sSortedI 366 3) := by
  obtain ⟨i, hi, hi1⟩ := infoInt
  refine Go.Ev.sortedI_ok Tryz.underlying3 hi hi1 enters314 fun b nn Bm D0 R w hcell hown hmax hbytes => ?_
  have hBm : Bm < w.heap.size := by
    rcases Nat.lt_or_ge Bm w.heap.size with h1 | h1
    · exact h1
    · simp [World.cell?, Array.getElem?_eq_none h1] at hcell
  have hseq : SeqGives Fence.wide 2 Tryz.prog 366 #[.pointer (some ⟨Bm, 0, none⟩)] encZ (fun ss => ss.Perm (intKeys D0)) (Maps.size D0) w :=
    AnyZI.keys_gives (ρ := Tryz.keys315_ren) { Tryz.keys315 with } Fence.wide _ trivial rfl (by omega) Bm b nn D0 w hBm hcell hown
  exact (callsIn_wide (n := 5)).1 (AnyZI.sorted_in Tryz.sorted314 Fence.wide 5 trivial trivial trivial trivial rfl (by omega) (Tryz.sortsI _) (enters_of Tryz.func365 (by kernel_rfl) rfl) 366 #[.pointer (some ⟨Bm, 0, none⟩)] trivial (enters_of Tryz.func366 (by kernel_rfl) rfl) _ _ hmax hbytes _ hseq)

theorem ext171 : Go.Ev.Ext Tryz.prog 171 Extern.MapsClone.clone := ⟨Tryz.f171, Tryz.func171, by decide, rfl, by kernel_rfl, by kernel_rfl⟩
theorem ext227 : Go.Ev.Ext Tryz.prog 227 Extern.BytealgCompare.compare := ⟨Tryz.f227, Tryz.func227, by decide, rfl, by kernel_rfl, by kernel_rfl⟩
theorem ext377 : Go.Ev.Ext Tryz.prog 377 Extern.AbiNoEscape.same := ⟨Tryz.f377, Tryz.func377, by decide, rfl, by kernel_rfl, by kernel_rfl⟩
theorem ext233 : Go.Ev.Ext Tryz.prog 233 Extern.BytealgIndexByte.indexByte := ⟨Tryz.f233, Tryz.func233, by decide, rfl, by kernel_rfl, by kernel_rfl⟩
theorem ext358 : Go.Ev.Ext Tryz.prog 358 Extern.BytealgCount.count := ⟨Tryz.f358, Tryz.func358, by decide, rfl, by kernel_rfl, by kernel_rfl⟩
end Go.Proofs
