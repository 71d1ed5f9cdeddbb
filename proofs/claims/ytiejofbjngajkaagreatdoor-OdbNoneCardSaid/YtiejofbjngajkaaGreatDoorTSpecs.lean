/- The contracts of this seat's functions. -/
import Derived.Test.YtiejofbjngajkaaGreatDoorEvSorted
import Derived.Test.YtiejofbjngajkaaGreatDoorEvSpecs
import Derived.Test.YtiejofbjngajkaaGreatDoorTWalks
import Derived.Test.YtiejofbjngajkaaGreatDoorTUsed
import Derived.Test.YtiejofbjngajkaaGreatDoorTBlocks
import Derived.Shelf.SlIter.Nil
import Derived.Shelf.SortM.Plain
import Derived.Shelf.SortM.SortNone
import Derived.Shelf.Strings.Prefix
import Derived.KernelRfl
import Derived.Test.YtiejofbjngajkaaGreatDoorProg
/-! The contracts of this seat's functions. -/
namespace Go.Proofs
open Go.RowKit Go.Maps Go.Sort Go.Shelf

def Tryz.keys51_ren : Go.Shelf.Ren := ⟨fun | 7 => 51 | 10 => 103 | n => n, fun | 23 => 44 | 26 => 9 | 3 => 49 | 28 => 96 | 0 => 0 | 27 => 95 | 33 => 38 | 4 => 4 | n => n, fun | n => n⟩
theorem Tryz.keys51 : Go.Proofs.SlLaysZ.n7 Tryz.prog Tryz.keys51_ren := {mixed := by kernel_rfl, f7 := ⟨Tryz.f51.name, by decide, Tryz.func51.trans (congrArg some (by kernel_rfl))⟩, f10 := ⟨Tryz.f103.name, by decide, Tryz.func103.trans (congrArg some (by kernel_rfl))⟩, t0 := Tryz.underlying0, a0 := Tryz.isAgg0, z0 := Tryz.sizeOf0, v0 := Tryz.zeroValue0, t4 := Tryz.underlying4, a4 := Tryz.isAgg4, z4 := Tryz.sizeOf4, v4 := Tryz.zeroValue4, t23 := Tryz.underlying44, a23 := Tryz.isAgg44, z23 := Tryz.sizeOf44, v23 := Tryz.zeroValue44, t26 := Tryz.underlying9, a26 := Tryz.isAgg9, z26 := Tryz.sizeOf9, v26 := Tryz.zeroValue9, t27 := Tryz.underlying95, a27 := Tryz.isAgg95, z27 := Tryz.sizeOf95, v27 := Tryz.zeroValue95, t28 := Tryz.underlying96, a28 := Tryz.isAgg96, z28 := Tryz.sizeOf96, v28 := Tryz.zeroValue96, t33 := Tryz.underlying38, a33 := Tryz.isAgg38, z33 := Tryz.sizeOf38, v33 := Tryz.zeroValue38}
def Tryz.keys88_ren : Go.Shelf.Ren := ⟨fun | 7 => 88 | 10 => 146 | n => n, fun | 23 => 66 | 26 => 9 | 3 => 3 | 28 => 96 | 0 => 0 | 27 => 95 | 33 => 38 | 4 => 4 | n => n, fun | n => n⟩
theorem Tryz.keys88 : Go.Proofs.SlLaysZ.n7 Tryz.prog Tryz.keys88_ren := {mixed := by kernel_rfl, f7 := ⟨Tryz.f88.name, by decide, Tryz.func88.trans (congrArg some (by kernel_rfl))⟩, f10 := ⟨Tryz.f146.name, by decide, Tryz.func146.trans (congrArg some (by kernel_rfl))⟩, t0 := Tryz.underlying0, a0 := Tryz.isAgg0, z0 := Tryz.sizeOf0, v0 := Tryz.zeroValue0, t4 := Tryz.underlying4, a4 := Tryz.isAgg4, z4 := Tryz.sizeOf4, v4 := Tryz.zeroValue4, t23 := Tryz.underlying66, a23 := Tryz.isAgg66, z23 := Tryz.sizeOf66, v23 := Tryz.zeroValue66, t26 := Tryz.underlying9, a26 := Tryz.isAgg9, z26 := Tryz.sizeOf9, v26 := Tryz.zeroValue9, t27 := Tryz.underlying95, a27 := Tryz.isAgg95, z27 := Tryz.sizeOf95, v27 := Tryz.zeroValue95, t28 := Tryz.underlying96, a28 := Tryz.isAgg96, z28 := Tryz.sizeOf96, v28 := Tryz.zeroValue96, t33 := Tryz.underlying38, a33 := Tryz.isAgg38, z33 := Tryz.sizeOf38, v33 := Tryz.zeroValue38}
def Tryz.sorted50_ren : Go.Shelf.Ren := ⟨fun | 6 => 50 | 8 => 102 | 9 => 48 | 11 => 168 | 13 => 101 | 12 => 100 | 23 => 166 | 24 => 167 | 14 => 157 | 15 => 158 | 16 => 159 | 17 => 160 | 18 => 161 | 19 => 162 | 20 => 163 | 21 => 164 | 22 => 165 | 25 => 197 | 26 => 198 | 27 => 199 | 28 => 200 | 29 => 201 | 30 => 202 | 31 => 226 | n => n, fun | 26 => 9 | 28 => 96 | 24 => 39 | 0 => 0 | 3 => 3 | 37 => 151 | 48 => 211 | 50 => 32 | 4 => 4 | 40 => 218 | 39 => 217 | 45 => 50 | 5 => 5 | 9 => 9 | 51 => 244 | 55 => 247 | 57 => 265 | 58 => 180 | 33 => 38 | n => n, fun | n => n⟩
theorem Tryz.sorted50 : Go.Proofs.SlLaysZ.n6 Tryz.prog Tryz.sorted50_ren := {mixed := by kernel_rfl, f6 := ⟨Tryz.f50.name, by decide, Tryz.func50.trans (congrArg some (by kernel_rfl))⟩, f8 := ⟨Tryz.f102.name, by decide, Tryz.func102.trans (congrArg some (by kernel_rfl))⟩, f11 := ⟨Tryz.f168.name, by decide, Tryz.func168.trans (congrArg some (by kernel_rfl))⟩, t0 := Tryz.underlying0, a0 := Tryz.isAgg0, z0 := Tryz.sizeOf0, v0 := Tryz.zeroValue0, t24 := Tryz.underlying39, a24 := Tryz.isAgg39, z24 := Tryz.sizeOf39, v24 := Tryz.zeroValue39, t26 := Tryz.underlying9, a26 := Tryz.isAgg9, z26 := Tryz.sizeOf9, v26 := Tryz.zeroValue9, t28 := Tryz.underlying96, a28 := Tryz.isAgg96, z28 := Tryz.sizeOf96, v28 := Tryz.zeroValue96, i26 := by kernel_rfl}
def Tryz.sort48_ren : Go.Shelf.Ren := ⟨fun | 6 => 48 | 8 => 101 | 9 => 100 | 19 => 166 | 20 => 167 | 21 => 157 | 22 => 158 | 23 => 159 | 24 => 160 | 25 => 161 | 26 => 162 | 27 => 163 | 28 => 164 | 29 => 165 | 36 => 197 | 31 => 198 | 32 => 199 | 37 => 200 | 38 => 201 | 39 => 202 | 41 => 226 | n => n, fun | 27 => 39 | 29 => 9 | 3 => 3 | 32 => 151 | 26 => 39 | 0 => 0 | 44 => 211 | 46 => 32 | 4 => 4 | 36 => 218 | 35 => 217 | 41 => 50 | 5 => 5 | 9 => 9 | 53 => 244 | 57 => 247 | 63 => 265 | 64 => 180 | n => n, fun | n => n⟩
theorem Tryz.sort48 : Go.Proofs.SlLaysM.n6 Tryz.prog Tryz.sort48_ren := {mixed := by kernel_rfl, f6 := ⟨Tryz.f48.name, by decide, Tryz.func48.trans (congrArg some (by kernel_rfl))⟩, f8 := Tryz.func101.trans (congrArg some (by kernel_rfl)), f9 := ⟨Tryz.f100.name, by decide, Tryz.func100.trans (congrArg some (by kernel_rfl))⟩, f19 := Tryz.func166.trans (congrArg some (by kernel_rfl)), f20 := Tryz.func167.trans (congrArg some (by kernel_rfl)), f21 := ⟨Tryz.f157.name, by decide, Tryz.func157.trans (congrArg some (by kernel_rfl))⟩, f22 := ⟨Tryz.f158.name, by decide, Tryz.func158.trans (congrArg some (by kernel_rfl))⟩, f23 := ⟨Tryz.f159.name, by decide, Tryz.func159.trans (congrArg some (by kernel_rfl))⟩, f24 := ⟨Tryz.f160.name, by decide, Tryz.func160.trans (congrArg some (by kernel_rfl))⟩, f25 := ⟨Tryz.f161.name, by decide, Tryz.func161.trans (congrArg some (by kernel_rfl))⟩, f26 := ⟨Tryz.f162.name, by decide, Tryz.func162.trans (congrArg some (by kernel_rfl))⟩, f27 := ⟨Tryz.f163.name, by decide, Tryz.func163.trans (congrArg some (by kernel_rfl))⟩, f28 := ⟨Tryz.f164.name, by decide, Tryz.func164.trans (congrArg some (by kernel_rfl))⟩, f29 := ⟨Tryz.f165.name, by decide, Tryz.func165.trans (congrArg some (by kernel_rfl))⟩, f31 := Tryz.func198.trans (congrArg some (by kernel_rfl)), f32 := Tryz.func199.trans (congrArg some (by kernel_rfl)), f36 := ⟨Tryz.f197.name, by decide, Tryz.func197.trans (congrArg some (by kernel_rfl))⟩, f37 := ⟨Tryz.f200.name, by decide, Tryz.func200.trans (congrArg some (by kernel_rfl))⟩, f38 := ⟨Tryz.f201.name, by decide, Tryz.func201.trans (congrArg some (by kernel_rfl))⟩, f39 := ⟨Tryz.f202.name, by decide, Tryz.func202.trans (congrArg some (by kernel_rfl))⟩, f41 := ⟨Tryz.f226.name, by decide, Tryz.func226.trans (congrArg some (by kernel_rfl))⟩, t0 := Tryz.underlying0, a0 := Tryz.isAgg0, z0 := Tryz.sizeOf0, v0 := Tryz.zeroValue0, t3 := Tryz.underlying3, a3 := Tryz.isAgg3, z3 := Tryz.sizeOf3, v3 := Tryz.zeroValue3, t4 := Tryz.underlying4, a4 := Tryz.isAgg4, z4 := Tryz.sizeOf4, v4 := Tryz.zeroValue4, t5 := Tryz.underlying5, a5 := Tryz.isAgg5, z5 := Tryz.sizeOf5, v5 := Tryz.zeroValue5, t9 := Tryz.underlying9, a9 := Tryz.isAgg9, z9 := Tryz.sizeOf9, v9 := Tryz.zeroValue9, t26 := Tryz.underlying39, a26 := Tryz.isAgg39, z26 := Tryz.sizeOf39, v26 := Tryz.zeroValue39, t27 := Tryz.underlying39, a27 := Tryz.isAgg39, z27 := Tryz.sizeOf39, v27 := Tryz.zeroValue39, t29 := Tryz.underlying9, a29 := Tryz.isAgg9, z29 := Tryz.sizeOf9, v29 := Tryz.zeroValue9, t32 := Tryz.underlying151, a32 := Tryz.isAgg151, z32 := Tryz.sizeOf151, v32 := Tryz.zeroValue151, t35 := Tryz.underlying217, a35 := Tryz.isAgg217, z35 := Tryz.sizeOf217, v35 := Tryz.zeroValue217, t36 := Tryz.underlying218, a36 := Tryz.isAgg218, z36 := Tryz.sizeOf218, v36 := Tryz.zeroValue218, t41 := Tryz.underlying50, a41 := Tryz.isAgg50, z41 := Tryz.sizeOf50, v41 := Tryz.zeroValue50, t44 := Tryz.underlying211, a44 := Tryz.isAgg211, z44 := Tryz.sizeOf211, v44 := Tryz.zeroValue211, t46 := Tryz.underlying32, a46 := Tryz.isAgg32, z46 := Tryz.sizeOf32, v46 := Tryz.zeroValue32, t53 := Tryz.underlying244, a53 := Tryz.isAgg244, z53 := Tryz.sizeOf244, v53 := Tryz.zeroValue244, t57 := Tryz.underlying247, a57 := Tryz.isAgg247, z57 := Tryz.sizeOf247, v57 := Tryz.zeroValue247, t63 := Tryz.underlying265, a63 := Tryz.isAgg265, z63 := Tryz.sizeOf265, v63 := Tryz.zeroValue265, t64 := Tryz.underlying180, a64 := Tryz.isAgg180, z64 := Tryz.sizeOf180, v64 := Tryz.zeroValue180}
def Tryz.prefix139_ren : Go.Shelf.Ren := ⟨fun | 99 => 139 | 206 => 189 | n => n, fun | 9 => 9 | 4 => 4 | 3 => 3 | n => n, fun | n => n⟩
theorem Tryz.prefix139 : Go.Proofs.Lays.n99 Tryz.prog Tryz.prefix139_ren := {mixed := by kernel_rfl, f99 := Tryz.func139.trans (congrArg some (by kernel_rfl)), f206 := Tryz.func189.trans (congrArg some (by kernel_rfl)), t3 := Tryz.underlying3, a3 := Tryz.isAgg3, z3 := Tryz.sizeOf3, v3 := Tryz.zeroValue3, t4 := Tryz.underlying4, a4 := Tryz.isAgg4, z4 := Tryz.sizeOf4, v4 := Tryz.zeroValue4, t9 := Tryz.underlying9, a9 := Tryz.isAgg9, z9 := Tryz.sizeOf9, v9 := Tryz.zeroValue9}

theorem Tryz.sorts50 (m : Nat) : AnyZ.SortsIn Tryz.prog Tryz.sorted50_ren Fence.wide m :=
  ⟨fun blk off cap ss W hH hblk hsz => callsIn_wide.2 (AnyM.slices_Sort_string Tryz.sort48 blk off cap ss W hH hblk hsz),
   fun p cap W => callsIn_wide.2 (AnyM.slices_Sort_string_none Tryz.sort48 p cap W)⟩

theorem enters79 : Go.Ev.Enters Tryz.prog 79 := enters_of Tryz.func79 (by kernel_rfl) rfl
theorem enters132 : Go.Ev.Enters Tryz.prog 132 := enters_of Tryz.func132 (by kernel_rfl) rfl
theorem enters194 : Go.Ev.Enters Tryz.prog 194 := enters_of Tryz.func194 (by kernel_rfl) rfl
theorem enters88 : Go.Ev.Enters Tryz.prog 88 := enters_of Tryz.func88 (by kernel_rfl) rfl
theorem enters51 : Go.Ev.Enters Tryz.prog 51 := enters_of Tryz.func51 (by kernel_rfl) rfl
theorem enters50 : Go.Ev.Enters Tryz.prog 50 := enters_of Tryz.func50 (by kernel_rfl) rfl

theorem kids79 : Go.Ev.SpecOk Tryz.prog 79 Go.Ev.sKids :=
  Go.Ev.kids_ok enters79 fun bm es clock p hp w hb hst hv => kids_walk (fun s p w => Any.strings_HasPrefix Tryz.prefix139 s p w) bm es clock p hp w hb hst hv

theorem wr64_small {s : Nat} (h : s ≤ 1099511627776) : wr64 (s : Int) = s := by
  unfold wr64; omega

theorem used132 : Go.Ev.SpecOk Tryz.prog 132 Go.Ev.sUsed :=
  Go.Ev.used_ok enters132 fun bm es clock fb fo nb no n c g w hb hst h0 h3 hv hs =>
    Calls.mono (used_walk bm es clock fb fo nb no n c g w hb hst h0 h3 hv hs) fun e w' ⟨he, hw⟩ => ⟨fun s hs1 hs2 => by
      have e1 : ((lens g es.toList).map fun e => valOf e.val).sum = (s : Int) := by
        rw [← hs2]
        simp only [lens, List.map_map]
        congr 1
      rw [he, e1, wr64_small hs1], hw⟩

theorem blocks194 : Go.Ev.SpecOk Tryz.prog 194 Go.Ev.sBlocks := Go.Ev.blocks_ok enters194 fun s hs w => blocks_walk s hs w

theorem keys88 : Go.Ev.SpecOk Tryz.prog 88 (Go.Ev.sKeys 146) := Go.Ev.keys_ok (t := 66) enters88 fun mb W => (callsIn_wide (n := 5)).1 (AnyZ.keys_in Tryz.keys88 Fence.wide 5 trivial rfl mb W)
theorem keys51 : Go.Ev.SpecOk Tryz.prog 51 (Go.Ev.sKeys 103) := Go.Ev.keys_ok (t := 44) enters51 fun mb W => (callsIn_wide (n := 5)).1 (AnyZ.keys_in Tryz.keys51 Fence.wide 5 trivial rfl mb W)

theorem size9 : (Tryz.prog.info? 9).map (fun i => i.size) = some 1 := by kernel_rfl
theorem info9 : ∃ i, Tryz.prog.info? 9 = some i ∧ i.size = 1 := Option.map_eq_some_iff.1 size9

set_option maxHeartbeats 1000000 in
theorem sorted50_88 : Go.Ev.SpecOk Tryz.prog 50 (Go.Ev.sSorted 146 9) := by
  obtain ⟨i, hi, hi1⟩ := info9
  refine Go.Ev.sorted_ok Tryz.underlying9 hi hi1 enters50 fun b nn Bm D0 R w hcell hown hmax hbytes => ?_
  have hBm : Bm < w.heap.size := by
    rcases Nat.lt_or_ge Bm w.heap.size with h1 | h1
    · exact h1
    · simp [World.cell?, Array.getElem?_eq_none h1] at hcell
  have hseq : SeqGives Fence.wide 2 Tryz.prog 146 #[.pointer (some ⟨Bm, 0, none⟩)] encStr (fun ss => ss.Perm (strKeys D0)) (Maps.size D0) w :=
    AnyZ.keys_gives (ρ := Tryz.keys88_ren) { Tryz.keys88 with } Fence.wide _ trivial rfl (by omega) Bm b nn D0 w hBm hcell hown
  exact (callsIn_wide (n := 5)).1 (AnyZ.sorted_in Tryz.sorted50 Fence.wide 5 trivial trivial trivial trivial rfl (by omega) (Tryz.sorts50 _) (enters_of Tryz.func48 (by kernel_rfl) rfl) 146 #[.pointer (some ⟨Bm, 0, none⟩)] trivial (enters_of Tryz.func146 (by kernel_rfl) rfl) _ _ hmax hbytes _ hseq)

set_option maxHeartbeats 1000000 in
theorem sorted50_51 : Go.Ev.SpecOk Tryz.prog 50 (Go.Ev.sSorted 103 9) := by
  obtain ⟨i, hi, hi1⟩ := info9
  refine Go.Ev.sorted_ok Tryz.underlying9 hi hi1 enters50 fun b nn Bm D0 R w hcell hown hmax hbytes => ?_
  have hBm : Bm < w.heap.size := by
    rcases Nat.lt_or_ge Bm w.heap.size with h1 | h1
    · exact h1
    · simp [World.cell?, Array.getElem?_eq_none h1] at hcell
  have hseq : SeqGives Fence.wide 2 Tryz.prog 103 #[.pointer (some ⟨Bm, 0, none⟩)] encStr (fun ss => ss.Perm (strKeys D0)) (Maps.size D0) w :=
    AnyZ.keys_gives (ρ := Tryz.keys51_ren) { Tryz.keys51 with } Fence.wide _ trivial rfl (by omega) Bm b nn D0 w hBm hcell hown
  exact (callsIn_wide (n := 5)).1 (AnyZ.sorted_in Tryz.sorted50 Fence.wide 5 trivial trivial trivial trivial rfl (by omega) (Tryz.sorts50 _) (enters_of Tryz.func48 (by kernel_rfl) rfl) 103 #[.pointer (some ⟨Bm, 0, none⟩)] trivial (enters_of Tryz.func103 (by kernel_rfl) rfl) _ _ hmax hbytes _ hseq)


theorem ext80 : Go.Ev.Ext Tryz.prog 80 Extern.MapsClone.clone := ⟨Tryz.f80, Tryz.func80, by decide, rfl, by kernel_rfl, by kernel_rfl⟩
theorem ext203 : Go.Ev.Ext Tryz.prog 203 Extern.BytealgCompare.compare := ⟨Tryz.f203, Tryz.func203, by decide, rfl, by kernel_rfl, by kernel_rfl⟩
theorem ext219 : Go.Ev.Ext Tryz.prog 219 Extern.AbiNoEscape.same := ⟨Tryz.f219, Tryz.func219, by decide, rfl, by kernel_rfl, by kernel_rfl⟩
theorem ext225 : Go.Ev.Ext Tryz.prog 225 Extern.BytealgIndexByte.indexByte := ⟨Tryz.f225, Tryz.func225, by decide, rfl, by kernel_rfl, by kernel_rfl⟩
theorem ext236 : Go.Ev.Ext Tryz.prog 236 Extern.BytealgCount.count := ⟨Tryz.f236, Tryz.func236, by decide, rfl, by kernel_rfl, by kernel_rfl⟩
end Go.Proofs
