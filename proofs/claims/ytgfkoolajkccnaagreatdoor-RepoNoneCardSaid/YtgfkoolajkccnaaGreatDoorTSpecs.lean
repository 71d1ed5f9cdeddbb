/- The contracts of this seat's functions. -/
import Derived.Test.YtgfkoolajkccnaaGreatDoorEvSorted
import Derived.Test.YtgfkoolajkccnaaGreatDoorEvSpecs
import Derived.Test.YtgfkoolajkccnaaGreatDoorTWalks
import Derived.Test.YtgfkoolajkccnaaGreatDoorTUsed
import Derived.Shelf.SlIter.Nil
import Derived.Shelf.SortM.Plain
import Derived.Shelf.SortM.SortNone
import Derived.Shelf.Strings.Prefix
import Derived.KernelRfl
import Derived.Test.YtgfkoolajkccnaaGreatDoorProg
/-! The contracts of this seat's functions. -/
namespace Go.Proofs
open Go.RowKit Go.Maps Go.Sort Go.Shelf

def Tryz.prefix156_ren : Go.Shelf.Ren := ⟨fun | 99 => 156 | 206 => 223 | n => n, fun | 9 => 9 | 4 => 4 | 3 => 3 | n => n, fun | n => n⟩
theorem Tryz.prefix156 : Go.Proofs.Lays.n99 Tryz.prog Tryz.prefix156_ren := {mixed := by kernel_rfl, f99 := Tryz.func156.trans (congrArg some (by kernel_rfl)), f206 := Tryz.func223.trans (congrArg some (by kernel_rfl)), t3 := Tryz.underlying3, a3 := Tryz.isAgg3, z3 := Tryz.sizeOf3, v3 := Tryz.zeroValue3, t4 := Tryz.underlying4, a4 := Tryz.isAgg4, z4 := Tryz.sizeOf4, v4 := Tryz.zeroValue4, t9 := Tryz.underlying9, a9 := Tryz.isAgg9, z9 := Tryz.sizeOf9, v9 := Tryz.zeroValue9}
theorem enters91 : Go.Ev.Enters Tryz.prog 91 := enters_of Tryz.func91 (by kernel_rfl) rfl
theorem kids91 : Go.Ev.SpecOk Tryz.prog 91 Go.Ev.sKids :=
  Go.Ev.kids_ok enters91 fun bm es clock p hp w hb hst hv => kids_walk (fun s p w => Any.strings_HasPrefix Tryz.prefix156 s p w) bm es clock p hp w hb hst hv

theorem enters229 : Go.Ev.Enters Tryz.prog 229 := enters_of Tryz.func229 (by kernel_rfl) rfl
theorem wr64_small {s : Nat} (h : s ≤ 1099511627776) : wr64 (s : Int) = s := by
  unfold wr64; omega

theorem used229 : Go.Ev.SpecOk Tryz.prog 229 Go.Ev.sUsed :=
  Go.Ev.used_ok enters229 fun bm es clock fb fo nb no n c g w hb hst h0 h3 hv hs =>
    Calls.mono (used_walk bm es clock fb fo nb no n c g w hb hst h0 h3 hv hs) fun e w' ⟨he, hw⟩ => ⟨fun s hs1 hs2 => by
      have e1 : ((lens g es.toList).map fun e => valOf e.val).sum = (s : Int) := by
        rw [← hs2]
        simp only [lens, List.map_map]
        congr 1
      rw [he, e1, wr64_small hs1], hw⟩

def Tryz.sorted108_ren : Go.Shelf.Ren := ⟨fun | 6 => 108 | 8 => 179 | 9 => 134 | 11 => 230 | 13 => 203 | 12 => 202 | 23 => 259 | 24 => 260 | 14 => 250 | 15 => 251 | 16 => 252 | 17 => 253 | 18 => 254 | 19 => 255 | 20 => 256 | 21 => 257 | 22 => 258 | 25 => 284 | 26 => 285 | 27 => 286 | 28 => 287 | 29 => 288 | 30 => 289 | 31 => 298 | n => n, fun | 26 => 9 | 28 => 182 | 24 => 37 | 0 => 0 | 3 => 3 | 37 => 265 | 48 => 239 | 50 => 29 | 4 => 4 | 40 => 326 | 39 => 325 | 45 => 128 | 5 => 5 | 9 => 9 | 51 => 355 | 55 => 358 | 57 => 370 | 58 => 255 | 33 => 166 | n => n, fun | n => n⟩
theorem Tryz.sorted108 : Go.Proofs.SlLaysZ.n6 Tryz.prog Tryz.sorted108_ren := {mixed := by kernel_rfl, f6 := ⟨Tryz.f108.name, by decide, Tryz.func108.trans (congrArg some (by kernel_rfl))⟩, f8 := ⟨Tryz.f179.name, by decide, Tryz.func179.trans (congrArg some (by kernel_rfl))⟩, f11 := ⟨Tryz.f230.name, by decide, Tryz.func230.trans (congrArg some (by kernel_rfl))⟩, t0 := Tryz.underlying0, a0 := Tryz.isAgg0, z0 := Tryz.sizeOf0, v0 := Tryz.zeroValue0, t24 := Tryz.underlying37, a24 := Tryz.isAgg37, z24 := Tryz.sizeOf37, v24 := Tryz.zeroValue37, t26 := Tryz.underlying9, a26 := Tryz.isAgg9, z26 := Tryz.sizeOf9, v26 := Tryz.zeroValue9, t28 := Tryz.underlying182, a28 := Tryz.isAgg182, z28 := Tryz.sizeOf182, v28 := Tryz.zeroValue182, i26 := by kernel_rfl}
def Tryz.sort134_ren : Go.Shelf.Ren := ⟨fun | 6 => 134 | 8 => 203 | 9 => 202 | 19 => 259 | 20 => 260 | 21 => 250 | 22 => 251 | 23 => 252 | 24 => 253 | 25 => 254 | 26 => 255 | 27 => 256 | 28 => 257 | 29 => 258 | 36 => 284 | 31 => 285 | 32 => 286 | 37 => 287 | 38 => 288 | 39 => 289 | 41 => 298 | n => n, fun | 27 => 37 | 29 => 9 | 3 => 3 | 32 => 265 | 26 => 37 | 0 => 0 | 44 => 239 | 46 => 29 | 4 => 4 | 36 => 326 | 35 => 325 | 41 => 128 | 5 => 5 | 9 => 9 | 53 => 355 | 57 => 358 | 63 => 370 | 64 => 255 | n => n, fun | n => n⟩
theorem Tryz.sort134 : Go.Proofs.SlLaysM.n6 Tryz.prog Tryz.sort134_ren := {mixed := by kernel_rfl, f6 := ⟨Tryz.f134.name, by decide, Tryz.func134.trans (congrArg some (by kernel_rfl))⟩, f8 := Tryz.func203.trans (congrArg some (by kernel_rfl)), f9 := ⟨Tryz.f202.name, by decide, Tryz.func202.trans (congrArg some (by kernel_rfl))⟩, f19 := Tryz.func259.trans (congrArg some (by kernel_rfl)), f20 := Tryz.func260.trans (congrArg some (by kernel_rfl)), f21 := ⟨Tryz.f250.name, by decide, Tryz.func250.trans (congrArg some (by kernel_rfl))⟩, f22 := ⟨Tryz.f251.name, by decide, Tryz.func251.trans (congrArg some (by kernel_rfl))⟩, f23 := ⟨Tryz.f252.name, by decide, Tryz.func252.trans (congrArg some (by kernel_rfl))⟩, f24 := ⟨Tryz.f253.name, by decide, Tryz.func253.trans (congrArg some (by kernel_rfl))⟩, f25 := ⟨Tryz.f254.name, by decide, Tryz.func254.trans (congrArg some (by kernel_rfl))⟩, f26 := ⟨Tryz.f255.name, by decide, Tryz.func255.trans (congrArg some (by kernel_rfl))⟩, f27 := ⟨Tryz.f256.name, by decide, Tryz.func256.trans (congrArg some (by kernel_rfl))⟩, f28 := ⟨Tryz.f257.name, by decide, Tryz.func257.trans (congrArg some (by kernel_rfl))⟩, f29 := ⟨Tryz.f258.name, by decide, Tryz.func258.trans (congrArg some (by kernel_rfl))⟩, f31 := Tryz.func285.trans (congrArg some (by kernel_rfl)), f32 := Tryz.func286.trans (congrArg some (by kernel_rfl)), f36 := ⟨Tryz.f284.name, by decide, Tryz.func284.trans (congrArg some (by kernel_rfl))⟩, f37 := ⟨Tryz.f287.name, by decide, Tryz.func287.trans (congrArg some (by kernel_rfl))⟩, f38 := ⟨Tryz.f288.name, by decide, Tryz.func288.trans (congrArg some (by kernel_rfl))⟩, f39 := ⟨Tryz.f289.name, by decide, Tryz.func289.trans (congrArg some (by kernel_rfl))⟩, f41 := ⟨Tryz.f298.name, by decide, Tryz.func298.trans (congrArg some (by kernel_rfl))⟩, t0 := Tryz.underlying0, a0 := Tryz.isAgg0, z0 := Tryz.sizeOf0, v0 := Tryz.zeroValue0, t3 := Tryz.underlying3, a3 := Tryz.isAgg3, z3 := Tryz.sizeOf3, v3 := Tryz.zeroValue3, t4 := Tryz.underlying4, a4 := Tryz.isAgg4, z4 := Tryz.sizeOf4, v4 := Tryz.zeroValue4, t5 := Tryz.underlying5, a5 := Tryz.isAgg5, z5 := Tryz.sizeOf5, v5 := Tryz.zeroValue5, t9 := Tryz.underlying9, a9 := Tryz.isAgg9, z9 := Tryz.sizeOf9, v9 := Tryz.zeroValue9, t26 := Tryz.underlying37, a26 := Tryz.isAgg37, z26 := Tryz.sizeOf37, v26 := Tryz.zeroValue37, t27 := Tryz.underlying37, a27 := Tryz.isAgg37, z27 := Tryz.sizeOf37, v27 := Tryz.zeroValue37, t29 := Tryz.underlying9, a29 := Tryz.isAgg9, z29 := Tryz.sizeOf9, v29 := Tryz.zeroValue9, t32 := Tryz.underlying265, a32 := Tryz.isAgg265, z32 := Tryz.sizeOf265, v32 := Tryz.zeroValue265, t35 := Tryz.underlying325, a35 := Tryz.isAgg325, z35 := Tryz.sizeOf325, v35 := Tryz.zeroValue325, t36 := Tryz.underlying326, a36 := Tryz.isAgg326, z36 := Tryz.sizeOf326, v36 := Tryz.zeroValue326, t41 := Tryz.underlying128, a41 := Tryz.isAgg128, z41 := Tryz.sizeOf128, v41 := Tryz.zeroValue128, t44 := Tryz.underlying239, a44 := Tryz.isAgg239, z44 := Tryz.sizeOf239, v44 := Tryz.zeroValue239, t46 := Tryz.underlying29, a46 := Tryz.isAgg29, z46 := Tryz.sizeOf29, v46 := Tryz.zeroValue29, t53 := Tryz.underlying355, a53 := Tryz.isAgg355, z53 := Tryz.sizeOf355, v53 := Tryz.zeroValue355, t57 := Tryz.underlying358, a57 := Tryz.isAgg358, z57 := Tryz.sizeOf358, v57 := Tryz.zeroValue358, t63 := Tryz.underlying370, a63 := Tryz.isAgg370, z63 := Tryz.sizeOf370, v63 := Tryz.zeroValue370, t64 := Tryz.underlying255, a64 := Tryz.isAgg255, z64 := Tryz.sizeOf255, v64 := Tryz.zeroValue255}
theorem enters108 : Go.Ev.Enters Tryz.prog 108 := enters_of Tryz.func108 (by kernel_rfl) rfl
theorem Tryz.sorts (m : Nat) : AnyZ.SortsIn Tryz.prog Tryz.sorted108_ren Fence.wide m :=
  ⟨fun blk off cap ss W hH hblk hsz => callsIn_wide.2 (AnyM.slices_Sort_string Tryz.sort134 blk off cap ss W hH hblk hsz),
   fun p cap W => callsIn_wide.2 (AnyM.slices_Sort_string_none Tryz.sort134 p cap W)⟩
theorem sizeStr : (Tryz.prog.info? 9).map (fun i => i.size) = some 1 := by kernel_rfl
theorem infoStr : ∃ i, Tryz.prog.info? 9 = some i ∧ i.size = 1 := Option.map_eq_some_iff.1 sizeStr

def Tryz.keys109_ren : Go.Shelf.Ren := ⟨fun | 7 => 109 | 10 => 180 | n => n, fun | 23 => 122 | 26 => 9 | 3 => 127 | 28 => 182 | 0 => 0 | 27 => 181 | 33 => 166 | 4 => 4 | n => n, fun | n => n⟩
theorem Tryz.keys109 : Go.Proofs.SlLaysZ.n7 Tryz.prog Tryz.keys109_ren := {mixed := by kernel_rfl, f7 := ⟨Tryz.f109.name, by decide, Tryz.func109.trans (congrArg some (by kernel_rfl))⟩, f10 := ⟨Tryz.f180.name, by decide, Tryz.func180.trans (congrArg some (by kernel_rfl))⟩, t0 := Tryz.underlying0, a0 := Tryz.isAgg0, z0 := Tryz.sizeOf0, v0 := Tryz.zeroValue0, t4 := Tryz.underlying4, a4 := Tryz.isAgg4, z4 := Tryz.sizeOf4, v4 := Tryz.zeroValue4, t23 := Tryz.underlying122, a23 := Tryz.isAgg122, z23 := Tryz.sizeOf122, v23 := Tryz.zeroValue122, t26 := Tryz.underlying9, a26 := Tryz.isAgg9, z26 := Tryz.sizeOf9, v26 := Tryz.zeroValue9, t27 := Tryz.underlying181, a27 := Tryz.isAgg181, z27 := Tryz.sizeOf181, v27 := Tryz.zeroValue181, t28 := Tryz.underlying182, a28 := Tryz.isAgg182, z28 := Tryz.sizeOf182, v28 := Tryz.zeroValue182, t33 := Tryz.underlying166, a33 := Tryz.isAgg166, z33 := Tryz.sizeOf166, v33 := Tryz.zeroValue166}
theorem enters109 : Go.Ev.Enters Tryz.prog 109 := enters_of Tryz.func109 (by kernel_rfl) rfl
theorem mkeys109 : Go.Ev.SpecOk Tryz.prog 109 (Go.Ev.sKeys 180) := Go.Ev.keys_ok (t := 122) enters109 fun mb W => (callsIn_wide (n := 5)).1 (AnyZ.keys_in Tryz.keys109 Fence.wide 5 trivial rfl mb W)
set_option maxHeartbeats 1000000 in
theorem msorted109 : Go.Ev.SpecOk Tryz.prog 108 (Go.Ev.sSorted 180 9) := by
  obtain ⟨i, hi, hi1⟩ := infoStr
  refine Go.Ev.sorted_ok Tryz.underlying9 hi hi1 enters108 fun b nn Bm D0 R w hcell hown hmax hbytes => ?_
  have hBm : Bm < w.heap.size := by
    rcases Nat.lt_or_ge Bm w.heap.size with h1 | h1
    · exact h1
    · simp [World.cell?, Array.getElem?_eq_none h1] at hcell
  have hseq : SeqGives Fence.wide 2 Tryz.prog 180 #[.pointer (some ⟨Bm, 0, none⟩)] encStr (fun ss => ss.Perm (strKeys D0)) (Maps.size D0) w :=
    AnyZ.keys_gives (ρ := Tryz.keys109_ren) { Tryz.keys109 with } Fence.wide _ trivial rfl (by omega) Bm b nn D0 w hBm hcell hown
  exact (callsIn_wide (n := 5)).1 (AnyZ.sorted_in Tryz.sorted108 Fence.wide 5 trivial trivial trivial trivial rfl (by omega) (Tryz.sorts _) (enters_of Tryz.func134 (by kernel_rfl) rfl) 180 #[.pointer (some ⟨Bm, 0, none⟩)] trivial (enters_of Tryz.func180 (by kernel_rfl) rfl) _ _ hmax hbytes _ hseq)

def Tryz.keys144_ren : Go.Shelf.Ren := ⟨fun | 7 => 144 | 10 => 213 | n => n, fun | 23 => 91 | 26 => 9 | 3 => 3 | 28 => 182 | 0 => 0 | 27 => 181 | 33 => 166 | 4 => 4 | n => n, fun | n => n⟩
theorem Tryz.keys144 : Go.Proofs.SlLaysZ.n7 Tryz.prog Tryz.keys144_ren := {mixed := by kernel_rfl, f7 := ⟨Tryz.f144.name, by decide, Tryz.func144.trans (congrArg some (by kernel_rfl))⟩, f10 := ⟨Tryz.f213.name, by decide, Tryz.func213.trans (congrArg some (by kernel_rfl))⟩, t0 := Tryz.underlying0, a0 := Tryz.isAgg0, z0 := Tryz.sizeOf0, v0 := Tryz.zeroValue0, t4 := Tryz.underlying4, a4 := Tryz.isAgg4, z4 := Tryz.sizeOf4, v4 := Tryz.zeroValue4, t23 := Tryz.underlying91, a23 := Tryz.isAgg91, z23 := Tryz.sizeOf91, v23 := Tryz.zeroValue91, t26 := Tryz.underlying9, a26 := Tryz.isAgg9, z26 := Tryz.sizeOf9, v26 := Tryz.zeroValue9, t27 := Tryz.underlying181, a27 := Tryz.isAgg181, z27 := Tryz.sizeOf181, v27 := Tryz.zeroValue181, t28 := Tryz.underlying182, a28 := Tryz.isAgg182, z28 := Tryz.sizeOf182, v28 := Tryz.zeroValue182, t33 := Tryz.underlying166, a33 := Tryz.isAgg166, z33 := Tryz.sizeOf166, v33 := Tryz.zeroValue166}
theorem enters144 : Go.Ev.Enters Tryz.prog 144 := enters_of Tryz.func144 (by kernel_rfl) rfl
theorem mkeys144 : Go.Ev.SpecOk Tryz.prog 144 (Go.Ev.sKeys 213) := Go.Ev.keys_ok (t := 91) enters144 fun mb W => (callsIn_wide (n := 5)).1 (AnyZ.keys_in Tryz.keys144 Fence.wide 5 trivial rfl mb W)
set_option maxHeartbeats 1000000 in
theorem msorted144 : Go.Ev.SpecOk Tryz.prog 108 (Go.Ev.sSorted 213 9) := by
  obtain ⟨i, hi, hi1⟩ := infoStr
  refine Go.Ev.sorted_ok Tryz.underlying9 hi hi1 enters108 fun b nn Bm D0 R w hcell hown hmax hbytes => ?_
  have hBm : Bm < w.heap.size := by
    rcases Nat.lt_or_ge Bm w.heap.size with h1 | h1
    · exact h1
    · simp [World.cell?, Array.getElem?_eq_none h1] at hcell
  have hseq : SeqGives Fence.wide 2 Tryz.prog 213 #[.pointer (some ⟨Bm, 0, none⟩)] encStr (fun ss => ss.Perm (strKeys D0)) (Maps.size D0) w :=
    AnyZ.keys_gives (ρ := Tryz.keys144_ren) { Tryz.keys144 with } Fence.wide _ trivial rfl (by omega) Bm b nn D0 w hBm hcell hown
  exact (callsIn_wide (n := 5)).1 (AnyZ.sorted_in Tryz.sorted108 Fence.wide 5 trivial trivial trivial trivial rfl (by omega) (Tryz.sorts _) (enters_of Tryz.func134 (by kernel_rfl) rfl) 213 #[.pointer (some ⟨Bm, 0, none⟩)] trivial (enters_of Tryz.func213 (by kernel_rfl) rfl) _ _ hmax hbytes _ hseq)

def Tryz.keys205_ren : Go.Shelf.Ren := ⟨fun | 7 => 205 | 10 => 262 | n => n, fun | 23 => 220 | 26 => 9 | 3 => 4 | 28 => 182 | 0 => 0 | 27 => 181 | 33 => 166 | 4 => 4 | n => n, fun | n => n⟩
theorem Tryz.keys205 : Go.Proofs.SlLaysZ.n7 Tryz.prog Tryz.keys205_ren := {mixed := by kernel_rfl, f7 := ⟨Tryz.f205.name, by decide, Tryz.func205.trans (congrArg some (by kernel_rfl))⟩, f10 := ⟨Tryz.f262.name, by decide, Tryz.func262.trans (congrArg some (by kernel_rfl))⟩, t0 := Tryz.underlying0, a0 := Tryz.isAgg0, z0 := Tryz.sizeOf0, v0 := Tryz.zeroValue0, t4 := Tryz.underlying4, a4 := Tryz.isAgg4, z4 := Tryz.sizeOf4, v4 := Tryz.zeroValue4, t23 := Tryz.underlying220, a23 := Tryz.isAgg220, z23 := Tryz.sizeOf220, v23 := Tryz.zeroValue220, t26 := Tryz.underlying9, a26 := Tryz.isAgg9, z26 := Tryz.sizeOf9, v26 := Tryz.zeroValue9, t27 := Tryz.underlying181, a27 := Tryz.isAgg181, z27 := Tryz.sizeOf181, v27 := Tryz.zeroValue181, t28 := Tryz.underlying182, a28 := Tryz.isAgg182, z28 := Tryz.sizeOf182, v28 := Tryz.zeroValue182, t33 := Tryz.underlying166, a33 := Tryz.isAgg166, z33 := Tryz.sizeOf166, v33 := Tryz.zeroValue166}
theorem enters205 : Go.Ev.Enters Tryz.prog 205 := enters_of Tryz.func205 (by kernel_rfl) rfl
theorem mkeys205 : Go.Ev.SpecOk Tryz.prog 205 (Go.Ev.sKeys 262) := Go.Ev.keys_ok (t := 220) enters205 fun mb W => (callsIn_wide (n := 5)).1 (AnyZ.keys_in Tryz.keys205 Fence.wide 5 trivial rfl mb W)
set_option maxHeartbeats 1000000 in
theorem msorted205 : Go.Ev.SpecOk Tryz.prog 108 (Go.Ev.sSorted 262 9) := by
  obtain ⟨i, hi, hi1⟩ := infoStr
  refine Go.Ev.sorted_ok Tryz.underlying9 hi hi1 enters108 fun b nn Bm D0 R w hcell hown hmax hbytes => ?_
  have hBm : Bm < w.heap.size := by
    rcases Nat.lt_or_ge Bm w.heap.size with h1 | h1
    · exact h1
    · simp [World.cell?, Array.getElem?_eq_none h1] at hcell
  have hseq : SeqGives Fence.wide 2 Tryz.prog 262 #[.pointer (some ⟨Bm, 0, none⟩)] encStr (fun ss => ss.Perm (strKeys D0)) (Maps.size D0) w :=
    AnyZ.keys_gives (ρ := Tryz.keys205_ren) { Tryz.keys205 with } Fence.wide _ trivial rfl (by omega) Bm b nn D0 w hBm hcell hown
  exact (callsIn_wide (n := 5)).1 (AnyZ.sorted_in Tryz.sorted108 Fence.wide 5 trivial trivial trivial trivial rfl (by omega) (Tryz.sorts _) (enters_of Tryz.func134 (by kernel_rfl) rfl) 262 #[.pointer (some ⟨Bm, 0, none⟩)] trivial (enters_of Tryz.func262 (by kernel_rfl) rfl) _ _ hmax hbytes _ hseq)

theorem ext92 : Go.Ev.Ext Tryz.prog 92 Extern.MapsClone.clone := ⟨Tryz.f92, Tryz.func92, by decide, rfl, by kernel_rfl, by kernel_rfl⟩
theorem ext247 : Go.Ev.Ext Tryz.prog 247 Extern.BytealgCompare.compare := ⟨Tryz.f247, Tryz.func247, by decide, rfl, by kernel_rfl, by kernel_rfl⟩
theorem ext246 : Go.Ev.Ext Tryz.prog 246 Extern.AbiNoEscape.same := ⟨Tryz.f246, Tryz.func246, by decide, rfl, by kernel_rfl, by kernel_rfl⟩
theorem ext275 : Go.Ev.Ext Tryz.prog 275 Extern.BytealgIndexByte.indexByte := ⟨Tryz.f275, Tryz.func275, by decide, rfl, by kernel_rfl, by kernel_rfl⟩
theorem ext280 : Go.Ev.Ext Tryz.prog 280 Extern.BytealgCount.count := ⟨Tryz.f280, Tryz.func280, by decide, rfl, by kernel_rfl, by kernel_rfl⟩
end Go.Proofs
