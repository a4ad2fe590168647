/-
  slices.SortFunc at api.Op: the kit's contract laid at this program's own numbers (printed by gen_sortf.py).
-/
import Derived.Test.YtkolimhkfiebeaaBase
import Derived.Test.YtkolimhkfiebeaaChecked
import Derived.Shelf.SlSortCmp.WholeK
namespace Go.Proofs.Ytkolimhkfiebeaa
open Go.RowKit Go.Shelf

def sortO_ren : Go.Shelf.Ren := ⟨fun | 6 => 130 | 14 => 158 | 15 => 139 | 20 => 194 | 21 => 195 | 22 => 196 | 23 => 197 | 24 => 198 | 25 => 199 | 26 => 200 | 27 => 201 | 28 => 177 | 29 => 178 | 46 => 216 | 47 => 203 | 48 => 204 | 49 => 217 | 50 => 218 | 57 => 233 | n => n, fun | 0 => 0 | 3 => 3 | 4 => 4 | 5 => 5 | 9 => 9 | 22 => 33 | 24 => 68 | 25 => 161 | 39 => 162 | 45 => 197 | 46 => 198 | 50 => 113 | 53 => 31 | 55 => 206 | 66 => 224 | 70 => 228 | 76 => 243 | 77 => 244 | n => n, fun n => n⟩

theorem sortO_lays : SlLaysF0.n6 Try.prog sortO_ren := {
  mixed := by kernel_rfl
  f6 := ⟨Try.f130.name, by decide, Try.func130.trans (congrArg some (by kernel_rfl))⟩
  f14 := ⟨Try.f158.name, by decide, Try.func158.trans (congrArg some (by kernel_rfl))⟩
  f15 := Try.func139.trans (congrArg some (by kernel_rfl))
  f20 := ⟨Try.f194.name, by decide, Try.func194.trans (congrArg some (by kernel_rfl))⟩
  f21 := ⟨Try.f195.name, by decide, Try.func195.trans (congrArg some (by kernel_rfl))⟩
  f22 := ⟨Try.f196.name, by decide, Try.func196.trans (congrArg some (by kernel_rfl))⟩
  f23 := ⟨Try.f197.name, by decide, Try.func197.trans (congrArg some (by kernel_rfl))⟩
  f24 := ⟨Try.f198.name, by decide, Try.func198.trans (congrArg some (by kernel_rfl))⟩
  f25 := ⟨Try.f199.name, by decide, Try.func199.trans (congrArg some (by kernel_rfl))⟩
  f26 := ⟨Try.f200.name, by decide, Try.func200.trans (congrArg some (by kernel_rfl))⟩
  f27 := ⟨Try.f201.name, by decide, Try.func201.trans (congrArg some (by kernel_rfl))⟩
  f28 := Try.func177.trans (congrArg some (by kernel_rfl))
  f29 := Try.func178.trans (congrArg some (by kernel_rfl))
  f46 := ⟨Try.f216.name, by decide, Try.func216.trans (congrArg some (by kernel_rfl))⟩
  f47 := Try.func203.trans (congrArg some (by kernel_rfl))
  f48 := Try.func204.trans (congrArg some (by kernel_rfl))
  f49 := ⟨Try.f217.name, by decide, Try.func217.trans (congrArg some (by kernel_rfl))⟩
  f50 := ⟨Try.f218.name, by decide, Try.func218.trans (congrArg some (by kernel_rfl))⟩
  f57 := ⟨Try.f233.name, by decide, Try.func233.trans (congrArg some (by kernel_rfl))⟩
  t0 := Try.underlying0
  a0 := Try.isAgg0
  z0 := Try.sizeOf0
  v0 := Try.zeroValue0
  t3 := Try.underlying3
  a3 := Try.isAgg3
  z3 := Try.sizeOf3
  v3 := Try.zeroValue3
  t4 := Try.underlying4
  a4 := Try.isAgg4
  z4 := Try.sizeOf4
  v4 := Try.zeroValue4
  t5 := Try.underlying5
  a5 := Try.isAgg5
  z5 := Try.sizeOf5
  v5 := Try.zeroValue5
  t9 := Try.underlying9
  a9 := Try.isAgg9
  z9 := Try.sizeOf9
  v9 := Try.zeroValue9
  t22 := Try.underlying33
  a22 := Try.isAgg33
  z22 := Try.sizeOf33
  v22 := Try.zeroValue33
  t25 := Try.underlying161
  a25 := Try.isAgg161
  z25 := Try.sizeOf161
  v25 := Try.zeroValue161
  t39 := Try.underlying162
  a39 := Try.isAgg162
  z39 := Try.sizeOf162
  v39 := Try.zeroValue162
  t45 := Try.underlying197
  a45 := Try.isAgg197
  z45 := Try.sizeOf197
  v45 := Try.zeroValue197
  t46 := Try.underlying198
  a46 := Try.isAgg198
  z46 := Try.sizeOf198
  v46 := Try.zeroValue198
  t50 := Try.underlying113
  a50 := Try.isAgg113
  z50 := Try.sizeOf113
  v50 := Try.zeroValue113
  t53 := Try.underlying31
  a53 := Try.isAgg31
  z53 := Try.sizeOf31
  v53 := Try.zeroValue31
  t55 := Try.underlying206
  a55 := Try.isAgg206
  z55 := Try.sizeOf206
  v55 := Try.zeroValue206
  t66 := Try.underlying224
  a66 := Try.isAgg224
  z66 := Try.sizeOf224
  v66 := Try.zeroValue224
  t70 := Try.underlying228
  a70 := Try.isAgg228
  z70 := Try.sizeOf228
  v70 := Try.zeroValue228
  t76 := Try.underlying243
  a76 := Try.isAgg243
  z76 := Try.sizeOf243
  v76 := Try.zeroValue243
  t77 := Try.underlying244
  a77 := Try.isAgg244
  z77 := Try.sizeOf244
  v77 := Try.zeroValue244 }
end Go.Proofs.Ytkolimhkfiebeaa
