/- Where the copies of maps lie in this program. Conditions: none. -/
import Derived.Test.YtbdnlaepeladbaaGreatDoorProg
import Derived.Ground.SlgnProg
import Derived.Ground.SlsfProg
import Derived.Ground.SlmcProg
import Derived.Shelf.SlMaps.Clone
namespace Go.Proofs
open Go.Shelf
def Tryz.cloneLs_ren : Go.Shelf.Ren := ⟨fun | 5 => 79 | 7 => 163 | n => n, fun | 23 => 130 | 25 => 22 | 3 => 137 | 4 => 4 | 20 => 20 | n => n, fun | n => n⟩
theorem Tryz.cloneLs : Go.Proofs.SlLaysW.n5 Tryz.prog Tryz.cloneLs_ren := {
  mixed := by kernel_rfl
  f5 := ⟨Tryz.f79.name, by decide, Tryz.func79.trans (congrArg some (by kernel_rfl))⟩
  f7 := Tryz.func163.trans (congrArg some (by kernel_rfl))
  t4 := Tryz.underlying4
  a4 := Tryz.isAgg4
  z4 := Tryz.sizeOf4
  v4 := Tryz.zeroValue4
  t20 := Tryz.underlying20
  a20 := Tryz.isAgg20
  z20 := Tryz.sizeOf20
  v20 := Tryz.zeroValue20
  t23 := Tryz.underlying130
  a23 := Tryz.isAgg130
  z23 := Tryz.sizeOf130
  v23 := Tryz.zeroValue130 }
def Tryz.cloneMs_ren : Go.Shelf.Ren := ⟨fun | 5 => 80 | 7 => 163 | n => n, fun | 23 => 131 | 25 => 22 | 3 => 4 | 4 => 4 | 20 => 20 | n => n, fun | n => n⟩
theorem Tryz.cloneMs : Go.Proofs.SlLaysW.n5 Tryz.prog Tryz.cloneMs_ren := {
  mixed := by kernel_rfl
  f5 := ⟨Tryz.f80.name, by decide, Tryz.func80.trans (congrArg some (by kernel_rfl))⟩
  f7 := Tryz.func163.trans (congrArg some (by kernel_rfl))
  t4 := Tryz.underlying4
  a4 := Tryz.isAgg4
  z4 := Tryz.sizeOf4
  v4 := Tryz.zeroValue4
  t20 := Tryz.underlying20
  a20 := Tryz.isAgg20
  z20 := Tryz.sizeOf20
  v20 := Tryz.zeroValue20
  t23 := Tryz.underlying131
  a23 := Tryz.isAgg131
  z23 := Tryz.sizeOf131
  v23 := Tryz.zeroValue131 }
def Tryz.cloneTm_ren : Go.Shelf.Ren := ⟨fun | 5 => 164 | 7 => 163 | n => n, fun | 23 => 233 | 25 => 22 | 3 => 22 | 4 => 4 | 20 => 20 | n => n, fun | n => n⟩
theorem Tryz.cloneTm : Go.Proofs.SlLaysW.n5 Tryz.prog Tryz.cloneTm_ren := {
  mixed := by kernel_rfl
  f5 := ⟨Tryz.f164.name, by decide, Tryz.func164.trans (congrArg some (by kernel_rfl))⟩
  f7 := Tryz.func163.trans (congrArg some (by kernel_rfl))
  t4 := Tryz.underlying4
  a4 := Tryz.isAgg4
  z4 := Tryz.sizeOf4
  v4 := Tryz.zeroValue4
  t20 := Tryz.underlying20
  a20 := Tryz.isAgg20
  z20 := Tryz.sizeOf20
  v20 := Tryz.zeroValue20
  t23 := Tryz.underlying233
  a23 := Tryz.isAgg233
  z23 := Tryz.sizeOf233
  v23 := Tryz.zeroValue233 }
def Tryz.clonePl_ren : Go.Shelf.Ren := ⟨fun | 5 => 92 | 7 => 163 | n => n, fun | 23 => 158 | 25 => 22 | 3 => 166 | 4 => 4 | 20 => 20 | n => n, fun | n => n⟩
theorem Tryz.clonePl : Go.Proofs.SlLaysW.n5 Tryz.prog Tryz.clonePl_ren := {
  mixed := by kernel_rfl
  f5 := ⟨Tryz.f92.name, by decide, Tryz.func92.trans (congrArg some (by kernel_rfl))⟩
  f7 := Tryz.func163.trans (congrArg some (by kernel_rfl))
  t4 := Tryz.underlying4
  a4 := Tryz.isAgg4
  z4 := Tryz.sizeOf4
  v4 := Tryz.zeroValue4
  t20 := Tryz.underlying20
  a20 := Tryz.isAgg20
  z20 := Tryz.sizeOf20
  v20 := Tryz.zeroValue20
  t23 := Tryz.underlying158
  a23 := Tryz.isAgg158
  z23 := Tryz.sizeOf158
  v23 := Tryz.zeroValue158 }
end Go.Proofs
