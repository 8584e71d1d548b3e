/- A table (layer 11, cache): the kit's contracts of slices.Delete and slices.Clone lie at the program's instances (written by the kit's tool). -/
import Derived.Test.YtfimgngiaggplaaE48
import Derived.Test.YtfimgngiaggplaaProg
import Derived.KernelRfl
namespace Go.Proofs.Ytfimgngiaggplaa.Cache
open Go Go.Proofs Go.Shelf
def delI_ren : Go.Shelf.Ren := ⟨fun | 45 => 72 | n => n, fun | 22 => 91 | 23 => 3 | 3 => 3 | 4 => 4 | 0 => 0 | n => n, fun | n => n⟩
theorem delI : Go.Proofs.SlLaysE.n45 Try.prog delI_ren := {
  mixed := by kernel_rfl
  f45 := ⟨Try.f72.name, by decide, Try.func72.trans (congrArg some (by kernel_rfl))⟩
  t0 := Try.underlying0
  a0 := Try.isAgg0
  z0 := Try.sizeOf0
  v0 := Try.zeroValue0
  t3 := Try.underlying3
  a3 := Try.isAgg3
  z3 := Try.sizeOf3
  v3 := Try.zeroValue3
  t4 := Try.underlying4
  a4 := Try.isAgg4
  z4 := Try.sizeOf4
  v4 := Try.zeroValue4
  t22 := Try.underlying91
  a22 := Try.isAgg91
  z22 := Try.sizeOf91
  v22 := Try.zeroValue91
  a23 := Try.isAgg3
  z23 := Try.sizeOf3 }
def delS_ren : Go.Shelf.Ren := ⟨fun | 45 => 75 | n => n, fun | 22 => 93 | 23 => 9 | 3 => 3 | 4 => 4 | 0 => 0 | n => n, fun | n => n⟩
theorem delS : Go.Proofs.SlLaysE.n45 Try.prog delS_ren := {
  mixed := by kernel_rfl
  f45 := ⟨Try.f75.name, by decide, Try.func75.trans (congrArg some (by kernel_rfl))⟩
  t0 := Try.underlying0
  a0 := Try.isAgg0
  z0 := Try.sizeOf0
  v0 := Try.zeroValue0
  t3 := Try.underlying3
  a3 := Try.isAgg3
  z3 := Try.sizeOf3
  v3 := Try.zeroValue3
  t4 := Try.underlying4
  a4 := Try.isAgg4
  z4 := Try.sizeOf4
  v4 := Try.zeroValue4
  t22 := Try.underlying93
  a22 := Try.isAgg93
  z22 := Try.sizeOf93
  v22 := Try.zeroValue93
  a23 := Try.isAgg9
  z23 := Try.sizeOf9 }
def cloI_ren : Go.Shelf.Ren := ⟨fun | 41 => 73 | n => n, fun | 22 => 91 | 23 => 3 | 4 => 4 | n => n, fun | n => n⟩
theorem cloI : Go.Proofs.SlLaysE0.n41 Try.prog cloI_ren := {
  mixed := by kernel_rfl
  f41 := ⟨Try.f73.name, by decide, Try.func73.trans (congrArg some (by kernel_rfl))⟩
  t4 := Try.underlying4
  a4 := Try.isAgg4
  z4 := Try.sizeOf4
  v4 := Try.zeroValue4
  t22 := Try.underlying91
  a22 := Try.isAgg91
  z22 := Try.sizeOf91
  v22 := Try.zeroValue91 }
end Go.Proofs.Ytfimgngiaggplaa.Cache
