/-
  One laying of the shelf's at this dump, in plain words (printed by wip/tools/lay_plain.py).
-/
import Derived.Test.YtlhogpnfongfmaaBase
import Derived.Shelf.SlIter.Nil
namespace Go.Proofs.Ytlhogpnfongfmaa
open Go.Shelf
def keysL_ren : Go.Shelf.Ren := ⟨fun | 7 => 20 | 10 => 23 | n => n, fun | 23 => 34 | 26 => 9 | 3 => 3 | 28 => 45 | 0 => 0 | 27 => 44 | 33 => 30 | 4 => 4 | n => n, fun | n => n⟩
theorem keysL : Go.Proofs.SlLaysZ.n7 Try.prog keysL_ren := {
  mixed := by kernel_rfl
  f7 := ⟨Try.f20.name, by decide, Try.func20.trans (congrArg some (by kernel_rfl))⟩
  f10 := ⟨Try.f23.name, by decide, Try.func23.trans (congrArg some (by kernel_rfl))⟩
  t0 := Try.underlying0
  a0 := Try.isAgg0
  z0 := Try.sizeOf0
  v0 := Try.zeroValue0
  t4 := Try.underlying4
  a4 := Try.isAgg4
  z4 := Try.sizeOf4
  v4 := Try.zeroValue4
  t23 := Try.underlying34
  a23 := Try.isAgg34
  z23 := Try.sizeOf34
  v23 := Try.zeroValue34
  t26 := Try.underlying9
  a26 := Try.isAgg9
  z26 := Try.sizeOf9
  v26 := Try.zeroValue9
  t27 := Try.underlying44
  a27 := Try.isAgg44
  z27 := Try.sizeOf44
  v27 := Try.zeroValue44
  t28 := Try.underlying45
  a28 := Try.isAgg45
  z28 := Try.sizeOf45
  v28 := Try.zeroValue45
  t33 := Try.underlying30
  a33 := Try.isAgg30
  z33 := Try.sizeOf30
  v33 := Try.zeroValue30 }
end Go.Proofs.Ytlhogpnfongfmaa
