/-
  One laying of the shelf's at this dump, in plain words (printed by wip/tools/lay_plain.py).
-/
import Derived.Test.YtlhogpnfongfmaaBase
import Derived.Shelf.SlIter.Nil
namespace Go.Proofs.Ytlhogpnfongfmaa
open Go.Shelf
def sortedL_ren : Go.Shelf.Ren := ⟨fun | 6 => 19 | 8 => 21 | 9 => 22 | 11 => 24 | 13 => 26 | 12 => 25 | 23 => 36 | 24 => 37 | 14 => 27 | 15 => 28 | 16 => 29 | 17 => 30 | 18 => 31 | 19 => 32 | 20 => 33 | 21 => 34 | 22 => 35 | 25 => 38 | 26 => 39 | 27 => 40 | 28 => 41 | 29 => 42 | 30 => 43 | 31 => 44 | n => n, fun | 26 => 9 | 28 => 45 | 24 => 38 | 0 => 0 | 3 => 3 | 37 => 51 | 48 => 62 | 50 => 64 | 4 => 4 | 40 => 54 | 39 => 53 | 45 => 59 | 5 => 5 | 9 => 9 | 51 => 65 | 55 => 69 | 57 => 71 | 58 => 72 | 33 => 30 | n => n, fun | n => n⟩
theorem sortedL : Go.Proofs.SlLaysZ.n6 Try.prog sortedL_ren := {
  mixed := by kernel_rfl
  f6 := ⟨Try.f19.name, by decide, Try.func19.trans (congrArg some (by kernel_rfl))⟩
  f8 := ⟨Try.f21.name, by decide, Try.func21.trans (congrArg some (by kernel_rfl))⟩
  f11 := ⟨Try.f24.name, by decide, Try.func24.trans (congrArg some (by kernel_rfl))⟩
  t0 := Try.underlying0
  a0 := Try.isAgg0
  z0 := Try.sizeOf0
  v0 := Try.zeroValue0
  t24 := Try.underlying38
  a24 := Try.isAgg38
  z24 := Try.sizeOf38
  v24 := Try.zeroValue38
  t26 := Try.underlying9
  a26 := Try.isAgg9
  z26 := Try.sizeOf9
  v26 := Try.zeroValue9
  t28 := Try.underlying45
  a28 := Try.isAgg45
  z28 := Try.sizeOf45
  v28 := Try.zeroValue45
  i26 := by kernel_rfl }
end Go.Proofs.Ytlhogpnfongfmaa
