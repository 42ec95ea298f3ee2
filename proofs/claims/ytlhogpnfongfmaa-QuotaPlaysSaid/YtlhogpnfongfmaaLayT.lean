/-
  One laying of the shelf's at this dump, in plain words (printed by wip/tools/lay_plain.py).
-/
import Derived.Test.YtlhogpnfongfmaaBase
import Derived.Shelf.SortM.Plain
import Derived.Shelf.SortM.SortNone
namespace Go.Proofs.Ytlhogpnfongfmaa
open Go.Shelf
def sortL_ren : Go.Shelf.Ren := ⟨fun | 6 => 22 | 8 => 26 | 9 => 25 | 19 => 36 | 20 => 37 | 21 => 27 | 22 => 28 | 23 => 29 | 24 => 30 | 25 => 31 | 26 => 32 | 27 => 33 | 28 => 34 | 29 => 35 | 36 => 38 | 31 => 39 | 32 => 40 | 37 => 41 | 38 => 42 | 39 => 43 | 41 => 44 | n => n, fun | 27 => 38 | 29 => 9 | 3 => 3 | 32 => 51 | 26 => 38 | 0 => 0 | 44 => 62 | 46 => 64 | 4 => 4 | 36 => 54 | 35 => 53 | 41 => 59 | 5 => 5 | 9 => 9 | 53 => 65 | 57 => 69 | 63 => 71 | 64 => 72 | n => n, fun | n => n⟩
theorem sortL : Go.Proofs.SlLaysM.n6 Try.prog sortL_ren := {
  mixed := by kernel_rfl
  f6 := ⟨Try.f22.name, by decide, Try.func22.trans (congrArg some (by kernel_rfl))⟩
  f8 := Try.func26.trans (congrArg some (by kernel_rfl))
  f9 := ⟨Try.f25.name, by decide, Try.func25.trans (congrArg some (by kernel_rfl))⟩
  f19 := Try.func36.trans (congrArg some (by kernel_rfl))
  f20 := Try.func37.trans (congrArg some (by kernel_rfl))
  f21 := ⟨Try.f27.name, by decide, Try.func27.trans (congrArg some (by kernel_rfl))⟩
  f22 := ⟨Try.f28.name, by decide, Try.func28.trans (congrArg some (by kernel_rfl))⟩
  f23 := ⟨Try.f29.name, by decide, Try.func29.trans (congrArg some (by kernel_rfl))⟩
  f24 := ⟨Try.f30.name, by decide, Try.func30.trans (congrArg some (by kernel_rfl))⟩
  f25 := ⟨Try.f31.name, by decide, Try.func31.trans (congrArg some (by kernel_rfl))⟩
  f26 := ⟨Try.f32.name, by decide, Try.func32.trans (congrArg some (by kernel_rfl))⟩
  f27 := ⟨Try.f33.name, by decide, Try.func33.trans (congrArg some (by kernel_rfl))⟩
  f28 := ⟨Try.f34.name, by decide, Try.func34.trans (congrArg some (by kernel_rfl))⟩
  f29 := ⟨Try.f35.name, by decide, Try.func35.trans (congrArg some (by kernel_rfl))⟩
  f31 := Try.func39.trans (congrArg some (by kernel_rfl))
  f32 := Try.func40.trans (congrArg some (by kernel_rfl))
  f36 := ⟨Try.f38.name, by decide, Try.func38.trans (congrArg some (by kernel_rfl))⟩
  f37 := ⟨Try.f41.name, by decide, Try.func41.trans (congrArg some (by kernel_rfl))⟩
  f38 := ⟨Try.f42.name, by decide, Try.func42.trans (congrArg some (by kernel_rfl))⟩
  f39 := ⟨Try.f43.name, by decide, Try.func43.trans (congrArg some (by kernel_rfl))⟩
  f41 := ⟨Try.f44.name, by decide, Try.func44.trans (congrArg some (by kernel_rfl))⟩
  t0 := Try.underlying0
  a0 := Try.isAgg0
  z0 := Try.sizeOf0
  v0 := Try.zeroValue0
  t3 := Try.underlying3
  a3 := Try.isAgg3
  z3 := Try.sizeOf3
  v3 := Try.zeroValue3
  t4 := Try.underlying4
  a4 := Try.isAgg4
  z4 := Try.sizeOf4
  v4 := Try.zeroValue4
  t5 := Try.underlying5
  a5 := Try.isAgg5
  z5 := Try.sizeOf5
  v5 := Try.zeroValue5
  t9 := Try.underlying9
  a9 := Try.isAgg9
  z9 := Try.sizeOf9
  v9 := Try.zeroValue9
  t26 := Try.underlying38
  a26 := Try.isAgg38
  z26 := Try.sizeOf38
  v26 := Try.zeroValue38
  t27 := Try.underlying38
  a27 := Try.isAgg38
  z27 := Try.sizeOf38
  v27 := Try.zeroValue38
  t29 := Try.underlying9
  a29 := Try.isAgg9
  z29 := Try.sizeOf9
  v29 := Try.zeroValue9
  t32 := Try.underlying51
  a32 := Try.isAgg51
  z32 := Try.sizeOf51
  v32 := Try.zeroValue51
  t35 := Try.underlying53
  a35 := Try.isAgg53
  z35 := Try.sizeOf53
  v35 := Try.zeroValue53
  t36 := Try.underlying54
  a36 := Try.isAgg54
  z36 := Try.sizeOf54
  v36 := Try.zeroValue54
  t41 := Try.underlying59
  a41 := Try.isAgg59
  z41 := Try.sizeOf59
  v41 := Try.zeroValue59
  t44 := Try.underlying62
  a44 := Try.isAgg62
  z44 := Try.sizeOf62
  v44 := Try.zeroValue62
  t46 := Try.underlying64
  a46 := Try.isAgg64
  z46 := Try.sizeOf64
  v46 := Try.zeroValue64
  t53 := Try.underlying65
  a53 := Try.isAgg65
  z53 := Try.sizeOf65
  v53 := Try.zeroValue65
  t57 := Try.underlying69
  a57 := Try.isAgg69
  z57 := Try.sizeOf69
  v57 := Try.zeroValue69
  t63 := Try.underlying71
  a63 := Try.isAgg71
  z63 := Try.sizeOf71
  v63 := Try.zeroValue71
  t64 := Try.underlying72
  a64 := Try.isAgg72
  z64 := Try.sizeOf72
  v64 := Try.zeroValue72 }
end Go.Proofs.Ytlhogpnfongfmaa
