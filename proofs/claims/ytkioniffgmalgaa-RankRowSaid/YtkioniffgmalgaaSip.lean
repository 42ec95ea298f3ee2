/-
  The sums' own functions by contracts.
-/
import Derived.Test.YtkioniffgmalgaaBase
import Derived.Test.YtkioniffgmalgaaPlain
import Derived.Outline
namespace Go.Proofs.Ytkioniffgmalgaa
open Go.RowKit Sp

theorem rot13_calls (x : Int) (hx : W x) (w : World) : Calls Try.prog 52 #[.int .u64 x, .int .i64 13] w fun e w' => e = .returned (.int .u64 (rot 13 x)) ∧ w = w' := by
  have hb : bits .and .u64 13 63 = 13 := by kernel_rfl
  go_enter Try.func52, Try.ntmps52
  go_wp2
  go_ret
  exact ⟨congrArg (fun n => Ending.returned (.int .u64 n)) (or_13 hx), rfl⟩

theorem rot16_calls (x : Int) (hx : W x) (w : World) : Calls Try.prog 52 #[.int .u64 x, .int .i64 16] w fun e w' => e = .returned (.int .u64 (rot 16 x)) ∧ w = w' := by
  have hb : bits .and .u64 16 63 = 16 := by kernel_rfl
  go_enter Try.func52, Try.ntmps52
  go_wp2
  go_ret
  exact ⟨congrArg (fun n => Ending.returned (.int .u64 n)) (or_16 hx), rfl⟩

theorem rot17_calls (x : Int) (hx : W x) (w : World) : Calls Try.prog 52 #[.int .u64 x, .int .i64 17] w fun e w' => e = .returned (.int .u64 (rot 17 x)) ∧ w = w' := by
  have hb : bits .and .u64 17 63 = 17 := by kernel_rfl
  go_enter Try.func52, Try.ntmps52
  go_wp2
  go_ret
  exact ⟨congrArg (fun n => Ending.returned (.int .u64 n)) (or_17 hx), rfl⟩

theorem rot21_calls (x : Int) (hx : W x) (w : World) : Calls Try.prog 52 #[.int .u64 x, .int .i64 21] w fun e w' => e = .returned (.int .u64 (rot 21 x)) ∧ w = w' := by
  have hb : bits .and .u64 21 63 = 21 := by kernel_rfl
  go_enter Try.func52, Try.ntmps52
  go_wp2
  go_ret
  exact ⟨congrArg (fun n => Ending.returned (.int .u64 n)) (or_21 hx), rfl⟩

theorem rot32_calls (x : Int) (hx : W x) (w : World) : Calls Try.prog 52 #[.int .u64 x, .int .i64 32] w fun e w' => e = .returned (.int .u64 (rot 32 x)) ∧ w = w' := by
  have hb : bits .and .u64 32 63 = 32 := by kernel_rfl
  go_enter Try.func52, Try.ntmps52
  go_wp2
  go_ret
  exact ⟨congrArg (fun n => Ending.returned (.int .u64 n)) (or_32 hx), rfl⟩

end Go.Proofs.Ytkioniffgmalgaa
