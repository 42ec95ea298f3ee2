/-
  A round's halves by contracts.
-/
import Derived.Test.YtkioniffgmalgaaSip
import Derived.Deep.RegionHeld3
import Derived.BigRegion
import Derived.Deep.RegionWith
import Derived.Deep.RegionLaw
import Derived.Deep.AppendLies
import Derived.StillTailTactics
namespace Go.Proofs.Ytkioniffgmalgaa
open Go.RowKit Sp

/-- A state as a value. -/
abbrev stV (s : St) : Value := .agg #[.int .u64 s.a, .int .u64 s.b, .int .u64 s.c, .int .u64 s.d]

set_option maxHeartbeats 1000000 in
theorem half1_calls (a b c d : Int) (hb : W b) (hd : W d) (w : World) :
    Calls Try.prog 44 #[.agg #[.int .u64 a, .int .u64 b, .int .u64 c, .int .u64 d], .int .i64 0, .int .i64 1, .int .i64 13, .int .i64 2, .int .i64 3, .int .i64 16] w fun e w' => e = .returned (stV (half1 ⟨a, b, c, d⟩)) ∧ Fr [] w w' := by
  go_enter Try.func44, Try.ntmps44
  go_wp2_with fail
  go_region
  go_wp2_with fail
  go_region_law (first | (go_simp; go_at_call 52; refine (rot13_calls b hb _).mono ?_; rintro e w' ⟨rfl, rfl⟩))
  all_goals go_wp2_with (go_at_call 52; refine (rot32_calls (ad a b) (W.ad a b) _).mono ?_; rintro e w' ⟨rfl, rfl⟩)
  all_goals go_region
  all_goals go_wp2_with fail
  all_goals go_region_law (first | (go_simp; go_at_call 52; refine (rot16_calls d hd _).mono ?_; rintro e w' ⟨rfl, rfl⟩))
  all_goals go_wp2_with fail
  all_goals (refine bodyPost_ret (v := stV (half1 ⟨a, b, c, d⟩)) ?_ rfl ⟨rfl, ?_⟩)
  all_goals first
    | (simp [results, Try.results44, go_sem, half1, xo, ad]; done)
    | exact ((((((Fr.refl _ _).alloc _).alloc _).drew).drew).drew).drew

set_option maxHeartbeats 1000000 in
theorem half2_calls (a b c d : Int) (hb : W b) (hd : W d) (w : World) :
    Calls Try.prog 44 #[.agg #[.int .u64 a, .int .u64 b, .int .u64 c, .int .u64 d], .int .i64 2, .int .i64 1, .int .i64 17, .int .i64 0, .int .i64 3, .int .i64 21] w fun e w' => e = .returned (stV (half2 ⟨a, b, c, d⟩)) ∧ Fr [] w w' := by
  go_enter Try.func44, Try.ntmps44
  go_wp2_with fail
  go_region
  go_wp2_with fail
  go_region_law (first | (go_simp; go_at_call 52; refine (rot17_calls b hb _).mono ?_; rintro e w' ⟨rfl, rfl⟩))
  all_goals go_wp2_with (go_at_call 52; refine (rot32_calls (ad c b) (W.ad c b) _).mono ?_; rintro e w' ⟨rfl, rfl⟩)
  all_goals go_region
  all_goals go_wp2_with fail
  all_goals go_region_law (first | (go_simp; go_at_call 52; refine (rot21_calls d hd _).mono ?_; rintro e w' ⟨rfl, rfl⟩))
  all_goals go_wp2_with fail
  all_goals (refine bodyPost_ret (v := stV (half2 ⟨a, b, c, d⟩)) ?_ rfl ⟨rfl, ?_⟩)
  all_goals first
    | (simp [results, Try.results44, go_sem, half2, xo, ad]; done)
    | exact ((((((Fr.refl _ _).alloc _).alloc _).drew).drew).drew).drew

end Go.Proofs.Ytkioniffgmalgaa
