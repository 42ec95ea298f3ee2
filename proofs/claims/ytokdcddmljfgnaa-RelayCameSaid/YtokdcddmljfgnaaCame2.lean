/-
  RelayCame's walk, at every size.
-/
import Derived.Test.YtokdcddmljfgnaaCame
namespace Go.Proofs.Ytokdcddmljfgnaa
open Go.RowKit Go.Shelf
set_option linter.unusedVariables false

set_option maxRecDepth 100000 in
set_option maxHeartbeats 1000000 in
theorem came_calls (size : Int) (l : List ActR) (A : Option Addr) (cl : Nat) (w : World) (hX : ActsR w w.heap.size A l) (hl : l.length ≤ 9223372036854775807) (hsz : -9223372036854775808 ≤ size ∧ size ≤ 9223372036854775807) :
    Calls Try.prog 10 #[.int .i64 size, .slice A l.length cl] w fun e w' => e = .returned (.bool true) ∧ Fr [] w w' := by
  by_cases hg : 1 ≤ size ∧ size ≤ 256
  · obtain ⟨N, rfl⟩ : ∃ N : Nat, size = N := ⟨size.toNat, by omega⟩
    cases hgr : greatRB l
    · exact came_good N l A cl w hX hl (by omega) hgr
    · have HX := Lib.hid hX
      have HGR := Lib.hid hgr
      have hd1 : decide ((N : Int) < 1) = false := by simp; omega
      have hd2 : decide (256 < (N : Int)) = false := by simp; omega
      clear hX hgr
      go_enter Try.func10, Try.ntmps10
      go_wp2_with fail
      refine (awake26_calls w).mono ?_
      rintro e wa ⟨rfl, hfa⟩
      have hgc := greatR_calls A cl l _ wa (HX.out.fr hfa (Nat.le_refl _) (by simp)) hl
      rw [HGR.out] at hgc
      have HGC := Lib.hid hgc
      have HFA := Lib.hid hfa
      clear hgc hfa
      go_wp2_with fail
      refine HGC.out.mono ?_
      rintro e wx ⟨rfl, rfl⟩
      go_wp2_with fail
      go_ret
      exact ⟨rfl, HFA.out⟩
  · rcases Int.lt_or_le size 1 with h1 | h1
    · have hd1 : decide (size < 1) = true := by simp; omega
      clear hX
      go_enter Try.func10, Try.ntmps10
      go_wp2_with fail
      refine (awake26_calls w).mono ?_
      rintro e wa ⟨rfl, hfa⟩
      go_wp2_with fail
      go_ret
      exact ⟨rfl, hfa⟩
    · have hd1 : decide (size < 1) = false := by simp; omega
      have hd2 : decide (256 < size) = true := by simp; omega
      clear hX
      go_enter Try.func10, Try.ntmps10
      go_wp2_with fail
      refine (awake26_calls w).mono ?_
      rintro e wa ⟨rfl, hfa⟩
      go_wp2_with fail
      go_ret
      exact ⟨rfl, hfa⟩

end Go.Proofs.Ytokdcddmljfgnaa
