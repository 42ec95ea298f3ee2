/-
  RingPlays' walk, at every size.
-/
import Derived.Test.YtokdcddmljfgnaaPlays
namespace Go.Proofs.Ytokdcddmljfgnaa
open Go.RowKit Go.Shelf
set_option linter.unusedVariables false

set_option maxRecDepth 100000 in
set_option maxHeartbeats 1000000 in
theorem plays_calls (size : Int) (l : List ActD) (A : Option Addr) (cl : Nat) (w : World) (hX : Acts w w.heap.size A l) (hl : l.length ≤ 9223372036854775807) (hsz : -9223372036854775808 ≤ size ∧ size ≤ 9223372036854775807) :
    Calls Try.prog 4 #[.int .i64 size, .slice A l.length cl] w fun e w' => e = .returned (.bool true) ∧ Fr [] w w' := by
  cases hgr : greatB l
  · by_cases hg : 1 ≤ size ∧ size ≤ 4096
    · obtain ⟨N, rfl⟩ : ∃ N : Nat, size = N := ⟨size.toNat, by omega⟩
      exact plays_good N l A cl w hX hl (by omega) hgr
    · have hgc := great_calls A cl l _ w hX hl
      rw [hgr] at hgc
      have HGC := Lib.hid hgc
      have hb : size < 1 ∨ 4096 < size := by omega
      clear hX hgr hgc
      go_enter Try.func4, Try.ntmps4
      go_wp2_with fail
      refine HGC.out.mono ?_
      rintro e wa ⟨rfl, rfl⟩
      go_wp2_with fail
      refine (new_bad size w hb).mono ?_
      rintro e wa ⟨rfl, rfl⟩
      go_wp2_with fail
      refine (rnew_bad size w hb).mono ?_
      rintro e wa ⟨rfl, rfl⟩
      go_wp2_with fail
      go_ret
      exact ⟨rfl, Fr.refl _ _⟩
  · have hgc := great_calls A cl l _ w hX hl
    rw [hgr] at hgc
    have HGC := Lib.hid hgc
    clear hX hgr hgc
    go_enter Try.func4, Try.ntmps4
    go_wp2_with fail
    refine HGC.out.mono ?_
    rintro e wa ⟨rfl, rfl⟩
    go_wp2_with fail
    go_ret
    exact ⟨rfl, Fr.refl _ _⟩

end Go.Proofs.Ytokdcddmljfgnaa
