/-
  RelayPlays' walk, at every size.
-/
import Derived.Test.YtokdcddmljfgnaaRPlays
namespace Go.Proofs.Ytokdcddmljfgnaa
open Go.RowKit Go.Shelf
set_option linter.unusedVariables false

set_option maxRecDepth 100000 in
set_option maxHeartbeats 1000000 in
theorem rplays_calls (size : Int) (l : List ActR) (A : Option Addr) (cl : Nat) (w : World) (hX : ActsR w w.heap.size A l) (hl : l.length ≤ 9223372036854775807) (hsz : -9223372036854775808 ≤ size ∧ size ≤ 9223372036854775807) :
    Calls Try.prog 9 #[.int .i64 size, .slice A l.length cl] w fun e w' => e = .returned (.bool true) ∧ Fr [] w w' := by
  cases hgr : greatRB l
  · by_cases hg : 1 ≤ size ∧ size ≤ 256
    · obtain ⟨N, rfl⟩ : ∃ N : Nat, size = N := ⟨size.toNat, by omega⟩
      exact rplays_good N l A cl w hX hl (by omega) hgr
    · have hgc := greatR_calls A cl l _ w hX hl
      rw [hgr] at hgc
      have HGC := Lib.hid hgc
      have hb : size < 1 ∨ 256 < size := by omega
      clear hX hgr hgc
      go_enter Try.func9, Try.ntmps9
      go_wp2_with fail
      refine HGC.out.mono ?_
      rintro e wa ⟨rfl, rfl⟩
      go_wp2_with fail
      refine (rlnew_bad size w hb).mono ?_
      rintro e wa ⟨rfl, rfl⟩
      go_wp2_with fail
      refine (rfnew_bad size w hb).mono ?_
      rintro e wa ⟨rfl, rfl⟩
      go_wp2_with fail
      go_ret
      exact ⟨rfl, Fr.refl _ _⟩
  · have hgc := greatR_calls A cl l _ w hX hl
    rw [hgr] at hgc
    have HGC := Lib.hid hgc
    clear hX hgr hgc
    go_enter Try.func9, Try.ntmps9
    go_wp2_with fail
    refine HGC.out.mono ?_
    rintro e wa ⟨rfl, rfl⟩
    go_wp2_with fail
    go_ret
    exact ⟨rfl, Fr.refl _ _⟩

end Go.Proofs.Ytokdcddmljfgnaa
