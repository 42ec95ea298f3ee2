/-
  A slice of runners is no longer than its capacity.
-/
import Derived.Test.YtkioniffgmalgaaArgs8
namespace Go.Proofs.Ytkioniffgmalgaa
open Go.ChangeShapes Go.WideShapes Go.ChangeAt Go.RowKit Go.Deep
set_option linter.unusedVariables false

theorem runs_cap {H : Type} {enc : TypeId × Value → H} {W : World} {fuel : Nat} {a0 : Option Addr} {len cap : Nat} {x : DataW H × List MemPlace}
    (h : DataW.trod enc Try.prog W 0 (fun _ => true) true fuel 37 [.slice a0 len cap] = some x) : len ≤ cap := by
  rcases open_slice_fields Try.underlying37 Try.underlying46 (by kernel_rfl) (by kernel_rfl) h with ⟨hcs, hx⟩ | ⟨a, len', cap', m, D, Pl, hcs, _, hlc, hcm, hm, hx, hi⟩
  · simp at hcs
    omega
  · simp at hcs
    omega

end Go.Proofs.Ytkioniffgmalgaa
