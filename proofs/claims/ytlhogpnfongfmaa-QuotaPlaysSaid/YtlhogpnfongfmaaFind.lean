/-
  A region of a function's code, taken out of it, to be walked by itself.
-/
import Derived.Test.YtlhogpnfongfmaaSt27
namespace Go.Proofs.Ytlhogpnfongfmaa
open Go.RowKit

/-- A region out of a function's code. -/
def findR (n : Nat) : Code → Option Code
  | .region id ops d => if id = n then some (.region id ops d) else none
  | .seq a b => match findR n a with
    | some c => some c
    | none => findR n b
  | .cond _ a b => match findR n a with
    | some c => some c
    | none => findR n b
  | .block _ c => findR n c
  | .loop c => findR n c
  | .scope c => findR n c
  | _ => none
theorem wp_only {P : Program} {c : Code} {a : Act} {w : World} {Q : Exit → Act → World → Prop} (h : Code.wp P c (Exit.then (fun a' w' => Q .normal a' w') (fun _ _ _ => False)) a w) : Code.wp P c Q a w :=
  wp_mono h (fun e a' w' hq => by cases e <;> first | exact hq | exact hq.elim)

end Go.Proofs.Ytlhogpnfongfmaa
