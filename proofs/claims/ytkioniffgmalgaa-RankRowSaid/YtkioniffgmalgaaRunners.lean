/-
  Runners' one order.
-/
import Derived.Test.YtkioniffgmalgaaRank7
import Derived.Shelf.SlSortCmp.Insertion
import Derived.Shelf.GgSortFunc.RowK
namespace Go.Proofs.Ytkioniffgmalgaa
open Go.RowKit Go.Sort Go.Shelf Sp
set_option linter.unusedVariables false

theorem cfR_neg (x y : Rn) : cfR x y < 0 ↔ (x.has = true ∧ y.has = false) ∨ (x.has = y.has ∧ (y.score < x.score ∨ (x.score = y.score ∧ x.place < y.place))) := by
  obtain ⟨xp, xs, xh⟩ := x
  obtain ⟨yp, ys, yh⟩ := y
  rcases Int.lt_trichotomy ys xs with h1 | h1 | h1 <;> rcases Int.lt_trichotomy (xp : Int) yp with h2 | h2 | h2 <;> cases xh <;> cases yh <;> simp [cfR, Rn.none, orI, cmpI] <;> omega

theorem ltR_iff (x y : Rn) : ltOf cfR x y = true ↔ (x.has = true ∧ y.has = false) ∨ (x.has = y.has ∧ (y.score < x.score ∨ (x.score = y.score ∧ x.place < y.place))) := by
  unfold ltOf
  rw [decide_eq_true_iff, cfR_neg]
theorem ltR_not (x y : Rn) : ltOf cfR x y = false ↔ ¬ ((x.has = true ∧ y.has = false) ∨ (x.has = y.has ∧ (y.score < x.score ∨ (x.score = y.score ∧ x.place < y.place)))) := by
  rw [← ltR_iff]; simp

theorem ltR_swo : SWO (ltOf cfR) where
  irrefl x := by rw [ltR_not]; cases x.has <;> simp
  trans x y z h1 h2 := by
    rw [ltR_iff] at *
    cases hx : x.has <;> cases hy : y.has <;> cases hz : z.has <;> simp [hx, hy, hz] at h1 h2 ⊢ <;> omega
  ntrans x y z h1 h2 := by
    rw [ltR_not] at *
    cases hx : x.has <;> cases hy : y.has <;> cases hz : z.has <;> simp [hx, hy, hz] at h1 h2 ⊢ <;> omega

theorem ltR_total (x y : Rn) (h1 : ltOf cfR x y = false) (h2 : ltOf cfR y x = false) : x = y := by
  rw [ltR_not] at *
  obtain ⟨xp, xs, xh⟩ := x
  obtain ⟨yp, ys, yh⟩ := y
  cases xh <;> cases yh <;> simp at h1 h2 ⊢ <;> omega

/-- The order of runners. -/
def leR (x y : Rn) : Bool := !ltOf cfR y x
def ordR (l : List Rn) : List Rn := l.mergeSort leR

end Go.Proofs.Ytkioniffgmalgaa
