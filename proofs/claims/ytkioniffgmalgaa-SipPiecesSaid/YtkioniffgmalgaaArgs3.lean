/-
  Arguments opened: a slice of 16-bit numbers.
-/
import Derived.Test.YtkioniffgmalgaaArgs
import Derived.Test.YtkioniffgmalgaaPieces
namespace Go.Proofs.Ytkioniffgmalgaa
open Go.ChangeShapes Go.WideShapes Go.ChangeAt Go.RowKit Go.Deep Sp
set_option linter.unusedVariables false

theorem wf_u16_bd {n : Int} (h : (Lit.int .u16 n).wf = true) : 0 ≤ n ∧ n < 65536 := by
  have : 0 ≤ n ∧ n ≤ 65535 := by simpa [Lit.wf, IntKind.min, IntKind.max, IntKind.signed, IntKind.bits] using h
  omega
theorem cells48 : Try.prog.cellsOf 48 = 1 := by kernel_rfl

/-- A slice of 16-bit numbers. -/
theorem cuts_of {H : Type} {enc : TypeId × Value → H} {W : World} {fuel : Nat} {a0 : Option Addr} {len cap : Nat} {x : DataW H × List MemPlace}
    (h : DataW.trod enc Try.prog W 0 (fun _ => true) true fuel 47 [.slice a0 len cap] = some x) (hlt : ∀ p ∈ x.2, p.block < W.heap.size) :
    ∃ xs : List Int, xs.length = len ∧ CutsAt W a0 xs ∧ Cuts xs ∧ len ≤ 9223372036854775807 := by
  rcases open_ints Try.underlying47 Try.underlying48 cells48 h with ⟨hcs, hx⟩ | ⟨a, len', cap', zs, hcs, _, hl, hm, hz, hx, hcell, hwz⟩
  · simp at hcs
    obtain ⟨rfl, rfl, rfl⟩ := hcs
    exact ⟨[], rfl, fun h => absurd h (by simp), fun i => by simp, by omega⟩
  · simp at hcs
    obtain ⟨rfl, rfl, rfl⟩ := hcs
    simp only [if_true] at hz
    refine ⟨zs.take len, by simp; omega, fun hpos => ?_, fun i => ?_, by unfold maxLen at hm; omega⟩
    · simp at hpos
      obtain ⟨b, off, spot⟩ := a
      have hspot : spot = none := by simpa [Addr.add] using World.cell?_spot (hcell 0 (by omega))
      subst hspot
      refine ⟨b, off, rfl, hlt (.cell b off) ?_, fun k hk => ?_⟩
      · subst hx; exact MemPlace.mem_row.2 ⟨0, by omega, by simp⟩
      · simp at hk
        have := hcell k (by omega)
        have e : (⟨b, off, none⟩ : Addr).add k = ⟨b, off + k, none⟩ := by unfold Addr.add; split <;> simp_all
        rw [e] at this
        rw [this, getD_take, if_pos (by omega)]
    · rw [getD_take]
      split
      · rcases Nat.lt_or_ge i zs.length with hi | hi
        · rw [List.getD_eq_getElem?_getD, List.getElem?_eq_getElem hi]
          exact wf_u16_bd (hwz _ (List.getElem_mem hi))
        · rw [List.getD_eq_getElem?_getD, List.getElem?_eq_none hi]; simp
      · omega

end Go.Proofs.Ytkioniffgmalgaa
