/-
  Arguments opened: a slice of strings, a slice of ints.
-/
import Derived.Test.YtkioniffgmalgaaArgs7
import Derived.Test.YtkioniffgmalgaaRunRow
import Derived.SliceStrings
namespace Go.Proofs.Ytkioniffgmalgaa
open Go.ChangeShapes Go.WideShapes Go.ChangeAt Go.RowKit Go.Deep
set_option linter.unusedVariables false

theorem cells9 : Try.prog.cellsOf 9 = 1 := by kernel_rfl
theorem cells3 : Try.prog.cellsOf 3 = 1 := by kernel_rfl
theorem add_at1 (b off n : Nat) : Addr.add ⟨b, off, none⟩ n = ⟨b, off + n, none⟩ := by
  unfold Addr.add; split
  · next h => simp
  · rfl

theorem names_of {H : Type} {enc : TypeId × Value → H} {W : World} {fuel : Nat} {a0 : Option Addr} {len cap : Nat} {x : DataW H × List MemPlace}
    (h : DataW.trod enc Try.prog W 0 (fun _ => true) true fuel 52 [.slice a0 len cap] = some x) (hlt : ∀ p ∈ x.2, p.block < W.heap.size) :
    ∃ l : List ByteArray, l.length = len ∧ StrsAt W a0 l (fun _ => True) ∧ (∀ s ∈ l, s.size ≤ 9223372036854775807) ∧ len ≤ 9223372036854775807 := by
  rcases Go.ChangeShapes.open_strings Try.underlying52 Try.underlying9 cells9 h with ⟨hcs, hx⟩ | ⟨a, len', cap', ss, hcs, _, hl, hm, hz, hx, hcell, hwz⟩
  · simp at hcs
    obtain ⟨rfl, rfl, rfl⟩ := hcs
    exact ⟨[], rfl, fun h => absurd h (by simp), by simp, by omega⟩
  · simp at hcs
    obtain ⟨rfl, rfl, rfl⟩ := hcs
    simp only [if_true] at hz
    refine ⟨ss.take len, by simp; omega, fun hpos => ?_, fun s hs => hwz s (List.mem_of_mem_take hs), by unfold maxLen at hm; omega⟩
    simp at hpos
    obtain ⟨b, off, spot⟩ := a
    have hspot : spot = none := by simpa [Addr.add] using World.cell?_spot (hcell 0 (by omega))
    subst hspot
    refine ⟨b, off, rfl, trivial, hlt (.cell b off) ?_, fun k s hk => ?_⟩
    · subst hx; exact MemPlace.mem_row.2 ⟨0, by omega, by simp⟩
    · rw [List.getElem?_take] at hk
      split at hk
      · next hkl =>
        have := hcell k (by omega)
        rw [add_at1] at this
        rw [this, List.getD_eq_getElem?_getD, hk]
        rfl
      · cases hk

theorem weights_of {H : Type} {enc : TypeId × Value → H} {W : World} {fuel : Nat} {a0 : Option Addr} {len cap : Nat} {x : DataW H × List MemPlace}
    (h : DataW.trod enc Try.prog W 0 (fun _ => true) true fuel 40 [.slice a0 len cap] = some x) (hlt : ∀ p ∈ x.2, p.block < W.heap.size) :
    ∃ l : List Int, l.length = len ∧ IntsAt W a0 l (fun _ => True) ∧ (∀ s ∈ l, -9223372036854775808 ≤ s ∧ s ≤ 9223372036854775807) ∧ len ≤ 9223372036854775807 := by
  rcases open_ints Try.underlying40 Try.underlying3 cells3 h with ⟨hcs, hx⟩ | ⟨a, len', cap', ss, hcs, _, hl, hm, hz, hx, hcell, hwz⟩
  · simp at hcs
    obtain ⟨rfl, rfl, rfl⟩ := hcs
    exact ⟨[], rfl, fun h => absurd h (by simp), by simp, by omega⟩
  · simp at hcs
    obtain ⟨rfl, rfl, rfl⟩ := hcs
    simp only [if_true] at hz
    refine ⟨ss.take len, by simp; omega, fun hpos => ?_, fun s hs => wf_i64_bd (hwz s (List.mem_of_mem_take hs)), by unfold maxLen at hm; omega⟩
    simp at hpos
    obtain ⟨b, off, spot⟩ := a
    have hspot : spot = none := by simpa [Addr.add] using World.cell?_spot (hcell 0 (by omega))
    subst hspot
    refine ⟨b, off, rfl, trivial, hlt (.cell b off) ?_, fun k s hk => ?_⟩
    · subst hx; exact MemPlace.mem_row.2 ⟨0, by omega, by simp⟩
    · rw [List.getElem?_take] at hk
      split at hk
      · next hkl =>
        have := hcell k (by omega)
        rw [add_at1] at this
        rw [this, List.getD_eq_getElem?_getD, hk]
        rfl
      · cases hk

end Go.Proofs.Ytkioniffgmalgaa
