/-
  Arguments opened: a slice of bytes.
-/
import Derived.Test.YtkioniffgmalgaaLaw
import Derived.Test.YtkioniffgmalgaaSum
namespace Go.Proofs.Ytkioniffgmalgaa
open Go.ChangeShapes Go.WideShapes Go.ChangeAt Go.RowKit Go.Deep Sp
set_option linter.unusedVariables false

theorem wf_u64_W {n : Int} (h : (Lit.int .u64 n).wf = true) : W n := by
  have : 0 ≤ n ∧ n ≤ 18446744073709551615 := by simpa [Lit.wf, IntKind.min, IntKind.max, IntKind.signed, IntKind.bits] using h
  unfold W; omega
theorem wf_u8_bd {n : Int} (h : (Lit.int .u8 n).wf = true) : 0 ≤ n ∧ n < 256 := by
  have : 0 ≤ n ∧ n ≤ 255 := by simpa [Lit.wf, IntKind.min, IntKind.max, IntKind.signed, IntKind.bits] using h
  omega
theorem cells5 : Try.prog.cellsOf 5 = 1 := by kernel_rfl

theorem getD_take (zs : List Int) (n i : Nat) : (zs.take n).getD i 0 = if i < n then zs.getD i 0 else 0 := by
  simp only [List.getD_eq_getElem?_getD, List.getElem?_take]
  split <;> rfl

/-- A slice of bytes. -/
theorem bytes_of {H : Type} {enc : TypeId × Value → H} {W : World} {fuel : Nat} {a0 : Option Addr} {len cap : Nat} {x : DataW H × List MemPlace}
    (h : DataW.trod enc Try.prog W 0 (fun _ => true) true fuel 31 [.slice a0 len cap] = some x) (hlt : ∀ p ∈ x.2, p.block < W.heap.size) :
    ∃ xs : List Int, xs.length = len ∧ BytesAt W a0 xs (fun _ => True) ∧ Byts xs ∧ len ≤ cap ∧ cap ≤ 9223372036854775807 := by
  rcases open_ints Try.underlying31 Try.underlying5 cells5 h with ⟨hcs, hx⟩ | ⟨a, len', cap', zs, hcs, _, hl, hm, hz, hx, hcell, hwz⟩
  · simp at hcs
    obtain ⟨rfl, rfl, rfl⟩ := hcs
    exact ⟨[], rfl, fun h => absurd h (by simp), byts_nil, Nat.le_refl _, by omega⟩
  · simp at hcs
    obtain ⟨rfl, rfl, rfl⟩ := hcs
    simp only [if_true] at hz
    refine ⟨zs.take len, by simp; omega, fun hpos => ?_, fun i => ?_, hl, by unfold maxLen at hm; omega⟩
    · simp at hpos
      obtain ⟨b, off, spot⟩ := a
      have hspot : spot = none := by simpa [Addr.add] using World.cell?_spot (hcell 0 (by omega))
      subst hspot
      refine ⟨b, off, rfl, trivial, hlt (.cell b off) ?_, fun k hk => ?_⟩
      · subst hx; exact MemPlace.mem_row.2 ⟨0, by omega, by simp⟩
      · simp at hk
        have := hcell k (by omega)
        have e : (⟨b, off, none⟩ : Addr).add k = ⟨b, off + k, none⟩ := by unfold Addr.add; split <;> simp_all
        rw [e] at this
        rw [this, getD_take, if_pos (by omega)]
    · rw [getD_take]
      split
      · rcases Nat.lt_or_ge i zs.length with hi | hi
        · rw [List.getD_eq_getElem?_getD, List.getElem?_eq_getElem hi]
          exact wf_u8_bd (hwz _ (List.getElem_mem hi))
        · rw [List.getD_eq_getElem?_getD, List.getElem?_eq_none hi]; simp
      · omega

end Go.Proofs.Ytkioniffgmalgaa
