/-
  Arguments opened: a slice of slices of bytes.
-/
import Derived.Test.YtkioniffgmalgaaArgs
import Derived.Test.YtkioniffgmalgaaAdds
namespace Go.Proofs.Ytkioniffgmalgaa
open Go.ChangeShapes Go.WideShapes Go.ChangeAt Go.RowKit Go.Deep Sp
set_option linter.unusedVariables false

theorem cells31 : Try.prog.cellsOf 31 = 1 := by kernel_rfl

theorem bytes_of' {H : Type} {enc : TypeId × Value → H} {W : World} {fuel : Nat} {v : Value} {x : DataW H × List MemPlace}
    (h : DataW.trod enc Try.prog W 0 (fun _ => true) true fuel 31 [v] = some x) (hlt : ∀ p ∈ x.2, p.block < W.heap.size) :
    ∃ p : Piece, v = .slice p.at_ p.xs.length p.cap ∧ BytesAt W p.at_ p.xs (fun _ => True) ∧ Byts p.xs ∧ p.xs.length ≤ 9223372036854775807 := by
  have hs : ∃ A len cap, v = .slice A len cap := by
    rcases open_ints Try.underlying31 Try.underlying5 cells5 h with ⟨hcs, _⟩ | ⟨a, len', cap', zs, hcs, _⟩ <;> simp at hcs
    · exact ⟨_, _, _, hcs⟩
    · exact ⟨_, _, _, hcs⟩
  obtain ⟨A, len, cap, rfl⟩ := hs
  obtain ⟨xs, rfl, h1, h2, h3, h4⟩ := bytes_of h hlt
  exact ⟨⟨A, cap, xs⟩, rfl, h1, h2, by show xs.length ≤ _; omega⟩

theorem pieces_of {H : Type} {enc : TypeId × Value → H} {W : World} {fuel : Nat} {a0 : Option Addr} {len cap : Nat} {x : DataW H × List MemPlace}
    (h : DataW.trod enc Try.prog W 0 (fun _ => true) true fuel 23 [.slice a0 len cap] = some x) (hlt : ∀ p ∈ x.2, p.block < W.heap.size) :
    ∃ ps : List Piece, ps.length = len ∧ PiecesAt W a0 ps ∧ len ≤ 9223372036854775807 := by
  rcases open_slice1 Try.underlying23 cells31 h with ⟨hcs, hx⟩ | ⟨a, len', cap', m, n, V, D, Pl, hcs, _, hlc, hcm, hm, hx, hi⟩
  · simp at hcs
    obtain ⟨rfl, rfl, rfl⟩ := hcs
    exact ⟨[], rfl, ⟨fun h => absurd h (by simp), fun p hp => by simp at hp⟩, by omega⟩
  · simp at hcs
    obtain ⟨rfl, rfl, rfl⟩ := hcs
    simp only [if_true] at hm
    subst hm
    obtain ⟨ps, hl, hp⟩ := list_of (α := Piece) (p := fun i p => W.cell? (a.add i) = some (.slice p.at_ p.xs.length p.cap) ∧ BytesAt W p.at_ p.xs (fun _ => True) ∧ Byts p.xs ∧ p.xs.length ≤ 9223372036854775807) len (fun i him => by
      obtain ⟨hc, ht⟩ := hi i (by omega)
      obtain ⟨p, hv, h1, h2, h3⟩ := bytes_of' ht (fun y hy => hlt y (by subst hx; refine List.mem_append.2 (.inr (List.mem_flatMap.2 ⟨i, by simp; omega, hy⟩))))
      exact ⟨p, by rw [hc, hv], h1, h2, h3⟩)
    refine ⟨ps, hl, ⟨fun hpos => ?_, fun p hpm => ?_⟩, by unfold maxLen at hcm; omega⟩
    · obtain ⟨b, off, spot⟩ := a
      obtain ⟨p0, hp0⟩ : ∃ p, ps[0]? = some p := ⟨_, List.getElem?_eq_getElem hpos⟩
      have hspot : spot = none := by
        have := (hp 0 p0 hp0).1
        simpa [Addr.add] using World.cell?_spot this
      subst hspot
      refine ⟨b, off, rfl, hlt (.cell b off) (by subst hx; exact List.mem_append.2 (.inl (MemPlace.mem_row.2 ⟨0, by omega, by simp⟩))), fun i p hip => ?_⟩
      have := (hp i p hip).1
      have e : (⟨b, off, none⟩ : Addr).add i = ⟨b, off + i, none⟩ := by unfold Addr.add; split <;> simp_all
      rwa [e] at this
    · obtain ⟨i, hip⟩ := List.getElem?_of_mem hpm
      exact (hp i p hip).2

end Go.Proofs.Ytkioniffgmalgaa
