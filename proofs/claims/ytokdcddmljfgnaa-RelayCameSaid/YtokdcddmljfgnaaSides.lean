/-
  A side's number out of any number; two bools in a block.
-/
import Derived.Test.YtokdcddmljfgnaaAwake26
namespace Go.Proofs.Ytokdcddmljfgnaa
open Go.RowKit Go.Shelf
set_option linter.unusedVariables false

theorem wrap64_in {x : Int} (h1 : -9223372036854775808 ≤ x) (h2 : x ≤ 9223372036854775807) : wrap64 x = x := by unfold wrap64; omega
theorem side_mod (x : Int) : ∃ s i, Value.int IntKind.i64 (wrap64 ((IntKind.u64.wrap x).tmod 2)) = Value.int IntKind.i64 s ∧ Sd s i := by
  have h0 : 0 ≤ IntKind.u64.wrap x := by rw [IntKind.wrap_u64]; omega
  obtain ⟨q, hq⟩ : ∃ q : Nat, IntKind.u64.wrap x = q := ⟨(IntKind.u64.wrap x).toNat, by omega⟩
  have h1 : (IntKind.u64.wrap x).tmod 2 = ((q % 2 : Nat) : Int) := by rw [hq]; rfl
  rw [h1, wrap64_in (by omega) (by omega)]
  refine ⟨_, q % 2, rfl, ?_⟩
  rcases (by omega : q % 2 = 0 ∨ q % 2 = 1) with h | h
  · exact .inl ⟨by rw [h]; rfl, h⟩
  · exact .inr ⟨by rw [h]; rfl, h⟩

/-- Two bools in a block. -/
def B2 (w : World) (g : Nat) (t : TypeId) (f : Nat → Bool) : Prop := Blk w g t #[.bool (f 0), .bool (f 1)]
section
variable {w w' : World} {g i : Nat} {t : TypeId} {f : Nat → Bool} {L : List Nat}
theorem B2.cell (h : B2 w g t f) (hi : i = 0 ∨ i = 1) : w.cell? ⟨g, i, none⟩ = some (.bool (f i)) := by
  rcases hi with rfl | rfl
  · exact Blk.cell h 0
  · exact Blk.cell h 1
theorem B2.frozen (h : B2 w g t f) : w.frozen? ⟨g, i, none⟩ = false := Blk.frozen h i
theorem B2.set_ (h : B2 w g t f) (hi : i = 0 ∨ i = 1) (x : Bool) : B2 (w.setCell ⟨g, i, none⟩ (.bool x)) g t (upd f i x) := by
  rcases hi with rfl | rfl
  · exact Blk.set_ h 0 _
  · exact Blk.set_ h 1 _
theorem B2.far (h : B2 w g t f) {q : Addr} (hq : g ≠ q.block) (u : Value) : B2 (w.setCell q u) g t f := Blk.far h hq u
theorem B2.fr (h : B2 w g t f) (hf : Fr L w w') (hn : g ∉ L) : B2 w' g t f := hf.blk h hn
theorem B2.lt (h : B2 w g t f) : g < w.heap.size := Blk.lt h
end

end Go.Proofs.Ytokdcddmljfgnaa
