/-
  Two slices of bytes in one block: each owns its row.
-/
import Derived.Test.YtokdcddmljfgnaaRelayZ
namespace Go.Proofs.Ytokdcddmljfgnaa
open Go.RowKit Go.Shelf
set_option linter.unusedVariables false

structure TRows (w : World) (g base : Nat) (v : Nat → Value) (X : Nat → List Int) : Prop where
  blk : Blk w g 74 #[v 0, v 1]
  own : ∀ i, i = 0 ∨ i = 1 → w.ownsRow base 5 1 (v i) (X i).length (bcells (X i))
  apart : Apart (v 0) (v 1)
  lo : g < base ∧ base ≤ w.heap.size

section
variable {w w' w3 : World} {g base i : Nat} {v : Nat → Value} {X : Nat → List Int} {L : List Nat} {u : Value} {ys : List Int}
theorem tr_cell (h : Blk w g 74 #[v 0, v 1]) (hi : i = 0 ∨ i = 1) : w.cell? ⟨g, i, none⟩ = some (v i) := by
  rcases hi with rfl | rfl
  · exact h.cell 0
  · exact h.cell 1
theorem TRows.cell (h : TRows w g base v X) (hi : i = 0 ∨ i = 1) : w.cell? ⟨g, i, none⟩ = some (v i) := tr_cell h.blk hi
theorem TRows.frozen (h : TRows w g base v X) : w.frozen? ⟨g, i, none⟩ = false := h.blk.frozen i
theorem TRows.form (h : TRows w g base v X) (hi : i = 0 ∨ i = 1) : ∃ A c, v i = .slice A (X i).length c := own_slice (h.own i hi)
theorem TRows.blocks (h : TRows w g base v X) (hi : i = 0 ∨ i = 1) {x : Nat} (hx : (v i).ownBlock = some x) : base ≤ x ∧ x < w.heap.size := ⟨own_ge (h.own i hi) hx, own_lt (h.own i hi) hx⟩
theorem TRows.fr (h : TRows w g base v X) (hf : Fr L w w') (hL : ∀ x ∈ L, x ∉ VL g v) : TRows w' g base v X :=
  ⟨hf.blk h.blk (fun hm => hL _ hm (by simp [mem_VL])), fun i hi => hf.own (h.own i hi) (fun x hx hm => hL x hm (mem_VL.2 (by rcases hi with rfl | rfl <;> simp [hx]))), h.apart, ⟨h.lo.1, Nat.le_trans h.lo.2 hf.size⟩⟩
theorem TRows.fr0 (h : TRows w g base v X) (hf : Fr [] w w') : TRows w' g base v X := h.fr hf (by simp)
/-- Below base there are none of its rows. -/
theorem TRows.frB (h : TRows w g base v X) (hf : Fr L w w') (hL : ∀ x ∈ L, x < base ∧ x ≠ g) : TRows w' g base v X := h.fr hf (fun x hx hm => by
  have h1 := hL x hx
  rw [mem_VL] at hm
  rcases hm with hm | hm | hm
  · exact h1.2 hm
  · have := (h.blocks (i := 0) (.inl rfl) hm).1; omega
  · have := (h.blocks (i := 1) (.inr rfl) hm).1; omega)
theorem TRows.apartI (h : TRows w g base v X) (hi : i = 0 ∨ i = 1) : Apart (v i) (v (1 - i)) := by
  rcases hi with rfl | rfl
  · exact h.apart
  · exact h.apart.symm
/-- An append onto row i, and the store of what it tells. -/
theorem TRows.app (h : TRows w g base v X) (hi : i = 0 ∨ i = 1) (hg : w.grownBy w3 (v i).ownBlock) (hu : w3.ownsRow base 5 1 u ys.length (bcells ys)) (hat : u.ownBlock = (v i).ownBlock ∨ u.ownBlock = some w.heap.size) :
    TRows (w3.setCell ⟨g, i, none⟩ u) g base (upd v i u) (upd X i ys) := by
  have hb3 : Blk w3 g 74 #[v 0, v 1] := blk_grown h.blk hg (fun e => by have := (h.blocks hi e).1; have := h.lo.1; omega)
  have ho3 := (Fr.of_grownO hg).own (h.own (1 - i) (by omega)) (fun x hx hm => h.apartI hi x (by simpa using hm) hx)
  have hap := apart_of (h.apartI hi) (h.own (1 - i) (by omega)) hat
  have hlo : g < base ∧ base ≤ w3.heap.size := ⟨h.lo.1, Nat.le_trans h.lo.2 hg.size⟩
  have hf : Fr [g] w3 (w3.setCell ⟨g, i, none⟩ u) := (Fr.refl [g] w3).setCell (.inl (by simp)) _
  have hu' := hf.own hu (fun x hx hm => by have := own_ge hu hx; simp at hm; omega)
  have ho' := hf.own ho3 (fun x hx hm => by have := own_ge ho3 hx; simp at hm; omega)
  rcases hi with rfl | rfl
  · refine ⟨hb3.set_ 0 u, fun j hj => ?_, by simpa [upd] using hap, ⟨hlo.1, Nat.le_trans hlo.2 hf.size⟩⟩
    rcases hj with rfl | rfl
    · simpa [upd] using hu'
    · simpa [upd] using ho'
  · refine ⟨hb3.set_ 1 u, fun j hj => ?_, by simpa [upd] using hap.symm, ⟨hlo.1, Nat.le_trans hlo.2 hf.size⟩⟩
    rcases hj with rfl | rfl
    · simpa [upd] using ho'
    · simpa [upd] using hu'
end

/-- The rows of one pair lie apart from those of the other. -/
def Cross (v u : Nat → Value) : Prop := ∀ i j, (i = 0 ∨ i = 1) → (j = 0 ∨ j = 1) → Apart (v i) (u j)
theorem Cross.symm {v u : Nat → Value} (h : Cross v u) : Cross u v := fun i j hi hj => (h j i hj hi).symm
theorem Cross.app {w : World} {v u : Nat → Value} {i g base : Nat} {x : Value} {X : Nat → List Int} (h : Cross v u) (hr : TRows w g base u X) (hi : i = 0 ∨ i = 1) (hat : x.ownBlock = (v i).ownBlock ∨ x.ownBlock = some w.heap.size) : Cross (upd v i x) u := fun k j hk hj => by
  by_cases e : k = i
  · subst e; rw [upd_same]; exact apart_of (h k j hk hj) (hr.own j hj) hat
  · rw [upd_other _ _ e]; exact h k j hk hj
/-- The other pair stands through an append and a store. -/
theorem TRows.other {w w3 : World} {v u : Nat → Value} {i g o base : Nat} {x : Value} {X : Nat → List Int} (h : TRows w o base u X) (hc : Cross v u) (hi : i = 0 ∨ i = 1) (hg : w.grownBy w3 (v i).ownBlock) (hlt : ∀ b, (v i).ownBlock = some b → base ≤ b) (hgo : g ≠ o) (hgb : g < base) :
    TRows (w3.setCell ⟨g, i, none⟩ x) o base u X := by
  have h1 : TRows w3 o base u X := h.fr (Fr.of_grownO hg) (fun b hb hm => by
    have hb' : (v i).ownBlock = some b := by simpa using hb
    rw [mem_VL] at hm
    rcases hm with hm | hm | hm
    · have := hlt b hb'; have := h.lo.1; omega
    · exact hc i 0 hi (.inl rfl) b hb' hm
    · exact hc i 1 hi (.inr rfl) b hb' hm)
  exact h1.frB (L := [g]) ((Fr.refl [g] w3).setCell (.inl (by simp)) _) (by simp; omega)

end Go.Proofs.Ytokdcddmljfgnaa
