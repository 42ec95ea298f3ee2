/-
  A relay's state, and what its functions do to it, in plain words; the relay's cells.
-/
import Derived.Test.YtokdcddmljfgnaaRelay
namespace Go.Proofs.Ytokdcddmljfgnaa
open Go.RowKit Go.Shelf
set_option linter.unusedVariables false

def upd {α : Type} (f : Nat → α) (i : Nat) (v : α) : Nat → α := fun j => if j = i then v else f j
theorem upd_same {α : Type} (f : Nat → α) (i : Nat) (v : α) : upd f i v i = v := by simp [upd]
theorem upd_other {α : Type} (f : Nat → α) {i j : Nat} (v : α) (h : j ≠ i) : upd f i v j = f j := by simp [upd, h]

/-- x: what came from a side and waits; e: whether it has ended; t: whether the side was shut. -/
structure Sta where
  x : Nat → List Int
  e : Nat → Bool
  t : Nat → Bool
def sta0 : Sta := ⟨fun _ => [], fun _ => false, fun _ => false⟩

def wn (N : Nat) (S : Sta) (i : Nat) : Nat := if S.e i then 0 else N - (S.x i).length
def putS (N : Nat) (S : Sta) (i : Nat) (bs : List Int) : Sta := { S with x := upd S.x i (S.x i ++ bs.take (min bs.length (wn N S i))) }
def endR (S : Sta) (i : Nat) : Int := if S.e i then 2 else 0
def endS (S : Sta) (i : Nat) : Sta := { S with e := upd S.e i true }
def takeN (S : Sta) (i : Nat) (k : Int) : Nat := min k.toNat (S.x (1 - i)).length
def takeS (S : Sta) (i : Nat) (k : Int) : Sta := { S with x := upd S.x (1 - i) ((S.x (1 - i)).drop (takeN S i k)) }
def shutB (S : Sta) (i : Nat) : Bool := S.e (1 - i) && decide ((S.x (1 - i)).length = 0) && !S.t i
def shutS (S : Sta) (i : Nat) : Sta := { S with t := upd S.t i (S.t i || shutB S i) }
def overB (S : Sta) : Bool := S.t 0 && S.t 1

def relCells (r : Nat → Nat) (S : Sta) : Array Value := #[.pointer (some ⟨r 0, 0, none⟩), .bool (S.e 0), .bool (S.t 1), .pointer (some ⟨r 1, 0, none⟩), .bool (S.e 1), .bool (S.t 0)]

structure RelS (w : World) (p : Nat) (r b : Nat → Nat) (N : Nat) (S : Sta) : Prop where
  blk : Blk w p 62 (relCells r S)
  ring : ∀ i, i = 0 ∨ i = 1 → RingS w (r i) (b i) N (S.x i)
  ne : p ≠ r 0 ∧ p ≠ b 0 ∧ p ≠ r 1 ∧ p ≠ b 1 ∧ r 0 ≠ r 1 ∧ r 0 ≠ b 1 ∧ b 0 ≠ r 1 ∧ b 0 ≠ b 1

section
variable {w w' : World} {p N i : Nat} {r b : Nat → Nat} {S : Sta} {L : List Nat}
theorem RelS.relC (h : RelS w p r b N S) : RelC w p (r 0) (r 1) (S.e 0) (S.t 1) (S.e 1) (S.t 0) := h.blk
theorem RelS.lt (h : RelS w p r b N S) (hi : i = 0 ∨ i = 1) : r i < w.heap.size ∧ b i < w.heap.size ∧ r i ≠ b i ∧ 0 < N ∧ N ≤ 4096 ∧ (S.x i).length ≤ N := (h.ring i hi).lt
theorem RelS.cellR (h : RelS w p r b N S) (hi : i = 0 ∨ i = 1) : w.cell? ⟨p, 3 * i, none⟩ = some (.pointer (some ⟨r i, 0, none⟩)) := by
  rcases hi with rfl | rfl
  · exact h.blk.cell 0
  · exact h.blk.cell 3
theorem RelS.cellE (h : RelS w p r b N S) (hi : i = 0 ∨ i = 1) : w.cell? ⟨p, 3 * i + 1, none⟩ = some (.bool (S.e i)) := by
  rcases hi with rfl | rfl
  · exact h.blk.cell 1
  · exact h.blk.cell 4
theorem RelS.cellT (h : RelS w p r b N S) (hi : i = 0 ∨ i = 1) : w.cell? ⟨p, 3 * i + 2, none⟩ = some (.bool (S.t (1 - i))) := by
  rcases hi with rfl | rfl
  · exact h.blk.cell 2
  · exact h.blk.cell 5
theorem RelS.fr (h : RelS w p r b N S) (hf : Fr L w w') (hL : ∀ x ∈ L, x ≠ p ∧ x ≠ r 0 ∧ x ≠ b 0 ∧ x ≠ r 1 ∧ x ≠ b 1) : RelS w' p r b N S :=
  ⟨hf.blk h.blk (fun hm => (hL _ hm).1 rfl), fun i hi => by
    rcases hi with rfl | rfl
    · exact (h.ring 0 (.inl rfl)).fr hf (fun hm => (hL _ hm).2.1 rfl) (fun hm => (hL _ hm).2.2.1 rfl)
    · exact (h.ring 1 (.inr rfl)).fr hf (fun hm => (hL _ hm).2.2.2.1 rfl) (fun hm => (hL _ hm).2.2.2.2 rfl), h.ne⟩
theorem RelS.fr0 (h : RelS w p r b N S) (hf : Fr [] w w') : RelS w' p r b N S := h.fr hf (by simp)
theorem RelS.ring_ (h : RelS w p r b N S) (hi : i = 0 ∨ i = 1) {ys : List Int} (hf : Fr L w w') (hL : ∀ x ∈ L, x = r i ∨ x = b i) (hr : RingS w' (r i) (b i) N ys) : RelS w' p r b N { S with x := upd S.x i ys } := by
  obtain ⟨n1, n2, n3, n4, n5, n6, n7, n8⟩ := h.ne
  rcases hi with rfl | rfl
  · refine ⟨hf.blk h.blk (fun hm => by have := hL _ hm; omega), fun j hj => ?_, h.ne⟩
    rcases hj with rfl | rfl
    · simpa [upd] using hr
    · simpa [upd] using (h.ring 1 (.inr rfl)).fr hf (fun hm => by have := hL _ hm; omega) (fun hm => by have := hL _ hm; omega)
  · refine ⟨hf.blk h.blk (fun hm => by have := hL _ hm; omega), fun j hj => ?_, h.ne⟩
    rcases hj with rfl | rfl
    · simpa [upd] using (h.ring 0 (.inl rfl)).fr hf (fun hm => by have := hL _ hm; omega) (fun hm => by have := hL _ hm; omega)
    · simpa [upd] using hr
theorem RelS.end_ (h : RelS w p r b N S) (hi : i = 0 ∨ i = 1) : RelS (w.setCell ⟨p, 3 * i + 1, none⟩ (.bool true)) p r b N (endS S i) := by
  have hf : Fr [p] w (w.setCell ⟨p, 3 * i + 1, none⟩ (.bool true)) := (Fr.refl [p] w).setCell (.inl (by simp)) _
  refine ⟨?_, fun j hj => (h.ring j hj).fr hf (by have := h.ne; rcases hj with rfl | rfl <;> simp <;> omega) (by have := h.ne; rcases hj with rfl | rfl <;> simp <;> omega), h.ne⟩
  rcases hi with rfl | rfl
  · exact h.blk.set_ 1 _
  · exact h.blk.set_ 4 _
theorem RelS.told (h : RelS w p r b N S) (hi : i = 0 ∨ i = 1) : RelS (w.setCell ⟨p, 3 * (1 - i) + 2, none⟩ (.bool true)) p r b N { S with t := upd S.t i true } := by
  have hf : Fr [p] w (w.setCell ⟨p, 3 * (1 - i) + 2, none⟩ (.bool true)) := (Fr.refl [p] w).setCell (.inl (by simp)) _
  refine ⟨?_, fun j hj => (h.ring j hj).fr hf (by have := h.ne; rcases hj with rfl | rfl <;> simp <;> omega) (by have := h.ne; rcases hj with rfl | rfl <;> simp <;> omega), h.ne⟩
  rcases hi with rfl | rfl
  · exact h.blk.set_ 5 _
  · exact h.blk.set_ 2 _
theorem endS_same (h : S.e i = true) : endS S i = S := by
  cases S with
  | mk x e t =>
    simp only [endS, Sta.mk.injEq, true_and, and_true]
    funext j
    simp only [upd]
    split
    · subst_vars; exact h.symm
    · rfl
theorem shutS_no (h : shutB S i = false) : shutS S i = S := by
  cases S with
  | mk x e t =>
    simp only [shutS, h, Bool.or_false, Sta.mk.injEq, true_and]
    funext j
    simp only [upd]
    split
    · subst_vars; rfl
    · rfl
theorem shutS_yes (h : shutB S i = true) : shutS S i = { S with t := upd S.t i true } := by simp [shutS, h]
end

theorem from_calls (p : Nat) (r b : Nat → Nat) (N i : Nat) (S : Sta) (w : World) (h : RelS w p r b N S) (hi : i = 0 ∨ i = 1) :
    Calls Try.prog 48 #[.pointer (some ⟨p, 0, none⟩), .int .i64 i] w fun e w' => e = .returned (.pointer (some ⟨p, 3 * i, none⟩)) ∧ w = w' := by
  rcases hi with rfl | rfl
  · exact from_zero _ _ _ _ _ _ _ w h.relC
  · exact from_one _ _ _ _ _ _ _ w h.relC
theorem from_off (p : Nat) (r b : Nat → Nat) (N : Nat) (S : Sta) (s : Int) (w : World) (h : RelS w p r b N S) (hs : s < 0 ∨ 2 ≤ s) :
    Calls Try.prog 48 #[.pointer (some ⟨p, 0, none⟩), .int .i64 s] w fun e w' => e = .returned (.pointer none) ∧ w = w' := from_bad _ _ _ _ _ _ _ s w h.relC hs

end Go.Proofs.Ytokdcddmljfgnaa
