/-
  slices.SortFunc at runners, by its contract: the row holds them in their one order.
-/
import Derived.Test.YtkioniffgmalgaaLayR
import Derived.Test.YtkioniffgmalgaaRank9
import Derived.Shelf.SlSortCmp.NoneTotal
namespace Go.Proofs.Ytkioniffgmalgaa
open Go.RowKit Go.Sort Go.Shelf Sp
set_option linter.unusedVariables false

theorem sort_calls (blk cap : Nat) (d : Array Rn) (w : World) (hH : HoldsK encR 3 w blk 0 d) (hblk : blk < w.heap.size) (hsz : d.size < 4611686018427387904) :
    Calls Try.prog 41 #[.slice (some ⟨blk, 0, none⟩) d.size cap, .func (.func 42) #[] #[]] w fun e w' => e = .returned (.tuple #[]) ∧ HoldsK encR 3 w' blk 0 (ordR d.toList).toArray ∧ Fr [blk] w w' := by
  have eg : ∀ args w, (callFunc 42 args).run Try.prog w = .ok (.enter 42 args) w := enters_of Try.func42 (by kernel_rfl) rfl
  have hcmp : CmpLays Try.prog 42 #[] encR 3 cfR blk 0 d.size w := fun _ _ _ _ x y => clo_calls x y _
  have hcon := AnyQ.slices_SortFunc_total sortR 3 Try.isAgg78 Try.sizeOf78 encR (fun _ => rfl) (fun x v hv => by simp [encR] at hv; rcases hv with rfl | rfl | rfl <;> rfl) cfR ltR_swo 42 #[] blk 0 cap d w eg hcmp hH hblk hsz ltR_total
  change Calls Try.prog 41 _ _ _ at hcon
  refine hcon.mono ?_
  rintro e w' ⟨rfl, n, os, rfl⟩
  have hl : (ordR d.toList).toArray.size = d.size := by simp [ordR]
  have hb2 : blk < (putRowK encR 3 (Sort.ahead w n) blk 0 (ordR d.toList).toArray).heap.size := by
    show blk < ((w.heap).modify blk _).size
    simpa using hblk
  refine ⟨rfl, ?_, ?_⟩
  · exact holdsK_grow _ _ _ _ _ _ _ hb2 (holdsK_putRowK _ _ _ _ _ d _ (holdsK_ahead _ _ _ _ _ _ _ hH) hl)
  · refine ⟨rfl, rfl, rfl, ?_, fun k hk hn => ?_⟩
    · show w.heap.size ≤ (((w.heap).modify blk _) ++ os).size
      simp
    · show (((w.heap).modify blk _) ++ os)[k]? = w.heap[k]?
      have hne : blk ≠ k := fun e => hn (by simp [e])
      rw [Array.getElem?_append_left (by simpa using hk), Array.getElem?_modify, if_neg hne]

theorem sort_none (A : Option Addr) (cap : Nat) (fv : Value) (w : World) : Calls Try.prog 41 #[.slice A 0 cap, fv] w fun e w' => e = .returned (.tuple #[]) ∧ w = w' := by
  have hcon := AnyF.slices_SortFunc_none sortR A cap fv w
  change Calls Try.prog 41 _ _ _ at hcon
  refine hcon.mono ?_
  rintro e w' ⟨rfl, rfl⟩
  exact ⟨rfl, rfl⟩

theorem sort_any {w : World} {base : Nat} {v : Value} {l : List Rn} (h : w.ownsRow base 78 3 v l.length (rcells l)) (hsz : l.length < 4611686018427387904) :
    ∃ A c, v = .slice A l.length c ∧ Calls Try.prog 41 #[.slice A l.length c, .func (.func 42) #[] #[]] w fun e w' => e = .returned (.tuple #[]) ∧ RowR w' base A (ordR l) ∧ ∃ L, (∀ x ∈ L, base ≤ x ∧ x < w.heap.size) ∧ Fr L w w' := by
  rcases Nat.eq_zero_or_pos l.length with h0 | h0
  · have hl : l = [] := List.eq_nil_of_length_eq_zero h0
    subst hl
    rcases h.2 with ⟨rfl, _⟩ | ⟨g, cap, cur, rfl, _⟩
    · exact ⟨none, 0, rfl, (sort_none _ _ _ w).mono (by rintro e w' ⟨rfl, rfl⟩; exact ⟨rfl, fun hp => by simp [ordR] at hp, [], by simp, Fr.refl _ _⟩)⟩
    · exact ⟨_, _, rfl, (sort_none _ _ _ w).mono (by rintro e w' ⟨rfl, rfl⟩; exact ⟨rfl, fun hp => by simp [ordR] at hp, [], by simp, Fr.refl _ _⟩)⟩
  · obtain ⟨g, cap, rfl, hb, hlt, hH⟩ := holds_of_own h h0
    refine ⟨some ⟨g, 0, none⟩, cap, by simp, ?_⟩
    have hc := sort_calls g cap l.toArray w hH hlt (by simpa using hsz)
    have e : l.toArray.size = l.length := by simp
    rw [e] at hc
    refine hc.mono ?_
    rintro e w' ⟨rfl, hH', hf⟩
    exact ⟨rfl, rowR_holds hH' hb (Nat.lt_of_lt_of_le hlt hf.size), [g], fun x hx => by simp at hx; omega, hf⟩

end Go.Proofs.Ytkioniffgmalgaa
