/-
  The reference's words are the program's.
-/
import Derived.Test.YtkioniffgmalgaaPlain4
namespace Go.Proofs.Ytkioniffgmalgaa.Sp
set_option linter.unusedVariables false

/-- The bytes of word i. -/
def wl (bs : List Int) (i : Nat) : List Int := if i = bs.length / 8 then lastL (bs.drop (8 * (bs.length / 8))) bs.length else bs.drop (8 * i)
theorem wl_byts {bs : List Int} (h : Byts bs) (i : Nat) : Byts (wl bs i) := by
  unfold wl
  split
  · exact lastL_byts (h.drop _) _
  · exact h.drop _
theorem lastL_getD (L : List Int) (n : Nat) (hL : L.length = n % 8) (j : Nat) : (lastL L n).getD j 0 = if j = 7 then (n : Int) % 256 else if j < n % 8 then L.getD j 0 else 0 := by
  unfold lastL
  rw [getD_set _ _ _ _ (by simp; omega)]
  split
  · rfl
  · rw [List.getD_eq_getElem?_getD, List.getElem?_append, List.length_take]
    by_cases h : j < n % 8
    · rw [if_pos (by omega), if_pos h, List.getElem?_take, if_pos h, List.getD_eq_getElem?_getD]
    · rw [if_neg (by omega), if_neg h, List.getElem?_replicate]
      split <;> rfl
/-- A word that is whole, or a byte of the last one. -/
theorem wl_byte (bs : List Int) (i k : Nat) (hk : k < 8) (h : 8 * i + k < bs.length) : (wl bs i).getD k 0 = bs.getD (8 * i + k) 0 := by
  unfold wl
  split
  · rename_i e
    rw [lastL_getD _ _ (by simp; omega) k, if_neg (by omega), if_pos (by omega), getD_drop, ← e]
  · rw [getD_drop]
theorem wl_zero (bs : List Int) (i k : Nat) (hk : k < 7) (he : i = bs.length / 8) (h : ¬ 8 * i + k < bs.length) : (wl bs i).getD k 0 = 0 := by
  unfold wl
  rw [if_pos he, lastL_getD _ _ (by simp; omega) k, if_neg (by omega), if_neg (by omega)]
theorem wl_last (bs : List Int) (i : Nat) (he : i = bs.length / 8) : (wl bs i).getD 7 0 = (bs.length : Int) % 256 := by
  unfold wl
  rw [if_pos he, lastL_getD _ _ (by simp; omega) 7, if_pos rfl]
/-- What a byte is worth. -/
def worth (k : Nat) : Int := 256 ^ k % 18446744073709551616
theorem worth_step (k : Nat) : IntKind.u64.wrap (256 * worth k) = worth (k + 1) := by
  rw [IntKind.wrap_u64]; unfold worth
  rw [Int.pow_succ]; omega
theorem numTo_step {L : List Int} (h : Byts L) (k : Nat) (hk : k < 8) : IntKind.u64.wrap (numTo L k + IntKind.u64.wrap (worth k * L.getD k 0)) = numTo L (k + 1) := by
  have h1 := numTo_bd h k
  have h2 := numTo_bd h (k + 1)
  have hb := h k
  simp only [numTo] at h2 ⊢
  rw [IntKind.wrap_u64, IntKind.wrap_u64]
  have hw : worth k = 256 ^ k := by
    unfold worth
    rcases (by omega : k = 0 ∨ k = 1 ∨ k = 2 ∨ k = 3 ∨ k = 4 ∨ k = 5 ∨ k = 6 ∨ k = 7) with rfl | rfl | rfl | rfl | rfl | rfl | rfl | rfl <;> decide
  rw [hw, Int.mul_comm]
  generalize numTo L k = a at *
  generalize L.getD k 0 = b at *
  rcases (by omega : k = 0 ∨ k = 1 ∨ k = 2 ∨ k = 3 ∨ k = 4 ∨ k = 5 ∨ k = 6 ∨ k = 7) with rfl | rfl | rfl | rfl | rfl | rfl | rfl | rfl <;> omega
/-- The words. -/
def wordsL (bs : List Int) (i : Nat) : List Int := (List.range i).map fun j => numTo (wl bs j) 8
theorem wordsL_succ (bs : List Int) (i : Nat) : wordsL bs (i + 1) = wordsL bs i ++ [numTo (wl bs i) 8] := by
  unfold wordsL; rw [List.range_succ, List.map_append]; rfl
theorem wordsL_len (bs : List Int) (i : Nat) : (wordsL bs i).length = i := by simp [wordsL]
theorem numTo_wl_whole (bs : List Int) (i : Nat) (h : i < bs.length / 8) : numTo (wl bs i) 8 = numTo (bs.drop (8 * i)) 8 := by
  unfold wl; rw [if_neg (by omega)]
theorem numTo_wl_last (bs : List Int) : numTo (wl bs (bs.length / 8)) 8 = lastW bs := by
  unfold wl; rw [if_pos rfl]; rfl
/-- The state behind i of the words. -/
def foldW (k0 k1 : Int) (bs : List Int) : Nat → St
  | 0 => begunS k0 k1
  | i + 1 => wordS (foldW k0 k1 bs i) (numTo (wl bs i) 8)
theorem foldW_eq (k0 k1 : Int) (bs : List Int) : ∀ i, i ≤ bs.length / 8 → foldW k0 k1 bs i = stOf k0 k1 bs i
  | 0, _ => rfl
  | i + 1, h => by simp only [foldW, stOf]; rw [foldW_eq k0 k1 bs i (by omega), numTo_wl_whole bs i (by omega)]
theorem foldW_end (k0 k1 : Int) (bs : List Int) : endS (foldW k0 k1 bs (bs.length / 8 + 1)) = sumS k0 k1 bs := by
  simp only [foldW]
  rw [foldW_eq _ _ _ _ (Nat.le_refl _), numTo_wl_last]; rfl
theorem foldW_W {k0 k1 : Int} {bs : List Int} (h0 : W k0) (h1 : W k1) (hb : Byts bs) : ∀ i, (foldW k0 k1 bs i).W
  | 0 => begunS_W h0 h1
  | i + 1 => wordS_W (foldW_W h0 h1 hb i) (numTo_W (wl_byts hb i))

end Go.Proofs.Ytkioniffgmalgaa.Sp
