/-
  The plain mathematics of the sums: bytes, their words, the state behind them.
-/
import Derived.Test.YtkioniffgmalgaaPlain
namespace Go.Proofs.Ytkioniffgmalgaa.Sp

def begunS (k0 k1 : Int) : St := ⟨xo k0 8317987319222330741, xo k1 7237128888997146477, xo k0 7816392313619706465, xo k1 8387220255154660723⟩
/-- All are bytes. -/
def Byts (bs : List Int) : Prop := ∀ i, 0 ≤ bs.getD i 0 ∧ bs.getD i 0 < 256
/-- The state when i words were taken in. -/
def stOf (k0 k1 : Int) (bs : List Int) : Nat → St
  | 0 => begunS k0 k1
  | i + 1 => wordS (stOf k0 k1 bs i) (numTo (bs.drop (8 * i)) 8)
theorem Byts.drop {bs : List Int} (h : Byts bs) (n : Nat) : Byts (bs.drop n) := by
  intro i
  have := h (n + i)
  simpa [List.getD_eq_getElem?_getD, List.getElem?_drop] using this
theorem Byts.take {bs : List Int} (h : Byts bs) (n : Nat) : Byts (bs.take n) := by
  intro i
  have := h i
  simp only [List.getD_eq_getElem?_getD, List.getElem?_take] at this ⊢
  split
  · exact this
  · simp
theorem begunS_W {k0 k1 : Int} (h0 : W k0) (h1 : W k1) : (begunS k0 k1).W :=
  ⟨W.xo h0 (by unfold W; omega), W.xo h1 (by unfold W; omega), W.xo h0 (by unfold W; omega), W.xo h1 (by unfold W; omega)⟩
theorem numTo_W {L : List Int} (h : Byts L) : W (numTo L 8) := by
  have := numTo_bd h 8
  unfold W
  omega
theorem stOf_W {k0 k1 : Int} {bs : List Int} (h0 : W k0) (h1 : W k1) (hb : Byts bs) : ∀ i, (stOf k0 k1 bs i).W
  | 0 => begunS_W h0 h1
  | i + 1 => wordS_W (stOf_W h0 h1 hb i) (numTo_W (hb.drop _))
/-- The bytes of the word that is not whole yet are L's first. -/
def Tail (bs L : List Int) : Prop := L.length = 8 ∧ Byts L ∧ ∀ j, j < bs.length % 8 → L.getD j 0 = bs.getD (8 * (bs.length / 8) + j) 0
theorem byts_set {L : List Int} (h : Byts L) {x : Int} (hx : 0 ≤ x ∧ x < 256) (j : Nat) : Byts (L.set j x) := by
  intro i
  have := h i
  simp only [List.getD_eq_getElem?_getD, List.getElem?_set] at this ⊢
  split
  · split
    · simpa using hx
    · simp
  · exact this

theorem getD_append_left (a b : List Int) {i : Nat} (h : i < a.length) : (a ++ b).getD i 0 = a.getD i 0 := by
  simp [List.getD_eq_getElem?_getD, List.getElem?_append_left h]
theorem getD_drop (a : List Int) (n i : Nat) : (a.drop n).getD i 0 = a.getD (n + i) 0 := by
  simp [List.getD_eq_getElem?_getD, List.getElem?_drop]
theorem numTo_congr {a b : List Int} : ∀ k, (∀ j, j < k → a.getD j 0 = b.getD j 0) → numTo a k = numTo b k
  | 0, _ => rfl
  | k + 1, h => by simp only [numTo]; rw [numTo_congr k (fun j hj => h j (by omega)), h k (by omega)]
theorem stOf_append (k0 k1 : Int) (bs ys : List Int) : ∀ i, 8 * i ≤ bs.length → stOf k0 k1 (bs ++ ys) i = stOf k0 k1 bs i
  | 0, _ => rfl
  | i + 1, h => by
    simp only [stOf]
    rw [stOf_append k0 k1 bs ys i (by omega), numTo_congr (b := bs.drop (8 * i)) 8 (fun j hj => by rw [getD_drop, getD_drop, getD_append_left _ _ (by omega)])]
theorem getD_set (L : List Int) (j : Nat) (x : Int) (i : Nat) (hj : j < L.length) : (L.set j x).getD i 0 = if i = j then x else L.getD i 0 := by
  simp only [List.getD_eq_getElem?_getD, List.getElem?_set]
  by_cases e : i = j
  · subst e; simp [hj]
  · rw [if_neg (Ne.symm e), if_neg e]
theorem tail_get {bk L : List Int} {x : Int} (hT : Tail bk L) (j : Nat) (hj : j ≤ bk.length % 8) : (L.set (bk.length % 8) x).getD j 0 = (bk ++ [x]).getD (8 * (bk.length / 8) + j) 0 := by
  rw [getD_set _ _ _ _ (by rw [hT.1]; omega)]
  by_cases e : j = bk.length % 8
  · rw [if_pos e, List.getD_eq_getElem?_getD, show 8 * (bk.length / 8) + j = bk.length from by omega]
    simp
  · rw [if_neg e, hT.2.2 j (by omega), getD_append_left _ _ (by omega)]
/-- One byte more, the word not whole yet. -/
theorem step_more (k0 k1 : Int) {bk L : List Int} {x : Int} (hT : Tail bk L) (hx : 0 ≤ x ∧ x < 256) (hw : (bk.length + 1) % 8 ≠ 0) :
    Tail (bk ++ [x]) (L.set (bk.length % 8) x) ∧ stOf k0 k1 (bk ++ [x]) ((bk.length + 1) / 8) = stOf k0 k1 bk (bk.length / 8) := by
  refine ⟨⟨by simp [hT.1], byts_set hT.2.1 hx _, fun j hj => ?_⟩, ?_⟩
  · simp only [List.length_append, List.length_cons, List.length_nil] at hj ⊢
    rw [tail_get hT j (by omega), show (bk.length + (0 + 1)) / 8 = bk.length / 8 from by omega]
  · rw [show (bk.length + 1) / 8 = bk.length / 8 from by omega, stOf_append _ _ _ _ _ (by omega)]
/-- .. the word whole. -/
theorem step_whole (k0 k1 : Int) {bk L : List Int} {x : Int} (hT : Tail bk L) (hx : 0 ≤ x ∧ x < 256) (hw : (bk.length + 1) % 8 = 0) :
    Tail (bk ++ [x]) (L.set (bk.length % 8) x) ∧ stOf k0 k1 (bk ++ [x]) ((bk.length + 1) / 8) = wordS (stOf k0 k1 bk (bk.length / 8)) (numTo (L.set (bk.length % 8) x) 8) := by
  refine ⟨⟨by simp [hT.1], byts_set hT.2.1 hx _, fun j hj => ?_⟩, ?_⟩
  · simp only [List.length_append, List.length_cons, List.length_nil] at hj
    omega
  · rw [show (bk.length + 1) / 8 = bk.length / 8 + 1 from by omega]
    simp only [stOf]
    rw [stOf_append _ _ _ _ _ (by omega), numTo_congr (a := (bk ++ [x]).drop (8 * (bk.length / 8))) (b := L.set (bk.length % 8) x) 8 (fun j hj => by rw [getD_drop, tail_get hT j (by omega)])]

end Go.Proofs.Ytkioniffgmalgaa.Sp
