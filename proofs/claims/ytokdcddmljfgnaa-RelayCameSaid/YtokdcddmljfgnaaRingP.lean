/-
  Plain facts on bytes in a ring.
-/
namespace Go.Proofs.Ytokdcddmljfgnaa

theorem mod_ne {N a b : Nat} (h : a < b) (h2 : b < a + N) : a % N ≠ b % N := by
  intro e
  have h3 := Nat.sub_mod_eq_zero_of_mod_eq e.symm
  rw [Nat.mod_eq_of_lt (by omega)] at h3
  omega

theorem splice_getD (mem ys : List Int) (p q : Nat) (hp : p + ys.length ≤ mem.length) :
    (mem.take p ++ ys ++ mem.drop (p + ys.length)).getD q 0 = if p ≤ q ∧ q < p + ys.length then ys.getD (q - p) 0 else mem.getD q 0 := by
  have e : (mem.take p).length = p := by simp; omega
  simp only [List.getD_eq_getElem?_getD]
  by_cases h1 : q < p
  · rw [if_neg (by omega), List.getElem?_append_left (by simp; omega), List.getElem?_append_left (by omega), List.getElem?_take, if_pos h1]
  · by_cases h2 : q < p + ys.length
    · rw [if_pos (by omega), List.getElem?_append_left (by simp; omega), List.getElem?_append_right (by omega), e]
    · rw [if_neg (by omega), List.getElem?_append_right (by simp; omega), List.getElem?_drop]
      congr 2
      simp; omega

theorem held_put {N f a len : Nat} {mem ys : List Int} {v : Nat → Int} (hm : mem.length = N) (hl : ys.length = len) (h : ∀ k, k < a → mem.getD ((f + k) % N) 0 = v k)
    (hfit : (f + a) % N + len ≤ N) (ha : a + len ≤ N) (hy : ∀ j, j < len → ys.getD j 0 = v (a + j)) :
    ∀ k, k < a + len → (mem.take ((f + a) % N) ++ ys ++ mem.drop ((f + a) % N + len)).getD ((f + k) % N) 0 = v k := by
  intro k hk
  have hp : ∀ j, j < len → (f + (a + j)) % N = (f + a) % N + j := fun j hj => by
    rw [← Nat.add_assoc, ← Nat.mod_add_mod, Nat.mod_eq_of_lt (by omega)]
  subst hl
  rw [splice_getD _ _ _ _ (by omega)]
  by_cases hka : k < a
  · rw [if_neg, h k hka]
    rintro ⟨h1, h2⟩
    have := hp ((f + k) % N - (f + a) % N) (by omega)
    rw [show (f + a) % N + ((f + k) % N - (f + a) % N) = (f + k) % N by omega] at this
    exact mod_ne (N := N) (a := f + k) (b := f + (a + ((f + k) % N - (f + a) % N))) (by omega) (by omega) this.symm
  · have e := hp (k - a) (by omega)
    rw [show a + (k - a) = k by omega] at e
    rw [e, if_pos (by omega), show (f + a) % N + (k - a) - (f + a) % N = k - a by omega, hy _ (by omega)]
    congr 1; omega

end Go.Proofs.Ytokdcddmljfgnaa
