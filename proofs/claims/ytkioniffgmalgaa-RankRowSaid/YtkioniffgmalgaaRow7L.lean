/-
  RankRow's plain laws: the turned row is a permutation; where it has what; none alike.
-/
import Derived.Test.YtkioniffgmalgaaRow7S
namespace Go.Proofs.Ytkioniffgmalgaa
open Go.RowKit Go.Sort Sp
set_option linter.unusedVariables false

def rot {α : Type} (l : List α) (p : Nat) : List α := l.drop p ++ l.take p
theorem rot_perm {α : Type} (l : List α) (p : Nat) : (rot l p).Perm l := by
  unfold rot
  refine List.perm_append_comm.trans ?_
  rw [List.take_append_drop]
theorem rot_len {α : Type} (l : List α) (p : Nat) : (rot l p).length = l.length := (rot_perm l p).length_eq
theorem rot_get {α : Type} (l : List α) {p i : Nat} (hp : p < l.length) (hi : i < l.length) : (rot l p)[i]? = l[(p + i) % l.length]? := by
  unfold rot
  rcases Nat.lt_or_ge i (l.length - p) with h | h
  · rw [List.getElem?_append_left (by rw [List.length_drop]; exact h), List.getElem?_drop, Nat.mod_eq_of_lt (by omega)]
  · rw [List.getElem?_append_right (by rw [List.length_drop]; exact h), List.length_drop, List.getElem?_take, if_pos (by omega)]
    have e : (p + i) % l.length = i - (l.length - p) := by
      rw [show p + i = (i - (l.length - p)) + l.length by omega, Nat.add_mod_right, Nat.mod_eq_of_lt (by omega)]
    rw [e]

/-- The turned row. -/
def trn {α : Type} (l : List α) (p : Nat) (back : Bool) : List α := if back then rot l.reverse p else rot l p
def atT (n p : Nat) (back : Bool) (i : Nat) : Nat := if back then n - 1 - (p + i) % n else (p + i) % n
theorem trn_perm {α : Type} (l : List α) (p : Nat) (back : Bool) : (trn l p back).Perm l := by
  unfold trn
  cases back
  · exact rot_perm _ _
  · exact (rot_perm _ _).trans (List.reverse_perm l)
theorem trn_len {α : Type} (l : List α) (p : Nat) (back : Bool) : (trn l p back).length = l.length := (trn_perm l p back).length_eq
theorem trn_get {α : Type} (l : List α) {p i : Nat} (back : Bool) (hp : p < l.length) (hi : i < l.length) : (trn l p back)[i]? = l[atT l.length p back i]? := by
  unfold trn atT
  cases back
  · exact rot_get l hp hi
  · simp only [if_true]
    rw [rot_get _ (by simpa using hp) (by simpa using hi), List.length_reverse, List.getElem?_reverse (Nat.mod_lt _ (by omega))]
theorem atT_lt {n p : Nat} (back : Bool) (i : Nat) (h : 0 < n) : atT n p back i < n := by
  unfold atT
  have := Nat.mod_lt (p + i) h
  split <;> omega

/-- Among the first k no two are alike. -/
def NoAl (key : List Int) (l : List (ByteArray × Int)) (k : Nat) : Prop := ∀ i, i < k → ∀ j, j < i → ∀ r r', l[i]? = some r → l[j]? = some r' →
  alikeB r.1 r'.1 (scS key r.1 r.2) (scS key r'.1 r'.2) (decide (0 < r.2)) (decide (0 < r'.2)) = false
/-- The runner r is alike to none of the first j. -/
def NoAl1 (key : List Int) (l : List (ByteArray × Int)) (s : ByteArray) (sc : Int) (q : Bool) (k : Nat) : Prop := ∀ j, j < k → ∀ r', l[j]? = some r' →
  alikeB s r'.1 sc (scS key r'.1 r'.2) q (decide (0 < r'.2)) = false
theorem NoAl.zero (key : List Int) (l : List (ByteArray × Int)) : NoAl key l 0 := fun i hi => by omega
theorem NoAl.succ {key : List Int} {l : List (ByteArray × Int)} {k : Nat} {s : ByteArray} {x : Int} (h : NoAl key l k) (hk : l[k]? = some (s, x)) (h1 : NoAl1 key l s (scS key s x) (decide (0 < x)) k) : NoAl key l (k + 1) := fun i hi j hj r r' hr hr' => by
  rcases Nat.lt_or_ge i k with h2 | h2
  · exact h i h2 j hj r r' hr hr'
  · obtain rfl : i = k := by omega
    rw [hk] at hr; cases hr
    exact h1 j hj r' hr'
theorem NoAl1.zero (key : List Int) (l : List (ByteArray × Int)) (s : ByteArray) (sc : Int) (q : Bool) : NoAl1 key l s sc q 0 := fun i hi => by omega
theorem NoAl1.succ {key : List Int} {l : List (ByteArray × Int)} {s : ByteArray} {sc : Int} {q : Bool} {k : Nat} {r : ByteArray × Int} (h : NoAl1 key l s sc q k) (hk : l[k]? = some r) (h1 : alikeB s r.1 sc (scS key r.1 r.2) q (decide (0 < r.2)) = false) : NoAl1 key l s sc q (k + 1) := fun i hi r' hr' => by
  rcases Nat.lt_or_ge i k with h2 | h2
  · exact h i h2 r' hr'
  · obtain rfl : i = k := by omega
    rw [hk] at hr'; cases hr'
    exact h1
theorem NoAl.apart {key : List Int} {l : List (ByteArray × Int)} (h : NoAl key l l.length) : ∀ a ∈ l, ∀ b ∈ l, scS key a.1 a.2 = scS key b.1 b.2 → decide (0 < a.2) = decide (0 < b.2) → a = b := fun a ha b hb h1 h2 => by
  obtain ⟨i, hi, rfl⟩ := List.mem_iff_getElem.1 ha
  obtain ⟨j, hj, rfl⟩ := List.mem_iff_getElem.1 hb
  rcases Nat.lt_trichotomy i j with h3 | h3 | h3
  · have := h j hj i h3 _ _ (List.getElem?_eq_getElem hj) (List.getElem?_eq_getElem hi)
    simp [alikeB, h1, h2] at this
  · subst h3; rfl
  · have := h i hi j h3 _ _ (List.getElem?_eq_getElem hi) (List.getElem?_eq_getElem hj)
    simp [alikeB, h1, h2] at this

/-- The same runner stands at place i of both orders. -/
theorem row_at {key : List Int} {l t : List (ByteArray × Int)} (hp : t.Perm l) (h : NoAl key l l.length) {i : Nat} (hi : i < l.length) : ∃ (x y : Nat) (s : ByteArray) (z : Int), (ordL key l)[i]? = some (x : Int) ∧ (ordL key t)[i]? = some (y : Int) ∧ l[x]? = some (s, z) ∧ t[y]? = some (s, z) := by
  obtain ⟨x, r, hx, hr⟩ := once_at key l hi
  obtain ⟨y, r', hy, hr'⟩ := once_at key t (i := i) (by rw [hp.length_eq]; exact hi)
  have h1 := row_law key l t hp h.apart hx hy
  simp only at h1
  rw [hr, hr'] at h1
  obtain rfl : r = r' := Option.some.inj h1
  refine ⟨x, y, r.1, r.2, ?_, ?_, hr, hr'⟩
  · rw [ordL_eq, List.getElem?_map, hx]; rfl
  · rw [ordL_eq, List.getElem?_map, hy]; rfl

end Go.Proofs.Ytkioniffgmalgaa
