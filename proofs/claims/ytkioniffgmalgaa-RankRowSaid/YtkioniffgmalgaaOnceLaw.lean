/-
  What RankOnce asks, of the order of runners: plain laws.
-/
import Derived.Test.YtkioniffgmalgaaRunRow
namespace Go.Proofs.Ytkioniffgmalgaa
open Go.RowKit Go.Sort Sp
set_option linter.unusedVariables false

def runsL (key : List Int) (l : List (ByteArray × Int)) : List Rn := runs key (l.map (·.1)) (l.map (·.2))
theorem runsL_len (key : List Int) (l : List (ByteArray × Int)) : (runsL key l).length = l.length := by simp [runsL, runs_len]
theorem runsL_get (key : List Int) (l : List (ByteArray × Int)) {k : Nat} {r : ByteArray × Int} (h : l[k]? = some r) : (runsL key l)[k]? = some ⟨k, scS key r.1 r.2, decide (0 < r.2)⟩ :=
  runs_get key _ _ (by simp [h]) (by simp [h])
theorem runsL_mem (key : List Int) (l : List (ByteArray × Int)) {x : Rn} (h : x ∈ runsL key l) : ∃ (p : Nat) (r : ByteArray × Int), l[p]? = some r ∧ x = ⟨p, scS key r.1 r.2, decide (0 < r.2)⟩ := by
  obtain ⟨k, hk, rfl⟩ := List.mem_iff_getElem.1 h
  have hk' : k < l.length := by rw [← runsL_len key l]; exact hk
  refine ⟨k, l[k], List.getElem?_eq_getElem hk', ?_⟩
  have := runsL_get key l (List.getElem?_eq_getElem hk')
  rw [List.getElem?_eq_getElem hk] at this
  exact Option.some.inj this
theorem runsL_places (key : List Int) (l : List (ByteArray × Int)) : (runsL key l).map (·.place) = List.range l.length := by
  apply List.ext_getElem?
  intro k
  rw [List.getElem?_map]
  rcases Nat.lt_or_ge k l.length with h | h
  · rw [runsL_get key l (List.getElem?_eq_getElem h), List.getElem?_range h]; rfl
  · rw [List.getElem?_eq_none (by rw [runsL_len]; exact h), List.getElem?_eq_none (by simpa using h)]; rfl
theorem ordL_eq (key : List Int) (l : List (ByteArray × Int)) : ordL key l = (ordR (runsL key l)).map fun r => (r.place : Int) := rfl

/-- The runner at place i of the order. -/
theorem once_at (key : List Int) (l : List (ByteArray × Int)) {i : Nat} (hi : i < l.length) : ∃ (p : Nat) (r : ByteArray × Int), (ordR (runsL key l))[i]? = some ⟨p, scS key r.1 r.2, decide (0 < r.2)⟩ ∧ l[p]? = some r := by
  have hi' : i < (ordR (runsL key l)).length := by rw [ordR_len, runsL_len]; exact hi
  obtain ⟨p, r, h1, h2⟩ := runsL_mem key l ((ordR_perm _).mem_iff.1 (List.getElem_mem hi'))
  exact ⟨p, r, by rw [List.getElem?_eq_getElem hi', h2], h1⟩
theorem once_nodup (key : List Int) (l : List (ByteArray × Int)) : ((ordR (runsL key l)).map (·.place)).Nodup := by
  rw [((ordR_perm (runsL key l)).map (·.place)).nodup_iff, runsL_places]
  exact List.nodup_range
theorem once_new (key : List Int) (l : List (ByteArray × Int)) {i : Nat} {x : Rn} (hi : (ordR (runsL key l))[i]? = some x) : x.place ∉ ((ordR (runsL key l)).map (·.place)).take i := by
  intro hm
  obtain ⟨j, hj, he⟩ := List.mem_iff_getElem.1 hm
  have hn := once_nodup key l
  have hi' : i < ((ordR (runsL key l)).map (·.place)).length := by
    rw [List.length_map]
    rcases Nat.lt_or_ge i (ordR (runsL key l)).length with h | h
    · exact h
    · rw [List.getElem?_eq_none h] at hi; cases hi
  have hji : j < i := by simp at hj; omega
  have h2 : ((ordR (runsL key l)).map (·.place))[i] = x.place := by
    rw [List.getElem_map]
    rw [List.getElem?_eq_getElem (by simpa using hi')] at hi
    rw [Option.some.inj hi]
  rw [List.getElem_take] at he
  have h3 := (List.getElem_inj hn).1 (he.trans h2.symm)
  omega
theorem once_le (key : List Int) (l : List (ByteArray × Int)) {i : Nat} {x y : Rn} (hx : (ordR (runsL key l))[i]? = some x) (hy : (ordR (runsL key l))[i + 1]? = some y) : leR x y = true := by
  have hs := List.pairwise_iff_getElem.1 (ordR_sorted (runsL key l))
  have h2 : i + 1 < (ordR (runsL key l)).length := by
    rcases Nat.lt_or_ge (i + 1) (ordR (runsL key l)).length with h | h
    · exact h
    · rw [List.getElem?_eq_none h] at hy; cases hy
  have := hs i (i + 1) (by omega) h2 (by omega)
  rw [List.getElem?_eq_getElem (by omega)] at hx
  rw [List.getElem?_eq_getElem h2] at hy
  rwa [Option.some.inj hx, Option.some.inj hy] at this

/-- What RankOnce asks of two that stand one behind the other. -/
def badTwo (x y : Rn) : Bool := (!x.has && y.has) || (x.has && y.has && decide (x.score < y.score)) || (x.has == y.has && decide (x.score = y.score) && decide (y.place < x.place))
theorem badTwo_le {x y : Rn} (h : leR x y = true) : badTwo x y = false := by
  rw [leR_iff] at h
  unfold badTwo
  obtain ⟨xp, xs, xh⟩ := x
  obtain ⟨yp, ys, yh⟩ := y
  cases xh <;> cases yh <;> simp at h ⊢ <;> omega

end Go.Proofs.Ytkioniffgmalgaa
